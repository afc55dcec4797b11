/- The program's Recursive returns what the reference's returns, for all arguments.: part 34 of a proof by an executable machine over the program's code. -/
import Derived.Test.YtljpfhpcbfpooaaGreatDoorL72
set_option linter.unusedVariables false
set_option linter.unusedSimpArgs false
set_option maxRecDepth 100000
set_option maxHeartbeats 6000000
namespace Go.Mach
open Go Go.RowKit Go.Proofs
theorem wp_mid {P : Program} {E : Env} {w : World} {a : Act} (hE : EnvOk P E) {fn : Func} {c : Code} {n : Nat} {fi : FnI} {out : S → Option D} {da : List D} {PP : D → List Nat → Prop} (h : AnsI E fi .normal out da PP) (hb : fi.body = takeC n c) {σ : Nat → Nat}
  (hd : a.defers = []) (hsz : a.tmps.size = fi.ntmps) (hr : ∀ i, i < da.length → da.getD i .junk = .junk ∨ ArgR σ w (da.getD i .junk) (a.tmps.getD i undef)) (hbig : ∀ b, w.heap.size ≤ b → σ b = 0) {R : Ending → World → Prop}
  (hk : ∀ d s1 G' a' w', out s1 = some d → PP d s1.tk → Sim ⟨w, [], [], [], σ, fun _ => 0, w.heap.size⟩ G' s1 a' w' → (dropC n c).wp P (bodyPost P fn R) a' w') : c.wp P (bodyPost P fn R) a w := by
 obtain ⟨hn, hden⟩ := h
 obtain ⟨m, x, s1, hrun, rfl, d, ho, hp⟩ := hden
 have hsim := sim_at (fi := fi) (σ := σ) hd hsz hr (Nat.le_of_ble_eq_true hn) hbig
 rw [hb] at hrun
 exact wp_take hE n c _ _ _ _ _ hrun hsim fun G' a' w' h => hk d s1 G' a' w' ho hp h
theorem fungraph_calls {w : World} {lo hi : Nat} {v : Value} {a : List Nd} {dp : Int} (hz : SzL a) (hh : hi ≤ w.heap.size) (hv : Row lo hi w 7 (eNd a) v) :
  Calls Tryz.prog 53 #[v, .int .i64 dp] w fun e w' => ∃ v', e = .returned v' ∧ Row w.heap.size w'.heap.size w' 2 (eEd (funM a dp)) v' ∧ Unf w' 2 (eEd (funM a dp)) v' ∧ Stay w w' := by
 have e45 : ∀ args w, (callFunc 15 args).run Tryz.prog w = .ok (.enter 15 args) w := enters_of Tryz.func15 (by kernel_rfl) rfl
 have e77 : ∀ args w, (callFunc 63 args).run Tryz.prog w = .ok (.enter 63 args) w := enters_of Tryz.func63 (by kernel_rfl) rfl
 have hn : Tryz.f53.ntmps = 35 := by kernel_rfl
 have hC := graph_calls (dp := dp) hz hh hv
 obtain ⟨x, c0, rfl⟩ := hv.shape
 refine calls_of_wp Tryz.func53 (c := bodyOf Tryz.f53) (by kernel_rfl) ?_
 simp only [hn, List.size_toArray, List.length_cons, List.length_nil, Nat.reduceAdd, Nat.reduceSub, Array.replicate_succ, Array.replicate_zero, List.push_toArray, List.append_toArray, List.nil_append, List.cons_append]
 have hb : bodyOf Tryz.f53 = .seq (headC 0 (bodyOf Tryz.f53)) (.seq (headC 1 (bodyOf Tryz.f53)) (dropC 1 (bodyOf Tryz.f53))) := by kernel_rfl
 rw [hb]
 obtain ⟨c, hc⟩ : ∃ c, c = dropC 1 (bodyOf Tryz.f53) := ⟨_, rfl⟩
 rw [← hc]
 simp only [headC, bodyOf, Tryz.f53, Option.getD]
 go_wp2_with (go_at_fn 15; refine hC.mono ?_; rintro e w2 ⟨v1, ok, rfl, hok, hr2, hu2, hs2⟩)
 rw [hc]
 have hv2 := hv.stay hh hs2
 have hz2 := hs2.1.size
 have ha1 : Arg w2 (.sl .ro 7 (eNd a)) (.slice x (eNd a).length c0) := .row hv2 (Nat.le_trans hh hz2) (flt_eNd a)
 have ha2 : Arg w2 (.sl .ro 2 (eEd (graphM a dp))) v1 := .row hr2 (Nat.le_refl _) (flt_eEd _)
 obtain ⟨_, σ1, r1, z1⟩ := ha1
 obtain ⟨_, σ2, r2, z2⟩ := ha2
 have q1 := r1.mono (σ' := fun b => max (σ1 b) (σ2 b)) (w' := w2) (fun b => Nat.le_max_left _ _) (fun _ _ _ => rfl)
 have q2 := r2.mono (σ' := fun b => max (σ1 b) (σ2 b)) (w' := w2) (fun b => Nat.le_max_right _ _) (fun _ _ _ => rfl)
 refine wp_mid env_okA (n := 1) (impl_FunGraph_mid.part std rfl a dp hz.sz (by have := hz.1; omega)) rfl (σ := fun b => max (σ1 b) (σ2 b)) rfl rfl ?_ (fun b hb => ?_) ?_
 · intro i hi'
   match i, hi' with
   | 0, _ => exact .inr (.inl ⟨rfl, q1⟩)
   | 1, _ => exact .inl rfl
   | 2, _ => exact .inl rfl
   | 3, _ => exact .inl rfl
   | 4, _ => exact .inl rfl
   | 5, _ => exact .inr (.inl ⟨rfl, q2⟩)
 · show max (σ1 b) (σ2 b) = 0
   rw [z1 b hb, z2 b hb]; rfl
 rintro d1 s1 G' a' w' hout ⟨tq, rfl, hlw⟩ hsim
 split at hout
 · rename_i hlen
   have hsz35 : a'.tmps.size = 35 := by rw [hsim.tmp.1, hlen]
   have hrep := hsim.tmp.2 7 (by rw [hlen]; decide)
   have h3 : s1.t.getD 7 .junk = .sl tq 2 (eEd (funR a dp)) := by rw [List.getD_eq_getElem?_getD, hout]; rfl
   rw [h3] at hrep
   have hlw' : Lw s1.tk tq (eEd (funR a dp)).length := by rw [len_eEd]; exact hlw
   have hown := own_block rfl hrep hlw'
   have hrd := hrep.sl_inv.1
   have hfr := hsim.inv.fr
   have hrow : Row w2.heap.size w'.heap.size w' 2 (eEd (funR a dp)) (a'.tmps.getD 7 undef) := .of_rd hrd (flt_eEd _) hsim.inv.iceBig (fun b o l c hv => (hown b o l c hv).1)
   have hcall := edgesIn_calls hrow (unf_own hown) (Nat.le_refl _) (by have := funR_len a dp; omega)
   obtain ⟨tm, df⟩ := a'
   obtain rfl : df = [] := hsim.def0
   dsimp only at hsz35 hcall
   have htm := arr_fn hsz35
   generalize hf : (fun i => tm.getD i undef) = f at htm
   have hf7 : tm.getD 7 undef = f 7 := by rw [← hf]
   rw [hf7] at hcall
   have htm2 : tm = #[f 0, f 1, f 2, f 3, f 4, f 5, f 6, f 7, f 8, f 9, f 10, f 11, f 12, f 13, f 14, f 15, f 16, f 17, f 18, f 19, f 20, f 21, f 22, f 23, f 24, f 25, f 26, f 27, f 28, f 29, f 30, f 31, f 32, f 33, f 34] := htm
   rw [htm2]
   simp only [dropC, bodyOf, Tryz.f53, Option.getD]
   have hw0 : Stay w2 w' := ⟨⟨hfr.os, hfr.tape, hfr.output.1, hfr.size, fun b hb => hfr.same b hb (fun p hp => by cases hp) (fun hh => by cases hh)⟩, hfr.output.2⟩
   clear hsim hrep hown hrd htm htm2 hout h3 hf hf7 hfr hrow
   go_wp2_with (go_at_fn 63; refine hcall.mono ?_; rintro e w'' ⟨v', rfl, hr3, hu3, hm3⟩)
   go_ret
   exact ⟨v', rfl, hr3.wide (Nat.le_trans hs2.1.size hw0.1.size) (Nat.le_refl _), hu3, hs2.trans ⟨hw0.1.trans (hm3.below (Nat.le_refl _) hw0.1.size), Nat.le_trans hw0.2 hm3.2.2.1.2⟩⟩
 · cases hout
end Go.Mach
namespace Go.Mach
open Go Go.RowKit
inductive ReachE (E : List Ed) (a : Int) : Int → Prop
 | one (e : Ed) : e ∈ E → e.f0 = a → ReachE E a e.f1
 | more (e : Ed) : e ∈ E → ReachE E a e.f0 → ReachE E a e.f1
def ClosedE (E : List Ed) (a : Int) (out : List Int) : Prop := ∀ e ∈ E, (e.f0 = a ∨ e.f0 ∈ out) → e.f1 ∈ out
def IsOnw (E : List Ed) (a : Int) (out : List Int) : Prop := RisI out ∧ ∀ x, x ∈ out ↔ ReachE E a x
theorem closedE_all {E : List Ed} {a : Int} {out : List Int} (h : ClosedE E a out) : ∀ x, ReachE E a x → x ∈ out := by
 intro x hx
 induction hx with
 | one e he e0 => exact h e he (.inl e0)
 | more e he _ ih => exact h e he (.inr ih)
theorem ris_ext : ∀ (o p : List Int), RisI o → RisI p → (∀ x, x ∈ o ↔ x ∈ p) → o = p
 | [], [], _, _, _ => rfl
 | [], y :: p, _, _, h => by have := (h y).2 List.mem_cons_self; cases this
 | x :: o, [], _, _, h => by have := (h x).1 List.mem_cons_self; cases this
 | x :: o, y :: p, ho, hp, h => by
   obtain ⟨h1, h2⟩ := List.pairwise_cons.1 ho
   obtain ⟨k1, k2⟩ := List.pairwise_cons.1 hp
   have e : x = y := by
    rcases List.mem_cons.1 ((h x).1 List.mem_cons_self) with e | m
    · exact e
    · rcases List.mem_cons.1 ((h y).2 List.mem_cons_self) with e | m2
      · exact e.symm
      · have := k1 x m; have := h1 y m2; omega
   subst e
   congr 1
   refine ris_ext o p h2 k2 fun z => ⟨fun hz => ?_, fun hz => ?_⟩
   · rcases List.mem_cons.1 ((h z).1 (List.mem_cons_of_mem _ hz)) with e | m
     · subst e; have := h1 z hz; omega
     · exact m
   · rcases List.mem_cons.1 ((h z).2 (List.mem_cons_of_mem _ hz)) with e | m
     · subst e; have := k1 z hz; omega
     · exact m
theorem ris_short : ∀ (o l : List Int), RisI o → (∀ x ∈ o, x ∈ l) → o.length ≤ l.length
 | [], l, _, _ => by simp
 | x :: o, l, ho, h => by
   obtain ⟨h1, h2⟩ := List.pairwise_cons.1 ho
   have hx := h x List.mem_cons_self
   have := ris_short o (l.erase x) h2 fun y hy => by
    have := h1 y hy
    exact (List.mem_erase_of_ne (by omega)).2 (h y (List.mem_cons_of_mem _ hy))
   rw [List.length_erase_of_mem hx] at this
   have := List.length_pos_of_mem hx
   rw [List.length_cons]; omega
theorem reach_len {E : List Ed} {a : Int} {o : List Int} (h : RisI o) (g : ∀ x ∈ o, ReachE E a x) : o.length ≤ E.length := by
 have := ris_short o (E.map Ed.f1) h (fun x hx => by
  have hr := g x hx
  cases hr with
  | one e he _ => exact List.mem_map.2 ⟨e, he, rfl⟩
  | more e he _ => exact List.mem_map.2 ⟨e, he, rfl⟩)
 rw [List.length_map] at this; exact this
noncomputable def onwM (E : List Ed) (a : Int) : List Int := by classical exact if h : ∃ o, IsOnw E a o then h.choose else []
theorem onwM_eq {E : List Ed} {a : Int} {o : List Int} (h : IsOnw E a o) : o = onwM E a := by
 have hx : ∃ o, IsOnw E a o := ⟨o, h⟩
 unfold onwM
 rw [dif_pos hx]
 exact ris_ext _ _ h.1 hx.choose_spec.1 fun x => (h.2 x).trans (hx.choose_spec.2 x).symm
theorem onwM_len (E : List Ed) (a : Int) : (onwM E a).length ≤ E.length := by
 unfold onwM
 split
 · rename_i h
   exact reach_len h.choose_spec.1 fun x hx => (h.choose_spec.2 x).1 hx
 · simp
theorem insI_len {x : Int} {l : List Int} (hr : RisI l) (h : x ∉ l) : (insI x l).length = l.length + 1 := by
 have h1 := len_insI x l
 have h2 := ris_short (x :: l) (insI x l)
 rcases Nat.lt_or_ge l.length (insI x l).length with h3 | h3
 · omega
 · exfalso
   have : ∀ (y : Int), y ∈ insI x l ↔ y = x ∨ y ∈ l := fun y => mem_insI
   have hn : (insI x l).Nodup := (RisI.ins x hr).imp (fun h => by omega)
   have h4 := ris_short l ((insI x l).erase x) hr fun y hy => (List.mem_erase_of_ne (fun e => by subst e; exact h hy)).2 ((this y).2 (.inr hy))
   rw [List.length_erase_of_mem ((this x).2 (.inl rfl))] at h4
   have := List.length_pos_of_mem ((this x).2 (.inl rfl))
   omega
theorem takeE {E : List Ed} {i : Int} {y : Ed} (h0 : 0 ≤ i) (h1 : i < E.length) (hy : rE E i = y) : E.take (i + 1).toNat = E.take i.toNat ++ [y] := by
 rw [take_succG zEd h0 h1, show rdG zEd E i = y from hy]
theorem memE {E : List Ed} {i : Int} {y : Ed} (h0 : 0 ≤ i) (h1 : i < E.length) (hy : rE E i = y) : y ∈ E := by
 rw [← show rdG zEd E i = y from hy]; exact rdG_mem h0 h1
def OutI (E : List Ed) (a j : Int) (out : List Int) : Prop := RisI out ∧ (∀ x ∈ out, ReachE E a x) ∧ (ClosedE E a out ∨ j ≤ out.length)
def InI (E : List Ed) (a j i : Int) (o : List Int) : Prop := RisI o ∧ (∀ x ∈ o, ReachE E a x) ∧ ∃ out : List Int, (ClosedE E a out ∨ j ≤ out.length) ∧ out.length ≤ o.length ∧
 (out.length < o.length ∨ (o = out ∧ ∀ e ∈ E.take i.toNat, (e.f0 = a ∨ e.f0 ∈ out) → e.f1 ∈ out)) ∧ (ClosedE E a out → o = out)
theorem OutI.len {E a j out} (h : OutI E a j out) : out.length ≤ E.length := reach_len h.1 h.2.1
theorem InI.len {E a j i out} (h : InI E a j i out) : out.length ≤ E.length := reach_len h.1 h.2.1
theorem out_zero (E : List Ed) (a : Int) : OutI E a 0 [] := ⟨List.Pairwise.nil, by simp, .inr (Int.le_refl 0)⟩
theorem in_start {E a j out} (h : OutI E a j out) : InI E a j 0 out := ⟨h.1, h.2.1, out, h.2.2, Nat.le_refl _, .inr ⟨rfl, by simp⟩, fun _ => rfl⟩
theorem in_yes {E : List Ed} {a j i : Int} {o : List Int} {y : Ed} (h : InI E a j i o) (h0 : 0 ≤ i) (h1 : i < E.length) (hy : rE E i = y) (hq : y.f0 = a ∨ y.f0 ∈ o) : InI E a j (i + 1) (insI y.f1 o) := by
 obtain ⟨hr, hs, out, hc, hl, hm, hk⟩ := h
 have hmem := memE h0 h1 hy
 have hreach : ReachE E a y.f1 := by
  rcases hq with h | h
  · exact .one _ hmem h
  · exact .more _ hmem (hs _ h)
 have hle : o.length ≤ (insI y.f1 o).length := ris_short _ _ hr fun z hz => mem_insI.2 (.inr hz)
 refine ⟨RisI.ins _ hr, fun x hx => ?_, out, hc, by omega, ?_, fun hcl => ?_⟩
 · rcases mem_insI.1 hx with h | h
   · rw [h]; exact hreach
   · exact hs x h
 · by_cases hin : y.f1 ∈ o
   · rw [insI_mem hr hin]
     rcases hm with h | ⟨h, h2⟩
     · exact .inl h
     · right
       subst h
       refine ⟨rfl, fun e he h3 => ?_⟩
       rw [takeE h0 h1 hy, List.mem_append, List.mem_singleton] at he
       rcases he with he | he
       · exact h2 e he h3
       · subst he; exact hin
   · left; rw [insI_len hr hin]; omega
 · have := hk hcl
   subst this
   exact insI_mem hr (hcl _ hmem hq)
theorem in_no {E : List Ed} {a j i : Int} {o : List Int} {y : Ed} (h : InI E a j i o) (h0 : 0 ≤ i) (h1 : i < E.length) (hy : rE E i = y) (c1 : ¬ y.f0 = a) (c2 : y.f0 ∉ o) : InI E a j (i + 1) o := by
 obtain ⟨hr, hs, out, hc, hl, hm, hk⟩ := h
 refine ⟨hr, hs, out, hc, hl, ?_, hk⟩
 rcases hm with h | ⟨h, h2⟩
 · exact .inl h
 · right
   subst h
   refine ⟨rfl, fun e he h3 => ?_⟩
   rw [takeE h0 h1 hy, List.mem_append, List.mem_singleton] at he
   rcases he with he | he
   · exact h2 e he h3
   · subst he
     rcases h3 with h3 | h3
     · exact absurd h3 c1
     · exact absurd h3 c2
theorem in_end {E : List Ed} {a j i : Int} {o : List Int} (h : InI E a j i o) (hi : (E.length : Int) ≤ i) : OutI E a (j + 1) o := by
 obtain ⟨hr, hs, out, hc, hl, hm, hk⟩ := h
 refine ⟨hr, hs, ?_⟩
 rcases hc with hc | hc
 · left; rw [hk hc]; exact hc
 · rcases hm with h | ⟨h, h2⟩
   · right; omega
   · left
     subst h
     intro e he
     rw [List.take_of_length_le (by omega)] at h2
     exact h2 e he
theorem out_end {E : List Ed} {a j : Int} {out : List Int} (h : OutI E a j out) (hj : (E.length : Int) < j) : out = onwM E a := by
 have hl := h.len
 obtain ⟨hr, hs, hc⟩ := h
 refine onwM_eq ⟨hr, fun x => ⟨hs x, ?_⟩⟩
 rcases hc with hc | hc
 · exact closedE_all hc x
 · omega
def TdI (E : List Ed) (a : Int) (out todo : List Int) : Prop := RisI out ∧ (∀ x ∈ out, ReachE E a x) ∧ (∀ x ∈ todo, x = a ∨ x ∈ out) ∧ (∀ y, (y = a ∨ y ∈ out) → y ∈ todo ∨ ∀ e ∈ E, e.f0 = y → e.f1 ∈ out) ∧ todo.length ≤ out.length + 1
def TrI (E : List Ed) (a b i : Int) (o t : List Int) : Prop := RisI o ∧ (∀ x ∈ o, ReachE E a x) ∧ (∀ x ∈ t, x = a ∨ x ∈ o) ∧ (∀ y, (y = a ∨ y ∈ o) → y = b ∨ y ∈ t ∨ ∀ e ∈ E, e.f0 = y → e.f1 ∈ o) ∧ (∀ e ∈ E.take i.toNat, e.f0 = b → e.f1 ∈ o) ∧ t.length ≤ o.length + 1 ∧ (b = a ∨ ReachE E a b)
theorem TdI.len {E a out todo} (h : TdI E a out todo) : out.length ≤ E.length ∧ todo.length ≤ E.length + 1 := by
 have := reach_len h.1 h.2.1
 exact ⟨this, by have := h.2.2.2.2; omega⟩
theorem TrI.len {E a b i out todo} (h : TrI E a b i out todo) : out.length ≤ E.length ∧ todo.length ≤ E.length + 1 := by
 have := reach_len h.1 h.2.1
 exact ⟨this, by have := h.2.2.2.2.2.1; omega⟩
theorem td_zero (E : List Ed) (a : Int) : TdI E a [] [a] := ⟨List.Pairwise.nil, by simp, by simp, fun y hy => by
 rcases hy with h | h
 · left; simp [h]
 · simp at h, by simp⟩
theorem td_end {E a out} (h : TdI E a out []) : out = onwM E a := by
 obtain ⟨hr, hs, ht, hc, hl⟩ := h
 refine onwM_eq ⟨hr, fun x => ⟨hs x, closedE_all (fun e he h0 => ?_) x⟩⟩
 rcases hc e.f0 h0 with h1 | h1
 · cases h1
 · exact h1 e he rfl
theorem tr_start {E a out b s} (h : TdI E a out (b :: s)) : TrI E a b 0 out s := by
 obtain ⟨hr, hs, ht, hc, hl⟩ := h
 rw [List.length_cons] at hl
 refine ⟨hr, hs, fun x hx => ht x (List.mem_cons_of_mem _ hx), fun y hy => ?_, by simp, by omega, ?_⟩
 · rcases hc y hy with h | h
   · rcases List.mem_cons.1 h with h | h
     · exact .inl h
     · exact .inr (.inl h)
   · exact .inr (.inr h)
 · rcases ht b List.mem_cons_self with h | h
   · exact .inl h
   · exact .inr (hs b h)
theorem tr_end {E : List Ed} {a b i : Int} {o t : List Int} (h : TrI E a b i o t) (hi : (E.length : Int) ≤ i) : TdI E a o t := by
 obtain ⟨hr, hs, ht, hc, he, hl, hb⟩ := h
 refine ⟨hr, hs, ht, fun y hy => ?_, hl⟩
 rcases hc y hy with h | h | h
 · right
   intro e hm h0
   rw [List.take_of_length_le (by omega)] at he
   exact he e hm (h0.trans h)
 · exact .inl h
 · exact .inr h
theorem tr_skip {E : List Ed} {a b i : Int} {o t : List Int} {y : Ed} (h : TrI E a b i o t) (h0 : 0 ≤ i) (h1 : i < E.length) (hy : rE E i = y) (hq : y.f0 = b → y.f1 ∈ o) : TrI E a b (i + 1) o t := by
 obtain ⟨hr, hs, ht, hc, he, hl, hb⟩ := h
 refine ⟨hr, hs, ht, hc, fun e hm h0' => ?_, hl, hb⟩
 rw [takeE h0 h1 hy, List.mem_append, List.mem_singleton] at hm
 rcases hm with hm | hm
 · exact he e hm h0'
 · subst hm; exact hq h0'
theorem tr_hit {E : List Ed} {a b i : Int} {o t : List Int} {y : Ed} (h : TrI E a b i o t) (h0 : 0 ≤ i) (h1 : i < E.length) (hy : rE E i = y) (c1 : y.f0 = b) (c2 : y.f1 ∉ o) : TrI E a b (i + 1) (insI y.f1 o) (t ++ [y.f1]) ∧ (insI y.f1 o).length = o.length + 1 := by
 obtain ⟨hr, hs, ht, hc, he, hl, hb⟩ := h
 have hln := insI_len hr c2
 have hmem := memE h0 h1 hy
 have hreach : ReachE E a y.f1 := by
  rcases hb with h | h
  · exact .one _ hmem (c1.trans h)
  · exact .more _ hmem (by rw [c1]; exact h)
 refine ⟨⟨RisI.ins _ hr, fun x hx => ?_, fun x hx => ?_, fun z hz => ?_, fun e hm h0' => ?_, ?_, hb⟩, hln⟩
 · rcases mem_insI.1 hx with h | h
   · rw [h]; exact hreach
   · exact hs x h
 · rw [List.mem_append, List.mem_singleton] at hx
   rcases hx with hx | hx
   · rcases ht x hx with h | h
     · exact .inl h
     · exact .inr (mem_insI.2 (.inr h))
   · exact .inr (mem_insI.2 (.inl hx))
 · by_cases hyv : z = y.f1
   · right; left; rw [List.mem_append, List.mem_singleton]; exact .inr hyv
   · have hy2 : z = a ∨ z ∈ o := by
       rcases hz with h | h
       · exact .inl h
       · rcases mem_insI.1 h with h | h
         · exact absurd h hyv
         · exact .inr h
     rcases hc z hy2 with h | h | h
     · exact .inl h
     · right; left; rw [List.mem_append]; exact .inl h
     · right; right; intro e he' h0'; exact mem_insI.2 (.inr (h e he' h0'))
 · rw [takeE h0 h1 hy, List.mem_append, List.mem_singleton] at hm
   rcases hm with hm | hm
   · exact mem_insI.2 (.inr (he e hm h0'))
   · subst hm; exact mem_insI.2 (.inl rfl)
 · rw [List.length_append, List.length_singleton, hln]; exact Nat.succ_le_succ hl
def Few (E : List Ed) : Prop := ∃ T : List Int, T.length ≤ 2500 ∧ ∀ e ∈ E, e.f1 ∈ T
theorem reach_few {E : List Ed} {a : Int} {o : List Int} (hF : Few E) (h : RisI o) (g : ∀ x ∈ o, ReachE E a x) : o.length ≤ 2500 := by
 obtain ⟨T, h1, h2⟩ := hF
 refine Nat.le_trans (ris_short o T h fun x hx => ?_) h1
 cases g x hx with
 | one e he _ => exact h2 e he
 | more e he _ => exact h2 e he
theorem OutI.few {E a j out} (h : OutI E a j out) (hF : Few E) : out.length ≤ 2500 := reach_few hF h.1 h.2.1
theorem InI.few {E a j i out} (h : InI E a j i out) (hF : Few E) : out.length ≤ 2500 := reach_few hF h.1 h.2.1
theorem TdI.few {E a out td} (h : TdI E a out td) (hF : Few E) : out.length ≤ 2500 ∧ td.length ≤ 2501 := by
 have := reach_few hF h.1 h.2.1
 exact ⟨this, by have := h.2.2.2.2; omega⟩
theorem TrI.few {E a b i out td} (h : TrI E a b i out td) (hF : Few E) : out.length ≤ 2500 ∧ td.length ≤ 2501 := by
 have := reach_few hF h.1 h.2.1
 exact ⟨this, by have := h.2.2.2.2.2.1; omega⟩
theorem onwM_few {E : List Ed} (hF : Few E) (a : Int) : (onwM E a).length ≤ 2500 := by
 unfold onwM
 split
 · rename_i h
   exact reach_few hF h.choose_spec.1 fun x hx => (h.choose_spec.2 x).1 hx
 · simp
theorem td_pop {E a out td} {y : Int} (h : TdI E a out td) (h0 : (0 : Int) < td.length) (hy : rI td 0 = y) : TrI E a y 0 out (td.drop 1) := by
 match td, h0 with
 | x :: t, _ =>
   have : x = y := hy
   subst this
   exact tr_start h
theorem td_fin {E a out td} (h : TdI E a out td) (h0 : ¬ (0 : Int) < td.length) : out = onwM E a := by
 match td, h0 with
 | [], _ => exact td_end h
 | x :: t, h0 => rw [List.length_cons] at h0; omega
theorem edgesV_to {n : Int} {vs : List Ab} {e : Ed} (h : e ∈ edgesV n vs) : ∃ v ∈ vs, v.n = e.f1 := by
 unfold edgesV at h
 obtain ⟨v, hv, rfl⟩ := List.mem_map.1 h
 exact ⟨v, (List.mem_filter.1 hv).1, rfl⟩
theorem graphM_few (l : List Nd) (dp : Int) : Few (graphM l dp) := by
 refine ⟨(solveR l dp).1.map fun f => f.v.n, by rw [List.length_map]; exact (solveR_all l dp).1, fun e he => ?_⟩
 unfold graphM at he
 have he := can_mem.1 he
 unfold graphR rawG at he
 obtain ⟨f, hf, he⟩ := List.mem_flatMap.1 he
 unfold edgesF at he
 split at he
 · obtain ⟨v, hv, h1⟩ := edgesV_to he
   have := mem_vals.1 hv
   exact List.mem_map.2 ⟨_, this, h1⟩
 · cases he
theorem funM_few (l : List Nd) (dp : Int) : Few (funM l dp) := by
 obtain ⟨T, h1, h2⟩ := graphM_few l dp
 refine ⟨T, h1, fun e he => ?_⟩
 unfold funM at he
 have he := can_mem.1 he
 obtain ⟨x, hx, rfl⟩ := List.mem_map.1 he
 exact h2 x hx
noncomputable def recP (l : List Nd) (dp f : Int) : Bool := decide (f ∈ onwM (funM l dp) f)
noncomputable def recM (l : List Nd) (dp : Int) : List Int := (lamsM l).filter (recP l dp)
theorem rec_hit {l : List Nd} {dp f : Int} {v : List Int} (h : onwM (funM l dp) f = v) (hm : f ∈ v) : recP l dp f = true := by subst h; exact decide_eq_true hm
theorem rec_no {l : List Nd} {dp f : Int} {v : List Int} (h : onwM (funM l dp) f = v) (hm : ¬ f ∈ v) : recP l dp f = false := by subst h; exact decide_eq_false hm
theorem rec_all {l : List Nd} {dp i : Int} (h : (lamsM l).length ≤ i) : ((lamsM l).take i.toNat).filter (recP l dp) = recM l dp := by rw [take_allG h]; rfl
theorem recM_len (l : List Nd) (dp : Int) : (recM l dp).length ≤ l.length := Nat.le_trans (List.length_filter_le _ _) (lams_len l)
theorem cut_eK {l : List Int} {n : Int} (h : n = l.length) : std.cut (eK .i64 l) 1 n = eK .i64 (l.drop 1) := by
 subst h
 show ((eK .i64 l).take (l.length : Int).toNat).drop (1 : Int).toNat = _
 rw [show ((l.length : Int)).toNat = (eK .i64 l).length by rw [len_eK]; omega, List.take_length]
 simp [eK, List.map_drop]
theorem bxlen (o : Std) (ho : o = std) (l : List Int) : (o.bx fun _ => eK .i64 l).length = l.length := by subst ho; simp [std, len_eK]
end Go.Mach
namespace Go.Mach
open Go Go.RowKit Go.Proofs
theorem impl_withInt.ans {xa xb : Option (List D → Option D)} (o : Std) (ho : o = std) (l : List Int) (n : Int) (h0 : l.length ≤ 1048576) : Ans (env xa xb) 78 [.sl .nw 1 (o.bx fun _ => eK .i64 l), iX n] (.sl .nw 1 (o.bx fun _ => eK .i64 (insI n l))) := by
 refine Ans.mkA ho _ rfl rfl ?_
 repeat' (first
  | (refine .id ?_
     (try (conv => arg 2; cbv))
     first
      | (refine .indF (fun m_ s_ => ∃ (a5 : Int) (tk : List Nat), s_ = ⟨[.sl .nw 1 (o.bx fun _ => eK .i64 l), iX n, Jk, Jk, Jk, iX a5] ++ List.replicate 38 Jk, [], [], tk⟩ ∧ (0 ≤ a5 ∧ a5 ≤ l.length ∧ (∀ y ∈ l.take a5.toNat, y < n)) ∧ (l.length - a5).toNat ≤ m_) _ _ ⟨_, _, by subst ho; rfl, ?_, Nat.le_refl _⟩ ?_
         rotate_right
         rintro m_ _ ⟨a5, tk, rfl, hIa, hka⟩ iha
         obtain ⟨i1, i2, i3⟩ := hIa; refine .unloopA ho ?_
         repeat' (first
          | (refine .id ?_
             (try (conv => arg 2; cbv))
             first
              | refine .testF ?_
              | refine .t1 ?_
              | refine .t0 ?_
              | (refine .test (fun hr => ?_) (fun hr => ?_) <;> (have hb := hr) <;> (try simp (disch := omega) only [ho, std, wI, lenE, nrm] at hb) <;> (try (exfalso; first | contradiction | omega | exact hb rfl)))
              | (refine .fetchYK ho ?_ ?_ (by with_reducible assumption) ?_)
              | (refine .fetchXK ho ?_ ?_ (fun y hy => ?_); rotate_left 2; (have hyk := hy))
              | (refine .needD ho (by kernel_rfl) ?_)
              | (refine .need ?_ ?_)
              | (refine .app1w ?_ (fun t' tk' hl' => ?_))
              | (refine iha _ _ ?_ ⟨_, _, by subst ho; rfl, ?_, Nat.le_refl _⟩)
              | (refine .fin ?_; (conv => lhs; cbv) <;> refine congrArg some ?_))
          | ((fail_if_success (refine .id ?_))
             first
              | (subst ho; exact ⟨Int.le_refl _, by omega, fun y h => by simp at h⟩)
              | (simp (disch := omega) only [ho, std, wI]; exact ⟨by omega, by omega, lt_step i1 (by omega) i3 hyk (by assumption)⟩)
              | (refine congrArg (D.sl Tok.nw 1) ?_; subst ho; exact congrArg (eK .i64) (insI_hit i1 i3 (by omega) (by rw [hyk]; assumption)).symm)
              | (subst ho; exact Lw.nil)
              | (subst ho; rcases Lw.kind hl' with rfl | ⟨_, rfl⟩ <;> (refine congrArg (D.sl Tok.nw 1) ?_; simp only [std]; rw [insI_put i1 i3 (fun h => by first | omega | (rw [hyk]; omega))]; simp [eK, List.map_take, List.map_drop, List.take_of_length_le]))
              | assumption
              | (subst ho; simpa [std, lenE] using hl')
              | (subst ho; simp [std, lenE]; omega)
              | (subst ho; simp (disch := omega) only [std, wI, tdiv2, tdivN, lenE] <;> first | done | rfl | omega)))))
  | ((fail_if_success (refine .id ?_))
     first
      | fail))
theorem spec_l12Int.ans {xa xb : Option (List D → Option D)} (o : Std) (ho : o = std) (l : List Int) (x : Int) (h0 : RisI l) (h1 : l.length ≤ 1048576) : Ans (env xa xb) 97 [rK o l, iX x] (rK o (insI x l)) := by
 refine Ans.mkA ho _ rfl rfl ?_
 repeat' (first
  | (refine .id ?_
     (try (conv => arg 2; cbv))
     first
      | (refine .indF (fun m_ s_ => ∃ (ea5 : Box) (a6 : Bool) (a7 : Int) (ta5 : Tok) (tk : List Nat), s_ = ⟨[rK o l, iX x, Jk, Jk, Jk, .sl ta5 1 ea5, .bool a6, iX a7] ++ List.replicate 42 Jk, [], [], tk⟩ ∧ Lv tk ta5 ea5.length ∧ ea5 = (o.bx fun _ => eK .i64 (l12O x l a7 a6)) ∧ (0 ≤ a7 ∧ a7 ≤ l.length ∧ (a6 = false → ∀ y ∈ l.take a7.toNat, y < x) ∧ (a6 = true → ∀ y ∈ l.drop a7.toNat, x < y)) ∧ (l.length - a7).toNat ≤ m_) _ _ ⟨_, _, _, _, _, by subst ho; rfl, ?_, ?_, ?_, Nat.le_refl _⟩ ?_
         rotate_right
         rintro m_ _ ⟨ea5, a6, a7, ta5, tk, rfl, hla0, rfl, hIa, hka⟩ iha
         obtain ⟨i1, i2, i3, i4⟩ := hIa; have hol := len_l12O x l a7 a6; refine .unloopA ho ?_
         repeat' (first
          | (refine .id ?_
             (try (conv => arg 2; cbv))
             first
              | refine .testF ?_
              | refine .t1 ?_
              | refine .t0 ?_
              | (refine .test (fun hr => ?_) (fun hr => ?_) <;> (have hb := hr) <;> (try simp (disch := omega) only [ho, std, wI, lenE, nrm] at hb) <;> (try (exfalso; first | contradiction | omega | exact hb rfl)))
              | (refine .fetchYK ho ?_ ?_ (by with_reducible assumption) ?_)
              | (refine .fetchXK ho ?_ ?_ (fun y hy => ?_); rotate_left 2; (have hyk := hy))
              | (refine .need ?_ ?_)
              | (refine .app1 ?_ (fun t' tk' hl' => ?_))
              | (refine iha _ _ ?_ ⟨_, _, _, _, _, by subst ho; rfl, ?_, ?_, ?_, Nat.le_refl _⟩)
              | (refine .fin ?_; (conv => lhs; cbv) <;> refine congrArg some ?_))
          | ((fail_if_success (refine .id ?_))
             first
              | (exact Lv.cap _)
              | (subst ho; exact hla0)
              | (subst ho; exact ⟨Int.le_refl _, by omega, fun _ y h => by simp at h, fun h => by cases h⟩)
              | (refine congrArg (D.sl Tok.ro 1) ?_; subst ho; exact congrArg (eK .i64) (insI_mem h0 (by have := rdG_mem (z := 0) i1 (show a7 < l.length by omega); rw [show rdG 0 l a7 = _ from hyk] at this; simp_all)).symm)
              | ((try clear iha); subst ho; simp (disch := omega) only [std, wI]; first | exact push2I (l12_putD (by assumption) i1 (by omega) i3 hyk (by assumption)) | exact pushI (l12_go i1 (by omega) a6 hyk (fun h => gt_at i1 (by omega) (i4 h) hyk)))
              | ((try clear iha); subst ho; simp (disch := omega) only [std, wI]; exact ⟨by omega, by omega, fun h => by first | exact absurd h (by decide) | exact lt_step i1 (by omega) (i3 h) hyk (by omega) | exact absurd (h.symm.trans (show _ = true by assumption)) (by decide), fun h => by first | exact gt_ris h0 i1 (by omega) hyk (by assumption) | exact gt_step i1 (by omega) (i4 h)⟩)
              | (refine congrArg (D.sl Tok.ro 1) ?_; subst ho; first | exact pushI (l12_fin (by assumption) (by omega) i3) | exact congrArg (eK .i64) (l12_finT (by assumption) (by omega)).symm)
              | assumption
              | (subst ho; rfl)
              | (subst ho; simpa [std, lenE] using hl')
              | (subst ho; simp [std, lenE]; omega)
              | (subst ho; simp (disch := omega) only [std, wI, tdiv2, tdivN, lenE] <;> first | done | rfl | omega)))))
  | ((fail_if_success (refine .id ?_))
     first
      | fail))
theorem impl_SeenNodes_1.ans {xa xb : Option (List D → Option D)} (o : Std) (ho : o = std) (f_k : Int) (f_n : Int) (f_c : Int) (f_v_k : Int) (f_v_n : Int) (f_v_c : Int) : Ans (env xa xb) 77 [.agg [iX f_k, iX f_n, iX f_c, iX f_v_k, iX f_v_n, iX f_v_c]] (.bool (seenP (⟨f_k, f_n, f_c, ⟨f_v_k, f_v_n, f_v_c⟩⟩ : Fc))) := by
 refine Ans.mkA ho _ rfl rfl ?_
 repeat' (first
  | (refine .id ?_
     (try (conv => arg 2; cbv))
     first
      | (refine .fin ?_; (conv => lhs; cbv) <;> refine congrArg some ?_))
  | ((fail_if_success (refine .id ?_))
     first
      | (subst ho; refine dB ?_; rfl)))
theorem impl_nodesIn_s.ans {ga gb : List D → Option D} (o : Std) (ho : o = std) (l : List Nd) (dp : Int) (h0 : PassSpec ga) (h1 : FreeSpec gb) (h2 : Sz l) (h3 : l.length ≤ 1048576) : Ans (env (some ga) (some gb)) 76 [rNd o l, iX dp, .fn 77 []] (.sl .nw 1 (o.bx fun _ => eK .i64 (seenM l dp))) := by
 refine Ans.mkA ho _ rfl rfl ?_
 have hall := solveR_all l dp
 repeat' (first
  | (refine .id ?_
     (try (conv => arg 2; cbv))
     first
      | (refine .pE (β := (List Fc) × Bool) (fun v => .tup [.sl .nw 6 (o.bx fun _ => eFc v.1), .bool v.2]) (as' := [rNd o _, iX _]) (impl_Solve.ans o ho _ _ ?_ ?_ ?_ ?_) ?_; rotate_left 4; rintro ⟨v0, (_ | _)⟩ hv <;> (try simp only [dE] at hv) <;> (try first | contradiction | exact bX hv))
      | (refine .indF (fun m_ s_ => ∃ (a18 : List Fc) (a19 : Int) (a20 : Int) (ta18 : Tok) (tk : List Nat) (tq : Tok) (bq : Box), s_ = ⟨[Jk, Jk, .fn 77 [], Jk, Jk, Jk, Jk, Jk, Jk, .sl tq 1 bq, Jk, Jk, Jk, Jk, Jk, Jk, Jk, Jk, .sl ta18 6 (o.bx fun _ => eFc a18), iX a19, iX a20] ++ List.replicate 12 Jk, [], [], tk⟩ ∧ ((tq = .nil ∨ tq = .nw) ∧ bq = (o.bx fun _ => eK .i64 (collI seenP Fc.n (a18.take a20.toNat))) ∧ a18 = (solveR l dp).1 ∧ a19 = a18.length ∧ 0 ≤ a20 ∧ a20 ≤ a18.length) ∧ (a18.length - a20).toNat ≤ m_) _ _ ⟨_, _, _, _, _, _, _, by subst ho; rfl, ?_, Nat.le_refl _⟩ ?_
         rotate_right
         rintro m_ _ ⟨a18, a19, a20, ta18, tk, tq, bq, rfl, hIa, hka⟩ iha
         obtain ⟨ht, rfl, rfl, i0, i1, i2⟩ := hIa; have hcl := coll_lenT (seenP) Fc.n hall.1 a20.toNat; refine .unloopA ho ?_
         repeat' (first
          | (refine .id ?_
             (try (conv => arg 2; cbv))
             first
              | refine .testT ?_
              | refine .testF ?_
              | (refine .test (fun hr => ?_) (fun hr => ?_) <;> (have hb := hr) <;> (try simp (disch := omega) only [ho, std, wI, lenE, nrm] at hb) <;> (try (exfalso; first | contradiction | omega | exact hb rfl)))
              | (refine .pcallE (β := List Int) (fun v => .sl .nw 1 (o.bx fun _ => eK .i64 v)) (as' := [.sl .nw 1 (o.bx fun _ => eK .i64 _), iX _]) (by first | with_reducible rfl | (subst ho; rcases ht with rfl | rfl <;> rfl)) (impl_withInt.ans o ho _ _ ?_) ?_; rotate_left 1; rintro v hv)
              | (refine .pE (β := Bool) .bool (as' := [.agg [iX _, iX _, iX _, iX _, iX _, iX _]]) (impl_SeenNodes_1.ans o ho _ _ _ _ _ _) ?_; rintro (_ | _) hv <;> (try simp only [dE] at hv) <;> (try first | contradiction | exact bX hv) <;> (have hp := hv))
              | (refine .fetchXFc ho ?_ ?_ (fun y hy => ?_); rotate_left 2; rcases y with ⟨yk, yn, yc, yvk, yvn, yvc⟩; (have hyf := hy))
              | (refine iha _ _ ?_ ⟨_, _, _, _, _, _, _, by subst ho; rfl, ?_, Nat.le_refl _⟩)
              | (refine .fin ?_; (conv => lhs; cbv) <;> refine congrArg some ?_))
          | ((fail_if_success (refine .id ?_))
             first
              | (subst ho; exact ⟨.inl rfl, rfl, by rw [hv], by simp [std, len_eFc], Int.le_refl _, by omega⟩)
              | (refine ?_; subst ho; rcases ht with rfl | rfl <;> (refine congrArg (D.sl Tok.nw 1) (congrArg (eK .i64) ?_); unfold seenM; rw [take_allG (by omega)]))
              | (simp (disch := omega) only [ho, std, wI]; exact ⟨.inr (by trivial), congrArg (eK .i64) (hv.symm.trans (coll_hit (p := seenP) (g := Fc.n) i1 (by omega) hyf hp).symm), by trivial, i0, by omega, by omega⟩)
              | (simp (disch := omega) only [ho, std, wI]; exact ⟨ht, congrArg (eK .i64) (coll_miss (p := seenP) (g := Fc.n) i1 (by omega) hyf hp).symm, by trivial, i0, by omega, by omega⟩)
              | assumption
              | omega
              | (subst ho; simp (disch := omega) only [std, wI, tdiv2, tdivN, lenE] <;> first | done | rfl | omega)))))
  | ((fail_if_success (refine .id ?_))
     first
      | assumption))
theorem impl_SeenNodes.ans {ga gb : List D → Option D} (o : Std) (ho : o = std) (l : List Nd) (dp : Int) (h0 : PassSpec ga) (h1 : FreeSpec gb) (h2 : Sz l) (h3 : l.length ≤ 1048576) : Ans (env (some ga) (some gb)) 30 [rNd o l, iX dp] (.sl .nw 1 (o.bx fun _ => eK .i64 (seenM l dp))) := by
 refine Ans.mkA ho _ rfl rfl ?_
 repeat' (first
  | (refine .id ?_
     (try (conv => arg 2; cbv))
     first
      | (refine .pE (β := List Int) (fun v => .sl .nw 1 (o.bx fun _ => eK .i64 v)) (as' := [rNd o _, iX _, .fn 77 []]) (impl_nodesIn_s.ans o ho _ _ ?_ ?_ ?_ ?_) ?_; rotate_left 4; rintro v hv)
      | (refine .fin ?_; (conv => lhs; cbv) <;> refine congrArg some ?_))
  | ((fail_if_success (refine .id ?_))
     first
      | (rw [hv])
      | assumption))
theorem impl_hasInt.ans {xa xb : Option (List D → Option D)} (o : Std) (ho : o = std) (l : List Int) (x : Int) (h0 : l.length ≤ 1048576) : Ans (env xa xb) 79 [rK o l, iX x] (.bool (decide (x ∈ l))) := by
 refine Ans.mkA ho _ rfl rfl ?_
 repeat' (first
  | (refine .id ?_
     (try (conv => arg 2; cbv))
     first
      | (refine .indF (fun m_ s_ => ∃ (a8 : Int) (a9 : Int) (tk : List Nat), s_ = ⟨[Jk, iX x, Jk, Jk, Jk, Jk, Jk, rK o l, iX a8, iX a9] ++ List.replicate 7 Jk, [], [], tk⟩ ∧ (a8 = l.length ∧ 0 ≤ a9 ∧ a9 ≤ l.length ∧ x ∉ l.take a9.toNat) ∧ (l.length - a9).toNat ≤ m_) _ _ ⟨_, _, _, by subst ho; rfl, ?_, Nat.le_refl _⟩ ?_
         rotate_right
         rintro m_ _ ⟨a8, a9, tk, rfl, hIa, hka⟩ iha
         obtain ⟨i0, i1, i2, i3⟩ := hIa; refine .unloopA ho ?_
         repeat' (first
          | (refine .id ?_
             (try (conv => arg 2; cbv))
             first
              | (refine .test (fun hr => ?_) (fun hr => ?_) <;> (have hb := hr) <;> (try simp (disch := omega) only [ho, std, wI, lenE, Int.ofNat_eq_natCast, nrm] at hb) <;> (try (exfalso; first | contradiction | omega | exact hb rfl)))
              | (refine .fetchXK ho ?_ ?_ (fun y hy => ?_); rotate_left 2)
              | (refine iha _ _ ?_ ⟨_, _, _, by subst ho; rfl, ?_, Nat.le_refl _⟩)
              | (refine .fin ?_; (conv => lhs; cbv) <;> refine congrArg some ?_))
          | ((fail_if_success (refine .id ?_))
             first
              | (subst ho; exact ⟨by simp [std, len_eK], Int.le_refl 0, by omega, by simp⟩)
              | (refine dB ?_; exact has4_hit i1 (by omega) hy (by assumption))
              | (refine dB ?_; exact has4_end (by omega) i3)
              | (simp (disch := omega) only [ho, std, wI]; exact ⟨i0, by omega, by omega, has4_step i1 (by omega) i3 hy (by assumption)⟩)
              | assumption
              | omega
              | (subst ho; simp (disch := omega) only [std, wI, tdiv2, tdivN, lenE] <;> first | done | rfl | omega)))))
  | ((fail_if_success (refine .id ?_))
     first
      | fail))
theorem impl_Caught.ans {ga gb : List D → Option D} (o : Std) (ho : o = std) (l : List Nd) (dp : Int) (h0 : PassSpec ga) (h1 : FreeSpec gb) (h2 : Sz l) (h3 : l.length ≤ 1048576) : Ans (env (some ga) (some gb)) 35 [rNd o l, iX dp] (.sl .nw 1 (o.bx fun _ => eK .i64 (caughtM l dp))) := by
 refine Ans.mkA ho _ rfl rfl ?_
 have hsl := seen_len l dp
 repeat' (first
  | (refine .id ?_
     (try (conv => arg 2; cbv))
     first
      | (refine .pE (β := List Int) (fun v => .sl .nw 1 (o.bx fun _ => eK .i64 v)) (as' := [rNd o _, iX _]) (impl_SeenNodes.ans o ho _ _ ?_ ?_ ?_ ?_) ?_; rotate_left 4; rintro v hv)
      | (refine .indF (fun m_ s_ => ∃ (a5 : List Int) (ea6 : Box) (a13 : Int) (a14 : Int) (ta5 ta6 : Tok) (tk : List Nat), s_ = ⟨[Jk, Jk, Jk, Jk, Jk, .sl ta5 1 (o.bx fun _ => eK .i64 a5), .sl ta6 1 ea6, Jk, Jk, Jk, Jk, Jk, rNd o l, iX a13, iX a14] ++ List.replicate 19 Jk, [], [], tk⟩ ∧ Lw tk ta6 ea6.length ∧ ea6 = (o.bx fun _ => eK .i64 (filtN (caughtP l (seenM l dp)) a14.toNat)) ∧ (a5 = seenM l dp ∧ a13 = l.length ∧ 0 ≤ a14 ∧ a14 ≤ l.length) ∧ (l.length - a14).toNat ≤ m_) _ _ ⟨_, _, _, _, _, _, _, by subst ho; rfl, ?_, ?_, ?_, Nat.le_refl _⟩ ?_
         rotate_right
         rintro m_ _ ⟨a5, ea6, a13, a14, ta5, ta6, tk, rfl, hla0, rfl, hIa, hka⟩ iha
         obtain ⟨rfl, i0, i1, i2⟩ := hIa; have hfl := filtN_lenI (caughtP l (seenM l dp)) i2; refine .unloopA ho ?_
         repeat' (first
          | (refine .id ?_
             (try (conv => arg 2; cbv))
             first
              | refine .testT ?_
              | refine .testF ?_
              | refine .t1 ?_
              | refine .t0 ?_
              | (refine .test (fun hr => ?_) (fun hr => ?_) <;> (have hb := hr) <;> (try simp (disch := omega) only [ho, std, wI, lenE, Int.ofNat_eq_natCast, nrm] at hb) <;> (try (exfalso; first | contradiction | omega | exact hb rfl)))
              | (refine .pE (β := Bool) .bool (as' := [rK o _, iX _]) (impl_hasInt.ans o ho _ _ ?_) ?_; rotate_left 1; rintro (_ | _) hv <;> (try simp only [dE] at hv) <;> (try first | contradiction | exact bX hv))
              | (refine .fetchXNd ho ?_ ?_ (fun y hy => ?_); rotate_left 2; rcases y with ⟨y0, y1, y2, y3, y4, y5, y6⟩; (first | (have _h := hyn) | (have hyn := hy)))
              | (refine .need ?_ ?_)
              | (refine .app1w ?_ (fun t' tk' hl' => ?_))
              | (refine iha _ _ ?_ ⟨_, _, _, _, _, _, _, by subst ho; rfl, ?_, ?_, ?_, Nat.le_refl _⟩)
              | (refine .fin ?_; (conv => lhs; cbv) <;> refine congrArg some ?_))
          | ((fail_if_success (refine .id ?_))
             first
              | (exact Lw.nil)
              | (subst ho; exact hla0)
              | (subst ho; exact ⟨(by first | exact hv.symm | rfl), by simp [std, len_eNd], Int.le_refl _, by omega⟩)
              | (subst ho; simp (disch := omega) only [std, wI]; exact pushI (filtN_yes i1 (caught_hit hyn (by dsimp only; assumption) (decide_eq_true (by dsimp only; assumption)))))
              | (subst ho; simp (disch := omega) only [std, wI]; exact congrArg (eK .i64) (filtN_no i1 (by first | exact caught_no1 hyn (by dsimp only; assumption) | exact caught_no2 hyn (decide_eq_false (by dsimp only; assumption)))).symm)
              | ((try clear iha); subst ho; simp (disch := omega) only [std, wI]; exact ⟨by trivial, i0, by omega, by omega⟩)
              | (subst ho; rcases Lw.kind hla0 with rfl | ⟨_, rfl⟩ <;> (refine congrArg (D.sl Tok.nw 1) (congrArg (eK .i64) ?_); rw [filtN_all (by omega) i2]; rfl))
              | assumption
              | omega
              | (subst ho; rfl)
              | (subst ho; simpa [std, lenE] using hl')
              | (subst ho; simp [std, lenE]; omega)
              | (subst ho; simp (disch := omega) only [std, wI, tdiv2, tdivN, lenE] <;> first | done | rfl | omega)))))
  | ((fail_if_success (refine .id ?_))
     first
      | assumption))
theorem impl_DeadNodes.ans {ga gb : List D → Option D} (o : Std) (ho : o = std) (l : List Nd) (dp : Int) (h0 : PassSpec ga) (h1 : FreeSpec gb) (h2 : Sz l) (h3 : l.length ≤ 1048576) : Ans (env (some ga) (some gb)) 33 [rNd o l, iX dp] (.sl .nw 1 (o.bx fun _ => eK .i64 (deadM l dp))) := by
 refine Ans.mkA ho _ rfl rfl ?_
 have hsl := seen_len l dp
 repeat' (first
  | (refine .id ?_
     (try (conv => arg 2; cbv))
     first
      | (refine .test (fun hr => ?_) (fun hr => ?_) <;> (have hb := hr) <;> (try simp (disch := omega) only [ho, std, wI, lenE, Int.ofNat_eq_natCast, nrm] at hb) <;> (try (exfalso; first | contradiction | omega | exact hb rfl)))
      | (refine .pE (β := List Int) (fun v => .sl .nw 1 (o.bx fun _ => eK .i64 v)) (as' := [rNd o _, iX _]) (impl_SeenNodes.ans o ho _ _ ?_ ?_ ?_ ?_) ?_; rotate_left 4; rintro v hv)
      | (refine .indF (fun m_ s_ => ∃ (a5 : List Int) (ea6 : Box) (a15 : Int) (a16 : Int) (ta5 ta6 : Tok) (tk : List Nat), s_ = ⟨[Jk, Jk, Jk, Jk, Jk, .sl ta5 1 (o.bx fun _ => eK .i64 a5), .sl ta6 1 ea6, Jk, Jk, Jk, Jk, Jk, Jk, Jk, Jk, iX a15, iX a16] ++ List.replicate 12 Jk, [], [], tk⟩ ∧ Lw tk ta6 ea6.length ∧ ea6 = (o.bx fun _ => eK .i64 (filtN (deadP (seenM l dp)) a16.toNat)) ∧ (a5 = seenM l dp ∧ a15 = l.length ∧ 0 ≤ a16 ∧ a16 ≤ l.length) ∧ (l.length - a16).toNat ≤ m_) _ _ ⟨_, _, _, _, _, _, _, by subst ho; rfl, ?_, ?_, ?_, Nat.le_refl _⟩ ?_
         rotate_right
         rintro m_ _ ⟨a5, ea6, a15, a16, ta5, ta6, tk, rfl, hla0, rfl, hIa, hka⟩ iha
         obtain ⟨rfl, i0, i1, i2⟩ := hIa; have hfl := filtN_lenI (deadP (seenM l dp)) i2; refine .unloopA ho ?_
         repeat' (first
          | (refine .id ?_
             (try (conv => arg 2; cbv))
             first
              | refine .tN1 ho ?_
              | refine .tN0 ho ?_
              | (refine .test (fun hr => ?_) (fun hr => ?_) <;> (have hb := hr) <;> (try simp (disch := omega) only [ho, std, wI, lenE, Int.ofNat_eq_natCast, nrm] at hb) <;> (try (exfalso; first | contradiction | omega | exact hb rfl)))
              | (refine .pE (β := Bool) .bool (as' := [rK o _, iX _]) (impl_hasInt.ans o ho _ _ ?_) ?_; rotate_left 1; rintro (_ | _) hv <;> (try simp only [dE] at hv) <;> (try first | contradiction | exact bX hv))
              | (refine .need ?_ ?_)
              | (refine .app1w ?_ (fun t' tk' hl' => ?_))
              | (refine iha _ _ ?_ ⟨_, _, _, _, _, _, _, by subst ho; rfl, ?_, ?_, ?_, Nat.le_refl _⟩)
              | (refine .fin ?_; (conv => lhs; cbv) <;> refine congrArg some ?_))
          | ((fail_if_success (refine .id ?_))
             first
              | (exact Lw.nil)
              | (subst ho; exact hla0)
              | (subst ho; exact ⟨(by first | exact hv.symm | rfl), by simp [std, len_eNd], Int.le_refl _, by omega⟩)
              | (subst ho; simp (disch := omega) only [std, wI]; exact pushI (filtN_yes i1 (dead_hit (decide_eq_false (by assumption)))))
              | (subst ho; simp (disch := omega) only [std, wI]; exact congrArg (eK .i64) (filtN_no i1 (dead_no (decide_eq_true (by assumption)))).symm)
              | ((try clear iha); subst ho; simp (disch := omega) only [std, wI]; exact ⟨by trivial, i0, by omega, by omega⟩)
              | (subst ho; rcases Lw.kind hla0 with rfl | ⟨_, rfl⟩ <;> (refine congrArg (D.sl Tok.nw 1) (congrArg (eK .i64) ?_); rw [filtN_all (by omega) i2, deadM_yes (by rw [hv]; omega)]))
              | omega
              | (subst ho; rfl)
              | (subst ho; simpa [std, lenE] using hl')
              | (subst ho; simp [std, lenE]; omega)
              | (subst ho; simp (disch := omega) only [std, wI, tdiv2, tdivN, lenE] <;> first | done | rfl | omega))))
      | (refine .fin ?_; (conv => lhs; cbv) <;> refine congrArg some ?_))
  | ((fail_if_success (refine .id ?_))
     first
      | (subst ho; rw [deadM_no (by rw [hv]; assumption)]; rfl)
      | assumption))
end Go.Mach
