/- What the statements share: part 6 of a proof by an executable machine over the program's code. -/
import Derived.Test.YtljpfhpcbfpooaaGreatDoorMc5
set_option linter.unusedVariables false
set_option linter.unusedSimpArgs false
namespace Go.Mach
open Go Go.RowKit
section
variable {P : Program} {E : Env} {F F' : Fx} {G G' : Gh} {s : S} {a : Act} {w : World} {tk tk' : List Nat}
def renum1 (to : Nat → Option Nat) (d : D) : Option D :=
 match d with
 | .sl (.own i) z es => (to i).map (fun j => .sl (.own j) z es)
 | d => if d.cell then some d else none
theorem renum_spec {to : Nat → Option Nat} : ∀ {cs cs' : List D}, renum to cs = some cs' → cs'.length = cs.length ∧ ∀ j, j < cs.length → renum1 to (cs.getD j .junk) = some (cs'.getD j .junk)
 | [], cs', h => by simp only [renum, Option.some.injEq] at h; subst h; exact ⟨rfl, fun j hj => by simp at hj⟩
 | d :: l, cs', h => by
   have key : ∃ d' l', renum1 to d = some d' ∧ renum to l = some l' ∧ cs' = d' :: l' := by
    unfold renum at h
    unfold renum1
    split at h
    · rename_i h0; cases h0
    · rename_i i z es l0 heq
      injection heq with q1 q2
      subst q1 q2
      split at h
      · rename_i j hj
        simp only [Option.map_eq_some_iff] at h
        obtain ⟨l', h1, rfl⟩ := h
        exact ⟨_, l', by simp [hj], h1, rfl⟩
      · cases h
    · rename_i d0 l0 hne heq
      injection heq with q1 q2
      subst q1 q2
      split at h
      · rename_i hc
        simp only [Option.map_eq_some_iff] at h
        obtain ⟨l', h1, rfl⟩ := h
        refine ⟨d, l', ?_, h1, rfl⟩
        split
        · rename_i i z es; exact absurd rfl (hne i z es)
        · rw [if_pos hc]
      · cases h
   obtain ⟨d', l', h1, h2, rfl⟩ := key
   obtain ⟨e1, e2⟩ := renum_spec h2
   refine ⟨by simp [e1], fun j hj => ?_⟩
   cases j with
   | zero => simpa using h1
   | succ j => simpa using e2 j (by simpa using hj)
theorem renum1_atom {to : Nat → Option Nat} {d d' : D} (h : renum1 to d = some d') : d.atom = true ∧ d'.atom = true := by
 unfold renum1 at h
 split at h
 · simp only [Option.map_eq_some_iff] at h
   obtain ⟨j, _, rfl⟩ := h
   exact ⟨rfl, rfl⟩
 · split at h
   · rename_i hc
     injection h with h
     subst h
     exact ⟨cell_atom hc, cell_atom hc⟩
   · cases h
structure Conv (F : Fx) (G : Gh) (tk : List Nat) (to : Nat → Option Nat) (F' : Fx) (G' : Gh) (tk' : List Nat) : Prop where
 tok : ∀ i j n, to i = some j → tk[i]? = some n → tk'[j]? = some n
 low : ∀ i j n, to i = some j → tk[i]? = some n → F'.low j ≤ F.low i
 tkb : ∀ i j b, to i = some j → G.tkb[i]? = some b → G'.tkb[j]? = some b
 ice : G'.ice = G.ice
theorem Conv.rep {to : Nat → Option Nat} (hc : Conv F G tk to F' G' tk') {d d' : D} {v : Value} (hd : renum1 to d = some d') (h : Rep F G tk w d v) : Rep F' G' tk' w d' v := by
 obtain ⟨ha, _⟩ := renum1_atom hd
 obtain ⟨hrd, ht⟩ := h.atom_inv ha
 unfold renum1 at hd
 split at hd
 · rename_i i z es
   simp only [Option.map_eq_some_iff] at hd
   obtain ⟨j, hj, rfl⟩ := hd
   obtain ⟨n, hn, hle, hlow, hlive⟩ := ht
   refine .dat (by rw [hc.ice]; exact hrd.tok _ (by simp)) ⟨n, hc.tok i j n hj hn, hle, hlow.mono (hc.low i j n hj hn) (fun b => by rw [hc.ice]; exact Nat.le_refl _) (fun _ _ _ h => h), fun e => ?_⟩
   obtain ⟨ad, cap, hv, hsp⟩ := hlive e
   refine ⟨ad, cap, hv, hsp.imp id ?_⟩
   rintro ⟨b, o, hab, h1, h2, h3⟩
   exact ⟨b, o, hab, hc.tkb i j b hj h1, by rw [hc.ice]; exact h2, h3⟩
 · split at hd
   · rename_i hcell
     injection hd with hd
     subst hd
     exact .dat (by rw [hc.ice]; exact hrd) (.of_free (free_cell hcell))
   · cases hd
theorem Conv.box {to : Nat → Option Nat} (hc : Conv F G tk to F' G' tk') {cs cs' : List D} {p : Pl} (hd : renum to cs = some cs') (h : BoxR F G tk w [cs] p) : BoxR F' G' tk' w [cs'] p := by
 obtain ⟨e1, e2⟩ := renum_spec hd
 obtain ⟨h1, h2, h3, h4, h5⟩ := h
 have hl : cs.length = p.z := h3 cs (by simp)
 refine ⟨by simpa using h1, h2, fun e he => ?_, fun e he c hce => ?_, fun i j hi hj => ?_⟩
 · simp only [List.mem_singleton] at he; subst he; rw [e1]; exact hl
 · simp only [List.mem_singleton] at he; subst he
   obtain ⟨k, hk, rfl⟩ := List.getElem_of_mem hce
   have := (renum1_atom (e2 k (by omega))).2
   rwa [List.getD_eq_getElem?_getD, List.getElem?_eq_getElem hk] at this
 · obtain ⟨v, k1, k2, k3⟩ := h5 i j (by simpa using hi) hj
   refine ⟨v, k1, k2, ?_⟩
   have hi0 : i = 0 := by simpa using hi
   subst hi0
   simp only [List.getD_cons_zero] at k3 ⊢
   exact hc.rep (e2 j (by omega)) k3
theorem putToks_length : ∀ (l idx vs : List Nat), (putToks l idx vs).length = l.length
 | l, [], _ => by simp [putToks]
 | l, i :: idx, [] => by simp [putToks]
 | l, i :: idx, v :: vs => by simp [putToks, putToks_length]
theorem putToks_other : ∀ (l idx vs : List Nat) (i : Nat), i ∉ idx → (putToks l idx vs)[i]? = l[i]?
 | l, [], _, i, _ => by simp [putToks]
 | l, k :: idx, [], i, _ => by simp [putToks]
 | l, k :: idx, v :: vs, i, h => by
   simp only [List.mem_cons, not_or] at h
   simp only [putToks]
   rw [putToks_other _ idx vs i h.2, List.getElem?_set_ne (Ne.symm h.1)]
theorem putToks_at : ∀ (l idx vs : List Nat) (j i v : Nat), idx.Nodup → idx[j]? = some i → vs[j]? = some v → i < l.length → (putToks l idx vs)[i]? = some v
 | l, [], _, j, i, v, _, h, _, _ => by simp at h
 | l, k :: idx, [], j, i, v, _, _, h, _ => by simp at h
 | l, k :: idx, x :: vs, j, i, v, hn, hi, hv, hl => by
   simp only [putToks]
   cases j with
   | zero =>
     simp only [List.getElem?_cons_zero, Option.some.injEq] at hi hv
     subst hi hv
     rw [putToks_other _ _ _ _ (List.nodup_cons.1 hn).1]
     simp [hl]
   | succ j =>
     simp only [List.getElem?_cons_succ] at hi hv
     exact putToks_at _ idx vs j i v (List.nodup_cons.1 hn).2 hi hv (by simpa using hl)
theorem noDup_iff {α : Type} [DecidableEq α] : ∀ {l : List α}, noDup l = true → l.Nodup
 | [], _ => List.nodup_nil
 | x :: l, h => by
   simp only [noDup, Bool.and_eq_true, Bool.not_eq_true'] at h
   exact List.nodup_cons.2 ⟨fun hm => by simp [hm] at h, noDup_iff h.2⟩
theorem boxesOf_spec : ∀ {refs : List Ref} {css : List (List D)}, boxesOf s refs = some css → css.length = refs.length ∧ ∀ (k : Nat) (r : Ref), refs[k]? = some r → ∃ cs, css[k]? = some cs ∧ s.box r = some [cs]
 | [], css, h => by simp only [boxesOf, Option.some.injEq] at h; subst h; exact ⟨rfl, fun k r h => by simp at h⟩
 | x :: refs, css, h => by
   simp only [boxesOf] at h
   split at h
   · rename_i cs hb
     simp only [Option.map_eq_some_iff] at h
     obtain ⟨l, h1, rfl⟩ := h
     obtain ⟨e1, e2⟩ := boxesOf_spec h1
     refine ⟨by simp [e1], fun k r hr => ?_⟩
     cases k with
     | zero => simp only [List.getElem?_cons_zero, Option.some.injEq] at hr; subst hr; exact ⟨cs, rfl, hb⟩
     | succ k => simpa using e2 k r (by simpa using hr)
   · cases h
theorem renums_spec {to : Nat → Option Nat} : ∀ {css css' : List (List D)}, renums to css = some css' → css'.length = css.length ∧ ∀ (k : Nat) (cs : List D), css[k]? = some cs → ∃ cs', css'[k]? = some cs' ∧ renum to cs = some cs'
 | [], css', h => by simp only [renums, Option.some.injEq] at h; subst h; exact ⟨rfl, fun k r h => by simp at h⟩
 | x :: css, css', h => by
   simp only [renums] at h
   split at h
   · rename_i cs' hb
     simp only [Option.map_eq_some_iff] at h
     obtain ⟨l, h1, rfl⟩ := h
     obtain ⟨e1, e2⟩ := renums_spec h1
     refine ⟨by simp [e1], fun k r hr => ?_⟩
     cases k with
     | zero => simp only [List.getElem?_cons_zero, Option.some.injEq] at hr; subst hr; exact ⟨cs', rfl, hb⟩
     | succ k => simpa using e2 k r (by simpa using hr)
   · cases h
theorem unbox_spec : ∀ {out : List Box} {css : List (List D)}, unbox out = some css → css.length = out.length ∧ ∀ (k : Nat) (b : Box), out[k]? = some b → ∃ cs, css[k]? = some cs ∧ b = [cs]
 | [], css, h => by simp only [unbox, Option.some.injEq] at h; subst h; exact ⟨rfl, fun k r h => by simp at h⟩
 | [cs] :: out, css, h => by
   simp only [unbox, Option.map_eq_some_iff] at h
   obtain ⟨l, h1, rfl⟩ := h
   obtain ⟨e1, e2⟩ := unbox_spec h1
   refine ⟨by simp [e1], fun k r hr => ?_⟩
   cases k with
   | zero => simp only [List.getElem?_cons_zero, Option.some.injEq] at hr; subst hr; exact ⟨cs, rfl, rfl⟩
   | succ k => simpa using e2 k r (by simpa using hr)
 | [] :: out, css, h => by simp [unbox] at h
 | (_ :: _ :: _) :: out, css, h => by simp [unbox] at h
theorem toksOf_mem : ∀ {l : List D} {i : Nat}, i ∈ toksOf l ↔ ∃ z es, D.sl (.own i) z es ∈ l
 | [], i => by simp [toksOf]
 | d :: l, i => by
   by_cases h : ∃ j z es, d = .sl (.own j) z es
   · obtain ⟨j, z, es, rfl⟩ := h
     simp only [toksOf, List.mem_cons, toksOf_mem (l := l)]
     constructor
     · rintro (rfl | ⟨z', es', h⟩)
       · exact ⟨z, es, .inl rfl⟩
       · exact ⟨z', es', .inr h⟩
     · rintro ⟨z', es', h | h⟩
       · injection h with h; injection h with h; exact .inl h
       · exact .inr ⟨z', es', h⟩
   · have e : toksOf (d :: l) = toksOf l := by
       cases d with
       | sl t z es => cases t <;> first | rfl | exact absurd ⟨_, z, es, rfl⟩ h
       | _ => rfl
     rw [e, toksOf_mem (l := l)]
     constructor
     · rintro ⟨z', es', hm⟩; exact ⟨z', es', List.mem_cons_of_mem _ hm⟩
     · rintro ⟨z', es', hm⟩
       rcases List.mem_cons.1 hm with hm | hm
       · exact absurd ⟨i, z', es', hm.symm⟩ h
       · exact ⟨z', es', hm⟩
structure Hand (F : Fx) (G : Gh) (s : S) (w : World) (refs : List Ref) (toks : List Nat) (css' : List (List D)) (ps : List Pl) : Prop where
 plen : ps.length = refs.length
 clen : css'.length = refs.length
 pl : ∀ (k : Nat) (r : Ref), refs[k]? = some r → ∃ p, ps[k]? = some p ∧ place F G r = some p
 box : ∀ (k : Nat) (r : Ref), refs[k]? = some r → ∃ cs cs', s.box r = some [cs] ∧ css'[k]? = some cs' ∧ renum (fun i => toks.idxOf? i) cs = some cs'
 ndr : refs.Nodup
 ndt : toks.Nodup
 tlt : ∀ i ∈ toks, i < s.tk.length
def Fx.hand (F : Fx) (G : Gh) (s : S) (w : World) (toks : List Nat) (ps : List Pl) : Fx :=
 ⟨w, ps, toks.map (G.tkb.getD · 0), toks.map (s.tk.getD · 0), G.ice, fun j => F.low (toks.getD j 0), F.lim⟩
def Gh.hand (G : Gh) (toks : List Nat) : Gh := ⟨[], toks.map (G.tkb.getD · 0), G.ice⟩
theorem idxOf?_get {l : List Nat} {i j : Nat} (h : l.idxOf? i = some j) : l[j]? = some i := by
 simp only [List.idxOf?] at h
 obtain ⟨hj, h1, _⟩ := List.findIdx?_eq_some_iff_getElem.1 h
 rw [List.getElem?_eq_getElem hj]
 simpa using h1
theorem getD_of {l : List Nat} {i n : Nat} (h : l[i]? = some n) : l.getD i 0 = n := by
 rw [List.getD_eq_getElem?_getD, h]; rfl
theorem conv_in (hs : Sim F G s a w) {toks : List Nat} {ps : List Pl} : Conv F G s.tk (fun i => toks.idxOf? i) (F.hand G s w toks ps) (G.hand toks) (toks.map (s.tk.getD · 0)) := by
 refine ⟨fun i j n hj hn => ?_, fun i j n hj hn => ?_, fun i j b hj hb => ?_, rfl⟩
 · rw [List.getElem?_map, idxOf?_get hj]
   simp only [Option.map_some, getD_of hn]
 · have h1 := idxOf?_get hj
   have hlt : j < (F.hand G s w toks ps).tk0.length := by simp only [Fx.hand, List.length_map]; exact (List.getElem?_eq_some_iff.1 h1).1
   have h2 := getD_of h1
   have hl : (F.hand G s w toks ps).lim ≤ F.low i := Nat.le_trans (Nat.min_le_left _ _) (F.lim_low i)
   have e : (F.hand G s w toks ps).low j = max (F.hand G s w toks ps).lim (min ((F.hand G s w toks ps).tlow j) (F.hand G s w toks ps).base) := by
    unfold Fx.low
    rw [if_pos hlt]
   rw [e]
   refine Nat.max_le.2 ⟨hl, Nat.le_trans (Nat.min_le_left _ _) ?_⟩
   simp only [Fx.hand, h2]
   exact Nat.le_refl _
 · simp only [Gh.hand]
   rw [List.getElem?_map, idxOf?_get hj]
   simp only [Option.map_some, getD_of hb]
theorem nodup_of {α : Type} {l : List α} (h : ∀ (i j : Nat) (x : α), l[i]? = some x → l[j]? = some x → i = j) : l.Nodup := by
 rw [List.Nodup, List.pairwise_iff_getElem]
 intro i j hi hj hij he
 have := h i j _ (List.getElem?_eq_getElem hi) (by rw [he]; exact List.getElem?_eq_getElem hj)
 omega
theorem hand_nd (hs : Sim F G s a w) {refs toks css' ps} (hh : Hand F G s w refs toks css' ps) : (blocks (F.hand G s w toks ps) (G.hand toks)).Nodup := by
 have htb : ∀ i ∈ toks, ∃ b, G.tkb[i]? = some b := fun i hi => by
  have := hh.tlt i hi
  rw [← hs.inv.tkLen] at this
  exact ⟨_, List.getElem?_eq_getElem this⟩
 have hps : ∀ (k : Nat) (b : Nat), (ps.map (·.b))[k]? = some b → ∃ r p, refs[k]? = some r ∧ place F G r = some p ∧ p.b = b := fun k b h => by
  rw [List.getElem?_map] at h
  simp only [Option.map_eq_some_iff] at h
  obtain ⟨p, hp, rfl⟩ := h
  have hk : k < refs.length := by rw [← hh.plen]; exact (List.getElem?_eq_some_iff.1 hp).1
  obtain ⟨p', h1, h2⟩ := hh.pl k _ (List.getElem?_eq_getElem hk)
  rw [hp] at h1
  injection h1 with h1
  subst h1
  exact ⟨_, p, List.getElem?_eq_getElem hk, h2, rfl⟩
 have htk : ∀ (k : Nat) (b : Nat), (toks.map (G.tkb.getD · 0))[k]? = some b → ∃ i, toks[k]? = some i ∧ G.tkb[i]? = some b := fun k b h => by
  rw [List.getElem?_map] at h
  simp only [Option.map_eq_some_iff] at h
  obtain ⟨i, hi, rfl⟩ := h
  obtain ⟨b, hb⟩ := htb i (List.mem_of_getElem? hi)
  exact ⟨i, hi, by rw [hb, getD_of hb]⟩
 simp only [blocks, Fx.hand, Gh.hand, List.map_nil, List.nil_append, List.nodup_append]
 refine ⟨nodup_of fun i j b h1 h2 => ?_, nodup_of fun i j b h1 h2 => ?_, fun x hx y hy e => ?_⟩
 · obtain ⟨r1, p1, e1, q1, b1⟩ := hps i b h1
   obtain ⟨r2, p2, e2, q2, b2⟩ := hps j b h2
   have := place_inj hs.inv.nd q1 q2 (by rw [b1, b2])
   subst this
   exact (List.getElem?_inj (List.getElem?_eq_some_iff.1 e1).1 hh.ndr).1 (e1.trans e2.symm)
 · obtain ⟨i1, e1, q1⟩ := htk i b h1
   obtain ⟨i2, e2, q2⟩ := htk j b h2
   have := tkb_inj hs.inv.nd q1 q2
   subst this
   exact (List.getElem?_inj (List.getElem?_eq_some_iff.1 e1).1 hh.ndt).1 (e1.trans e2.symm)
 · subst e
   obtain ⟨k, hk⟩ := List.getElem?_of_mem hx
   obtain ⟨k', hk'⟩ := List.getElem?_of_mem hy
   obtain ⟨r1, p1, e1, q1, b1⟩ := hps k x hk
   obtain ⟨i2, e2, q2⟩ := htk k' x hk'
   exact place_tkb hs.inv.nd q1 q2 b1
theorem args_hand {toks ps} : ∀ {n : Nat} {ds as_ : List D} {vs : List Value}, argsFor n ds = some as_ → vs.length = ds.length → (∀ i, i < ds.length → Rep F G tk w (ds.getD i .junk) (vs.getD i undef)) →
  (∀ (k : Nat) (r : Ref) (p : Pl), (refsOf ds)[k]? = some r → place F G r = some p → ps[n + k]? = some p) →
  as_.length = ds.length ∧ ∀ i, i < as_.length → Rep (F.hand G s w toks ps) (G.hand toks) tk' w (as_.getD i .junk) (vs.getD i undef)
 | n, [], as_, vs, h, hl, hr, hp => by simp only [argsFor, Option.some.injEq] at h; subst h; exact ⟨rfl, fun i hi => by simp at hi⟩
 | n, d :: ds, as_, [], h, hl, hr, hp => by simp at hl
 | n, d :: ds, as_, v :: vs, h, hl, hr, hp => by
   simp only [argsFor] at h
   split at h
   · rename_i d' n' hd
     simp only [Option.map_eq_some_iff] at h
     obtain ⟨as', ha, rfl⟩ := h
     have h0 := hr 0 (by simp)
     simp only [List.getD_cons_zero] at h0
     have key : Rep (F.hand G s w toks ps) (G.hand toks) tk' w d' v ∧ ∀ (k : Nat) (r : Ref) (p : Pl), (refsOf ds)[k]? = some r → place F G r = some p → ps[n' + k]? = some p := by
      by_cases hpb : ∃ r, d = .pbx r 0
      · obtain ⟨r, rfl⟩ := hpb
        simp only [argFor, Option.some.injEq, Prod.mk.injEq] at hd
        obtain ⟨rfl, rfl⟩ := hd
        refine ⟨?_, fun k r' p hk hpl => ?_⟩
        · cases h0 with
          | dat h _ => cases h
          | pbx _ _ b o z m hpl => exact .pbx _ _ b o z m (hp 0 r _ rfl hpl)
        · have := hp (k + 1) r' p (by simpa [refsOf] using hk) hpl
          rw [show n + 1 + k = n + (k + 1) by omega]; exact this
      · have hnp : ∀ r, d ≠ .pbx r 0 := fun r e => hpb ⟨r, e⟩
        obtain ⟨rfl, hv⟩ := argFor_data hd hnp h0
        refine ⟨ArgR.rep (G := G.hand toks) hv, ?_⟩
        have : refsOf (d :: ds) = refsOf ds := by
         cases d with
         | pbx r off =>
           cases off with
           | zero => exact absurd rfl (hnp r)
           | succ k => rfl
         | _ => rfl
        rwa [this] at hp
     obtain ⟨e1, e2⟩ := args_hand ha (by simpa using hl) (fun i hi => by simpa using hr (i + 1) (by simpa using hi)) key.2
     refine ⟨by simp [e1], fun i hi => ?_⟩
     cases i with
     | zero => simpa using key.1
     | succ i => simpa using e2 i (by simpa using hi)
   · cases h
theorem sim_hand (hs : Sim F G s a w) {refs toks css' ps} (hh : Hand F G s w refs toks css' ps) {fi : FnI} {as_ : List D} {vs : Array Value} (hl : vs.size = as_.length)
  (hr : ∀ i, i < as_.length → Rep (F.hand G s w toks ps) (G.hand toks) (toks.map (s.tk.getD · 0)) w (as_.getD i .junk) (vs.getD i undef)) (hn : as_.length ≤ fi.ntmps) :
  Sim (F.hand G s w toks ps) (G.hand toks) (enterS fi as_ (css'.map ([·])) (toks.map (s.tk.getD · 0))) { tmps := vs ++ Array.replicate (fi.ntmps - vs.size) undef, defers := [] } w := by
 have hi := hs.inv
 have hnd := hand_nd hs hh
 have hlive : ∀ b ∈ blocks (F.hand G s w toks ps) (G.hand toks), b ∈ blocks F G := fun b hb => by
  simp only [blocks, Fx.hand, Gh.hand, List.map_nil, List.nil_append, List.mem_append] at hb
  rcases hb with hb | hb
  · obtain ⟨p, hp, rfl⟩ := List.mem_map.1 hb
    obtain ⟨k, hk, rfl⟩ := List.getElem_of_mem hp
    obtain ⟨p', h1, h2⟩ := hh.pl k _ (List.getElem?_eq_getElem (by rw [← hh.plen]; exact hk))
    rw [List.getElem?_eq_getElem hk] at h1
    injection h1 with h1
    rw [h1]
    exact List.mem_of_getElem? (place_block h2).1
  · obtain ⟨i, hi', rfl⟩ := List.mem_map.1 hb
    have h1 := hh.tlt i hi'
    rw [← hi.tkLen] at h1
    have h2 := List.getElem?_eq_getElem h1
    rw [getD_of h2]
    exact List.mem_of_getElem? (tkb_block h2)
 refine ⟨⟨rfl, by simp [Fx.hand, enterS, hh.plen, hh.clen], fun i es p h => by simp [enterS] at h, fun k es p h1 h2 => ?_, hnd, fun b hb => hi.live b (hlive b hb), fun p hp => by simp [Gh.hand] at hp, by simp [Gh.hand, enterS], fun i b h1 h2 => ?_, fun i b h1 h2 => .inl h2, fun p hp => ?_, hi.iceBig,
  ⟨rfl, rfl, ⟨rfl, Nat.le_refl _⟩, Nat.le_refl _, fun _ _ _ _ => rfl, Ext.refl _ _ _, fun _ _ _ => rfl⟩⟩, ⟨by simp [enterS, hl], fun i hi => ?_⟩, rfl⟩
 · simp only [enterS, List.getElem?_map, Option.map_eq_some_iff] at h1
   obtain ⟨cs', hc, rfl⟩ := h1
   have hk : k < refs.length := by rw [← hh.clen]; exact (List.getElem?_eq_some_iff.1 hc).1
   obtain ⟨p', e1, e2⟩ := hh.pl k _ (List.getElem?_eq_getElem hk)
   obtain ⟨cs, cs2, e3, e4, e5⟩ := hh.box k _ (List.getElem?_eq_getElem hk)
   rw [hc] at e4
   injection e4 with e4
   subst e4
   have h2' : ps[k]? = some p := h2
   rw [e1] at h2'
   injection h2' with h2'
   subst h2'
   exact (conv_in hs).box e5 (hs.box e3 e2)
 · have := (List.getElem?_eq_some_iff.1 h2).1
   simp only [Fx.hand, Gh.hand, List.length_map] at h1 this
   omega
 · simp only [Fx.hand, Gh.hand, List.append_nil] at hp
   obtain ⟨k, hk, rfl⟩ := List.getElem_of_mem hp
   obtain ⟨p', h1, h2⟩ := hh.pl k _ (List.getElem?_eq_getElem (by rw [← hh.plen]; exact hk))
   rw [List.getElem?_eq_getElem hk] at h1
   injection h1 with h1
   rw [h1]
   exact hi.iceBox _ (place_mem h2)
 · by_cases hia : i < as_.length
   · have h1 : (as_ ++ List.replicate (fi.ntmps - as_.length) D.junk).getD i .junk = as_.getD i .junk := by
       simp only [List.getD_eq_getElem?_getD]; rw [List.getElem?_append_left hia]
     have h2 : (vs ++ Array.replicate (fi.ntmps - vs.size) undef).getD i undef = vs.getD i undef := by
      simp only [Array.getD_eq_getD_getElem?]; rw [Array.getElem?_append_left (by omega)]
     simp only [enterS]
     rw [h1, h2]
     exact hr i hia
   · have h1 : (as_ ++ List.replicate (fi.ntmps - as_.length) D.junk).getD i .junk = .junk := by
       simp only [List.getD_eq_getElem?_getD]; rw [List.getElem?_append_right (by omega)]
       simp only [List.getElem?_replicate]; split <;> rfl
     simp only [enterS]
     rw [h1]
     exact .junk _
end
section
variable {P : Program} {E : Env} {F F' : Fx} {G G' G1 : Gh} {s s1 : S} {a : Act} {w w1 : World} {tk tk' : List Nat}
def backL (l toks vs : List Nat) : List Nat := putToks l toks vs ++ vs.drop toks.length
theorem backL_old {l toks vs : List Nat} {i : Nat} (h : i ∉ toks) (hi : i < l.length) : (backL l toks vs)[i]? = l[i]? := by
 unfold backL
 rw [List.getElem?_append_left (by rw [putToks_length]; exact hi), putToks_other _ _ _ _ h]
theorem toBack_low {toks : List Nat} {n j i : Nat} (hj : toks[j]? = some i) : toBack toks n j = some i := by
 have := (List.getElem?_eq_some_iff.1 hj).1
 simp only [toBack, if_pos this, getD_of hj]
theorem backL_dst {l toks vs : List Nat} {i j v : Nat} (hn : toks.Nodup) (ht : ∀ i ∈ toks, i < l.length) (hv : vs[j]? = some v) (h : toBack toks l.length j = some i) : (backL l toks vs)[i]? = some v := by
 simp only [toBack, Option.some.injEq] at h
 unfold backL
 split at h
 · rename_i hj
   have h1 := List.getElem?_eq_getElem hj
   rw [getD_of h1] at h
   have h2 : i < l.length := ht i (by rw [← h]; exact List.getElem_mem hj)
   rw [List.getElem?_append_left (by rw [putToks_length]; exact h2)]
   exact putToks_at _ _ _ j i v hn (by rw [h1, h]) hv h2
 · rename_i hj
   rw [List.getElem?_append_right (by rw [putToks_length]; omega), putToks_length, List.getElem?_drop]
   rw [show toks.length + (i - l.length) = j by omega]
   exact hv
theorem backL_src {l toks vs : List Nat} {i v : Nat} (hn : toks.Nodup) (ht : ∀ i ∈ toks, i < l.length) (hm : toks.length ≤ vs.length) (h : (backL l toks vs)[i]? = some v) :
  (i ∉ toks ∧ i < l.length ∧ l[i]? = some v) ∨ ∃ j, vs[j]? = some v ∧ toBack toks l.length j = some i ∧ (j < toks.length → toks[j]? = some i) := by
 by_cases hi : i < l.length
 · by_cases hmem : i ∈ toks
   · obtain ⟨j, hj⟩ := List.getElem?_of_mem hmem
     have hjl := (List.getElem?_eq_some_iff.1 hj).1
     have hv := List.getElem?_eq_getElem (l := vs) (i := j) (by omega)
     have := backL_dst hn ht hv (toBack_low (n := l.length) hj)
     rw [h] at this
     injection this with this
     exact .inr ⟨j, by rw [hv, this], toBack_low hj, fun _ => hj⟩
   · exact .inl ⟨hmem, hi, by rw [← backL_old hmem hi]; exact h⟩
 · unfold backL at h
   rw [List.getElem?_append_right (by rw [putToks_length]; omega), putToks_length, List.getElem?_drop] at h
   refine .inr ⟨_, h, ?_, fun h => by omega⟩
   simp only [toBack]
   rw [if_neg (by omega)]
   congr 1
   omega
theorem setBox_box (s : S) (r r' : Ref) (b : Box) : (s.setBox r b).box r' = if r = r' then (s.box r).map (fun _ => b) else s.box r' := by
 cases r with
 | loc i =>
   cases r' with
   | loc j =>
     simp only [S.setBox, S.box, List.getElem?_set, Ref.loc.injEq]
     by_cases h : i = j
     · subst h
       by_cases h2 : i < s.loc.length <;> simp [h2]
     · simp [h]
   | out j => simp [S.setBox, S.box]
 | out i =>
   cases r' with
   | out j =>
     simp only [S.setBox, S.box, List.getElem?_set, Ref.out.injEq]
     by_cases h : i = j
     · subst h
       by_cases h2 : i < s.out.length <;> simp [h2]
     · simp [h]
   | loc j => simp [S.setBox, S.box]
theorem putBoxes_other : ∀ (refs : List Ref) (css : List (List D)) (s : S) (r : Ref), r ∉ refs → (putBoxes s refs css).box r = s.box r
 | [], _, s, r, _ => by simp [putBoxes]
 | x :: refs, [], s, r, _ => by simp [putBoxes]
 | x :: refs, cs :: css, s, r, h => by
   simp only [List.mem_cons, not_or] at h
   simp only [putBoxes]
   rw [putBoxes_other refs css _ r h.2, setBox_box, if_neg (Ne.symm h.1)]
theorem putBoxes_at : ∀ (refs : List Ref) (css : List (List D)) (s : S) (k : Nat) (r : Ref) (cs : List D), refs.Nodup → refs[k]? = some r → css[k]? = some cs → (s.box r).isSome = true → (putBoxes s refs css).box r = some [cs]
 | [], _, s, k, r, cs, _, h, _, _ => by simp at h
 | x :: refs, [], s, k, r, cs, _, _, h, _ => by simp at h
 | x :: refs, c :: css, s, k, r, cs, hn, hr, hc, hb => by
   simp only [putBoxes]
   cases k with
   | zero =>
     simp only [List.getElem?_cons_zero, Option.some.injEq] at hr hc
     subst hr hc
     rw [putBoxes_other _ _ _ _ (List.nodup_cons.1 hn).1, setBox_box, if_pos rfl]
     cases h : s.box x with
     | none => rw [h] at hb; cases hb
     | some b => rfl
   | succ k =>
     simp only [List.getElem?_cons_succ] at hr hc
     refine putBoxes_at refs css _ k r cs (List.nodup_cons.1 hn).2 hr hc ?_
     rw [setBox_box]
     split
     · rename_i e; subst e; cases h : s.box x with
       | none => rw [h] at hb; cases hb
       | some b => rfl
     · exact hb
theorem putBoxes_rest : ∀ (refs : List Ref) (css : List (List D)) (s : S), (putBoxes s refs css).t = s.t ∧ (putBoxes s refs css).tk = s.tk ∧ (putBoxes s refs css).loc.length = s.loc.length ∧ (putBoxes s refs css).out.length = s.out.length
 | [], _, s => by simp [putBoxes]
 | x :: refs, [], s => by simp [putBoxes]
 | x :: refs, c :: css, s => by
   simp only [putBoxes]
   obtain ⟨h1, h2, h3, h4⟩ := putBoxes_rest refs css (s.setBox x [c])
   refine ⟨h1.trans ?_, h2.trans ?_, h3.trans ?_, h4.trans ?_⟩ <;> cases x <;> simp [S.setBox]
def Gh.back (G G1 : Gh) (toks : List Nat) : Gh := ⟨G.loc, backL G.tkb toks G1.tkb, G1.ice⟩
theorem Sim.back (hs : Sim F G s a w) {refs toks css0 ps} (hh : Hand F G s w refs toks css0 ps) {css1 css2 : List (List D)} (h1 : Inv (F.hand G s w toks ps) G1 s1.loc s1.out s1.tk w1)
  (hout : unbox s1.out = some css1) (hcs : renums (toBack toks s.tk.length) css1 = some css2) :
  Conv (F.hand G s w toks ps) G1 s1.tk (toBack toks s.tk.length) F (G.back G1 toks) (backL s.tk toks s1.tk) ∧ Sim F (G.back G1 toks) { putBoxes s refs css2 with tk := backL s.tk toks s1.tk } a w1 ∧
   ∀ b ∈ blocks F (G.back G1 toks), b < w.heap.size ∨ b ∈ G1.tkb := by
 have hi := hs.inv
 have hf := hi.fr
 have hf1 := h1.fr
 have htl : ∀ i ∈ toks, i < s.tk.length := hh.tlt
 have htl' : ∀ i ∈ toks, i < G.tkb.length := fun i h => by rw [hi.tkLen]; exact htl i h
 have hsz : w.heap.size ≤ w1.heap.size := hf1.size
 have hFb : F.base ≤ w.heap.size := hf.size
 have htk0 : ∀ (j i : Nat), toks[j]? = some i → (F.hand G s w toks ps).tk0[j]? = s.tk[i]? ∧ (F.hand G s w toks ps).tkb0[j]? = G.tkb[i]? := fun j i hj => by
  have hi1 := List.getElem?_eq_getElem (htl i (List.mem_of_getElem? hj))
  have hi2 := List.getElem?_eq_getElem (htl' i (List.mem_of_getElem? hj))
  simp only [Fx.hand, List.getElem?_map, hj, Option.map_some]
  rw [hi1, hi2, getD_of hi1, getD_of hi2]
  exact ⟨rfl, rfl⟩
 have hm : toks.length ≤ s1.tk.length := by
  rcases Nat.lt_or_ge s1.tk.length toks.length with h | h
  · exfalso
    have hj := List.getElem?_eq_getElem h
    have := (htk0 _ _ hj).1
    rw [List.getElem?_eq_getElem (htl _ (List.getElem_mem h))] at this
    obtain ⟨n', h2, _⟩ := hf1.ext0.tok _ _ this
    have := (List.getElem?_eq_some_iff.1 h2).1
    omega
  · exact h
 have hm' : toks.length ≤ G1.tkb.length := by rw [h1.tkLen]; exact hm
 have hlen : G.tkb.length = s.tk.length := hi.tkLen
 have hnew : ∀ (j b : Nat), G1.tkb[j]? = some b → w.heap.size ≤ b ∨ ∃ i, toks[j]? = some i ∧ G.tkb[i]? = some b := fun j b hb => by
  rcases Nat.lt_or_ge j toks.length with h | h
  · have hj := List.getElem?_eq_getElem h
    rcases h1.tkOld j b (by simpa [Fx.hand] using h) hb with h2 | h2
    · rw [(htk0 _ _ hj).2] at h2; exact .inr ⟨_, hj, h2⟩
    · exact .inl h2
  · exact .inl (h1.tkNew j b (by simpa [Fx.hand] using h) hb)
 have hnot0 : ∀ (i b : Nat), i ∉ toks → G.tkb[i]? = some b → b ∉ (F.hand G s w toks ps).tkb0 := fun i b hmem hb hc => by
  obtain ⟨k, hk⟩ := List.getElem?_of_mem hc
  have hkl := (List.getElem?_eq_some_iff.1 hk).1
  simp only [Fx.hand, List.length_map] at hkl
  have hj := List.getElem?_eq_getElem hkl
  rw [(htk0 _ _ hj).2] at hk
  have := tkb_inj hi.nd hb hk
  exact hmem (by rw [this]; exact List.mem_of_getElem? hj)
 have hout0 : ∀ p ∈ ps, ∃ r, r ∈ refs ∧ place F G r = some p := fun p hp => by
  obtain ⟨k, hk, rfl⟩ := List.getElem_of_mem hp
  have hkr : k < refs.length := by rw [← hh.plen]; exact hk
  obtain ⟨p', e1, e2⟩ := hh.pl k _ (List.getElem?_eq_getElem hkr)
  rw [List.getElem?_eq_getElem hk] at e1
  injection e1 with e1
  exact ⟨_, List.getElem_mem hkr, by rw [e1]; exact e2⟩
 have htkb0 : ∀ b ∈ (F.hand G s w toks ps).tkb0, ∃ i, i ∈ toks ∧ G.tkb[i]? = some b := fun b hc => by
  obtain ⟨k, hk⟩ := List.getElem?_of_mem hc
  have hkl := (List.getElem?_eq_some_iff.1 hk).1
  simp only [Fx.hand, List.length_map] at hkl
  have hj := List.getElem?_eq_getElem hkl
  rw [(htk0 _ _ hj).2] at hk
  exact ⟨_, List.mem_of_getElem? hj, hk⟩
 have hsame : ∀ b, b < w.heap.size → (∀ p ∈ ps, p.b ≠ b) → b ∉ (F.hand G s w toks ps).tkb0 → w1.heap[b]? = w.heap[b]? := fun b h2 h3 h4 => hf1.same b h2 h3 h4
 have hx : ∀ l, Ext ⟨l, G.tkb, G.ice⟩ s.tk w ⟨l, backL G.tkb toks G1.tkb, G1.ice⟩ (backL s.tk toks s1.tk) w1 := fun l => by
  refine ⟨fun _ _ h => h, hf1.ext0.ice, hf1.ext0.cell, hf1.ext0.frz, fun i n hn => ?_⟩
  have hin := (List.getElem?_eq_some_iff.1 hn).1
  by_cases hmem : i ∈ toks
  · obtain ⟨j, hj⟩ := List.getElem?_of_mem hmem
    obtain ⟨e1, e2⟩ := htk0 j i hj
    obtain ⟨n', k1, k2, k3⟩ := hf1.ext0.tok j n (by rw [e1]; exact hn)
    refine ⟨n', backL_dst hh.ndt htl k1 (toBack_low hj), k2, fun e b hb => ?_⟩
    obtain ⟨q1, q2, q3⟩ := k3 e b (by show (F.hand G s w toks ps).tkb0[j]? = some b; rw [e2]; exact hb)
    exact ⟨backL_dst hh.ndt htl' q1 (by rw [hlen]; exact toBack_low hj), q2, q3⟩
  · refine ⟨n, by rw [backL_old hmem hin]; exact hn, Nat.le_refl _, fun _ b hb => ?_⟩
    have hbl := hi.tkLive b (List.mem_of_getElem? hb)
    have hn0 := hnot0 i b hmem hb
    refine ⟨?_, hf1.ice b hbl hn0, fun c e hc => ⟨c, ?_, rfl⟩⟩
    · show (backL G.tkb toks G1.tkb)[i]? = some b
      rw [backL_old hmem (by rw [hlen]; exact hin)]; exact hb
    · rw [hsame b hbl (fun p hp e => ?_) hn0]; exact hc
      obtain ⟨r, _, hr⟩ := hout0 p hp
      exact place_tkb hi.nd hr hb e
 have hxG : Ext G s.tk w (G.back G1 toks) (backL s.tk toks s1.tk) w1 := hx G.loc
 have hconv : Conv (F.hand G s w toks ps) G1 s1.tk (toBack toks s.tk.length) F (G.back G1 toks) (backL s.tk toks s1.tk) := by
  refine ⟨fun j i n hj hn => backL_dst hh.ndt htl hn hj, fun j i n hj hn => ?_, fun j i b hj hb => backL_dst hh.ndt htl' hb (by rw [hlen]; exact hj), rfl⟩
  have h2 : F.low i ≤ F.base := F.low_le i
  unfold Fx.low
  simp only [toBack, Option.some.injEq] at hj
  split at hj
  · rename_i hjl
    rw [if_pos (c := j < _) (by simpa [Fx.hand] using hjl)]
    have : (F.hand G s w toks ps).tlow j = F.low i := by simp only [Fx.hand]; rw [hj]
    rw [this]
    have h3 : (F.hand G s w toks ps).base = w.heap.size := rfl
    show F.low i ≤ _
    omega
  · rename_i hjl
    rw [if_neg (c := j < _) (by simpa [Fx.hand] using hjl)]
    have h3 : (F.hand G s w toks ps).base = w.heap.size := rfl
    show F.low i ≤ _
    omega
 obtain ⟨hu1, hu2⟩ := unbox_spec hout
 obtain ⟨hr1, hr2⟩ := renums_spec hcs
 obtain ⟨p1, p2, p3, p4⟩ := putBoxes_rest refs css2 s
 have hbox : ∀ (r : Ref) (es : Box) (p : Pl), (putBoxes s refs css2).box r = some es → place F G r = some p → BoxR F (G.back G1 toks) (backL s.tk toks s1.tk) w1 es p := fun r es p hb hp => by
  by_cases hmem : r ∈ refs
  · obtain ⟨k, hk⟩ := List.getElem?_of_mem hmem
    obtain ⟨p', e1, e2⟩ := hh.pl k r hk
    rw [hp] at e2
    injection e2 with e2
    subst e2
    obtain ⟨cs, cs', e3, _, _⟩ := hh.box k r hk
    have hkl : k < s1.out.length := by rw [← h1.outLen]; exact (List.getElem?_eq_some_iff.1 e1).1
    have e4 := List.getElem?_eq_getElem hkl
    obtain ⟨cs1, e5, e6⟩ := hu2 k _ e4
    obtain ⟨cs2, e7, e8⟩ := hr2 k _ e5
    have e9 := putBoxes_at refs css2 s k r cs2 hh.ndr hk e7 (by rw [e3]; rfl)
    rw [hb] at e9
    injection e9 with e9
    subst e9
    have e10 := h1.boxO k _ p e4 e1
    rw [e6] at e10
    exact hconv.box e8 e10
  · rw [putBoxes_other _ _ _ _ hmem] at hb
    have hbl : p.b < w.heap.size := by
     rcases List.mem_append.1 (place_mem hp) with h | h
     · exact hi.outLive p h
     · exact hi.locLive p h
    have hs1 : w1.heap[p.b]? = w.heap[p.b]? := hsame p.b hbl (fun p' hp' e => by
     obtain ⟨r', hr', hpl⟩ := hout0 p' hp'
     have := place_inj hi.nd hpl hp e
     exact hmem (this ▸ hr')) (fun hc => by
     obtain ⟨i, _, hb'⟩ := htkb0 _ hc
     exact place_tkb hi.nd hp hb' rfl)
    exact (hs.box hb hp).ext hxG fun i j _ _ => ⟨World.cell?_of_block (a := ⟨p.b, _, none⟩) hs1, World.frozen?_of_block (a := ⟨p.b, _, none⟩) hs1⟩
 have hblocks : ∀ b ∈ blocks F (G.back G1 toks), b < w.heap.size ∨ b ∈ G1.tkb := fun b hb => by
  simp only [blocks, Gh.back, List.mem_append] at hb
  rcases hb with hb | hb | hb
  · exact .inl (hi.live b (by simp only [blocks, List.mem_append]; exact .inl hb))
  · exact .inl (hi.live b (by simp only [blocks, List.mem_append]; exact .inr (.inl hb)))
  · obtain ⟨i, hi'⟩ := List.getElem?_of_mem hb
    rcases backL_src hh.ndt htl' hm' hi' with ⟨_, _, h2⟩ | ⟨j, h2, _⟩
    · exact .inl (hi.tkLive b (List.mem_of_getElem? h2))
    · exact .inr (List.mem_of_getElem? h2)
 refine ⟨hconv, ⟨⟨?_, ?_, fun i es p e1 e2 => hbox (.loc i) es p e1 e2, fun i es p e1 e2 => hbox (.out i) es p e1 e2, ?_, fun b hb => ?_, hi.locNew, ?_, fun i b e1 e2 => ?_, fun i b e1 e2 => ?_, fun p hp => ?_, h1.iceBig,
  ⟨hf1.os.trans hf.os, hf1.tape.trans hf.tape, ⟨hf1.output.1.trans hf.output.1, Nat.le_trans hf.output.2 hf1.output.2⟩, Nat.le_trans hFb hsz, fun b e1 e2 e3 => ?_, hf.ext0.trans (hx []), fun b e1 e2 => ?_⟩⟩, ?_, hs.def0⟩, hblocks⟩
 · show G.loc.length = _; rw [p3]; exact hi.locLen
 · rw [p4]; exact hi.outLen
 ·
  have hnd := hi.nd
  simp only [blocks, Gh.back] at hnd ⊢
  rw [← List.append_assoc] at hnd ⊢
  obtain ⟨n1, n2, n3⟩ := List.nodup_append.1 hnd
  refine List.nodup_append.2 ⟨n1, nodup_of fun i i' b e1 e2 => ?_, fun x hx' y hy e => ?_⟩
  · have hcross : ∀ (i j b : Nat), i ∉ toks → G.tkb[i]? = some b → G1.tkb[j]? = some b → False := fun i j b q1 q2 q3 => by
      rcases hnew j b q3 with h | ⟨i2, h2, h3⟩
      · have := hi.tkLive b (List.mem_of_getElem? q2); omega
      · have := tkb_inj hi.nd q2 h3
        exact q1 (by rw [this]; exact List.mem_of_getElem? h2)
    rcases backL_src hh.ndt htl' hm' e1 with ⟨q1, q2, q3⟩ | ⟨j, q1, q2, q3⟩ <;> rcases backL_src hh.ndt htl' hm' e2 with ⟨r1, r2, r3⟩ | ⟨j', r1, r2, r3⟩
    · exact tkb_inj hi.nd q3 r3
    · exact (hcross _ _ _ q1 q3 r1).elim
    · exact (hcross _ _ _ r1 r3 q1).elim
    · have := tkb_inj h1.nd q1 r1
      subst this
      rw [q2] at r2
      injection r2
  · subst e
    obtain ⟨i, hi'⟩ := List.getElem?_of_mem hy
    have hxl : x < w.heap.size := hi.live x (by simp only [blocks]; rw [← List.append_assoc]; exact List.mem_append_left _ hx')
    rcases backL_src hh.ndt htl' hm' hi' with ⟨q1, q2, q3⟩ | ⟨j, q1, q2, q3⟩
    · exact n3 x hx' x (List.mem_of_getElem? q3) rfl
    · rcases hnew j x q1 with h | ⟨i2, h2, h3⟩
      · omega
      · exact n3 x hx' x (List.mem_of_getElem? h3) rfl
 · rcases hblocks b hb with h | h
   · omega
   · exact h1.tkLive b h
 · simp only [Gh.back, backL, List.length_append, putToks_length, List.length_drop, hlen, h1.tkLen]
 · rcases backL_src hh.ndt htl' hm' e2 with ⟨q1, q2, q3⟩ | ⟨j, q1, q2, q3⟩
   · exact hi.tkNew i b e1 q3
   · rcases hnew j b q1 with h | ⟨i2, h2, h3⟩
     · omega
     · have hj := (List.getElem?_eq_some_iff.1 h2).1
       rw [q3 hj] at h2
       injection h2 with h2
       subst h2
       exact hi.tkNew i b e1 h3
 · rcases backL_src hh.ndt htl' hm' e2 with ⟨q1, q2, q3⟩ | ⟨j, q1, q2, q3⟩
   · exact hi.tkOld i b e1 q3
   · rcases hnew j b q1 with h | ⟨i2, h2, h3⟩
     · exact .inr (by omega)
     · have hj := (List.getElem?_eq_some_iff.1 h2).1
       rw [q3 hj] at h2
       injection h2 with h2
       subst h2
       exact hi.tkOld i b e1 h3
 · show G1.ice p.b = 0
   have hbl : p.b < w.heap.size := by
    rcases List.mem_append.1 hp with h | h
    · exact hi.outLive p h
    · exact hi.locLive p h
   rw [hf1.ice p.b hbl (fun hc => ?_)]
   · exact hi.iceBox p hp
   · obtain ⟨i, _, hb'⟩ := htkb0 _ hc
     rcases List.mem_append.1 hp with h | h
     · obtain ⟨k, hk⟩ := List.getElem?_of_mem h
       exact place_tkb hi.nd (r1 := .out k) hk hb' rfl
     · obtain ⟨k, hk⟩ := List.getElem?_of_mem h
       exact place_tkb hi.nd (r1 := .loc k) hk hb' rfl
 · have hb0 : b < F.base := e1
   rw [hsame b (by omega) (fun p hp e => ?_) (fun hc => ?_)]
   · exact hf.same b e1 e2 e3
   · obtain ⟨r, _, hr⟩ := hout0 p hp
     cases r with
     | out k => exact e2 p (List.mem_of_getElem? hr) e
     | loc k => have := hi.locNew p (List.mem_of_getElem? hr); omega
   · obtain ⟨i, _, hb'⟩ := htkb0 _ hc
     rcases Nat.lt_or_ge i F.tk0.length with h | h
     · rcases hi.tkOld i b h hb' with h2 | h2
       · exact e3 (List.mem_of_getElem? h2)
       · omega
     · have := hi.tkNew i b h hb'; omega
 · have hb0 : b < F.base := e1
   show G1.ice b = _
   rw [hf1.ice b (show b < w.heap.size by omega) (fun hc => ?_)]
   · exact hf.ice b e1 e2
   · obtain ⟨i, _, hb'⟩ := htkb0 _ hc
     rcases Nat.lt_or_ge i F.tk0.length with h | h
     · rcases hi.tkOld i b h hb' with h2 | h2
       · exact e2 (List.mem_of_getElem? h2)
       · omega
     · have := hi.tkNew i b h hb'; omega
 · have := hs.tmp.ext hxG
   show Temps F _ _ w1 (putBoxes s refs css2).t a
   rw [p1]
   exact this
end
section
variable {P : Program} {E : Env} {F : Fx} {G : Gh} {s : S} {a : Act} {w : World} {o : Oper} {Q : Exit → Act → World → Prop} {rec : T → Option (X × S)} {r : X × S} {K : S → T}
def Gh.withIce (G : Gh) (i : Nat → Nat) : Gh := { G with ice := i }
theorem Sim.below (hs : Sim F G s a w) {w' : World} (hos : w'.os = w.os) (htape : w'.tape = w.tape) (hout : w'.output = w.output ∧ w.drawn ≤ w'.drawn) (hsize : w.heap.size ≤ w'.heap.size) (hsame : ∀ b, b < w.heap.size → w'.heap[b]? = w.heap[b]?)
  (ice : Nat → Nat) (h1 : ∀ b, b < w.heap.size → ice b = G.ice b) (h2 : ∀ b, w'.heap.size ≤ b → ice b = 0) : Sim F (G.withIce ice) s a w' := by
 have hi := hs.inv
 have hf := hi.fr
 have hx : ∀ l, Ext ⟨l, G.tkb, G.ice⟩ s.tk w ⟨l, G.tkb, ice⟩ s.tk w' := fun l => by
  refine ⟨fun _ _ h => h, fun b => ?_, fun b i hb => ?_, fun b i hb hz => (World.frozen?_of_block (a := ⟨b, i, none⟩) (hsame b (Nat.lt_of_not_le fun h => by have : G.ice b = 0 := hi.iceBig b h; have hb' : i < G.ice b := hb; omega))).trans hz, fun i n hn => ⟨n, hn, Nat.le_refl _, fun _ b hb => ⟨hb, ?_, fun c e hc => ⟨c, ?_, rfl⟩⟩⟩⟩
  · rcases Nat.lt_or_ge b w.heap.size with h | h
    · show G.ice b ≤ ice b; rw [h1 b h]; exact Nat.le_refl _
    · show G.ice b ≤ ice b; rw [hi.iceBig b h]; exact Nat.zero_le _
  · rcases Nat.lt_or_ge b w.heap.size with h | h
    · exact World.cell?_of_block (a := ⟨b, i, none⟩) (hsame b h)
    · have : G.ice b = 0 := hi.iceBig b h
      have hb' : i < G.ice b := hb
      omega
  · exact h1 b (hi.tkLive b (List.mem_of_getElem? hb))
  · rw [hsame b (hi.tkLive b (List.mem_of_getElem? hb))]; exact hc
 have hxG : Ext G s.tk w (G.withIce ice) s.tk w' := hx G.loc
 refine ⟨⟨hi.locLen, hi.outLen, fun i es p e1 e2 => (hi.boxL i es p e1 e2).ext hxG fun _ _ _ _ => ?_, fun i es p e1 e2 => (hi.boxO i es p e1 e2).ext hxG fun _ _ _ _ => ?_, hi.nd, fun b hb => Nat.lt_of_lt_of_le (hi.live b hb) hsize, hi.locNew, hi.tkLen, hi.tkNew, hi.tkOld, fun p hp => ?_, h2,
  ⟨hos.trans hf.os, htape.trans hf.tape, ⟨hout.1.trans hf.output.1, Nat.le_trans hf.output.2 hout.2⟩, Nat.le_trans hf.size hsize, fun b hb e1 e2 => ?_, hf.ext0.trans (hx []), fun b hb e1 => ?_⟩⟩, hs.tmp.ext hxG, hs.def0⟩
 · have := hi.locLive p (List.mem_of_getElem? e2)
   exact ⟨World.cell?_of_block (a := ⟨p.b, _, none⟩) (hsame _ this), World.frozen?_of_block (a := ⟨p.b, _, none⟩) (hsame _ this)⟩
 · have := hi.outLive p (List.mem_of_getElem? e2)
   exact ⟨World.cell?_of_block (a := ⟨p.b, _, none⟩) (hsame _ this), World.frozen?_of_block (a := ⟨p.b, _, none⟩) (hsame _ this)⟩
 · have : p.b < w.heap.size := by
     rcases List.mem_append.1 hp with hp | hp
     · exact hi.outLive p hp
     · exact hi.locLive p hp
   show ice p.b = 0
   rw [h1 _ this]; exact hi.iceBox p hp
 · have := hf.size
   rw [hsame b (by omega)]; exact hf.same b hb e1 e2
 · have := hf.size
   show ice b = _
   rw [h1 b (by omega)]; exact hf.ice b hb e1
end
end Go.Mach
