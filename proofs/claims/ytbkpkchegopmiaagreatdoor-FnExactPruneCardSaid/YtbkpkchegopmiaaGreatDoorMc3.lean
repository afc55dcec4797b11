/- What the statements share: part 3 of a proof by an executable machine over the program's code. -/
import Derived.Test.YtbkpkchegopmiaaGreatDoorMc2
import Derived.Great.BuildSlice
import Derived.Laws.MakeOwn
set_option linter.unusedVariables false
set_option linter.unusedSimpArgs false
namespace Go.Mach
open Go Go.RowKit
section
variable {P : Program} {E : Env} {F : Fx} {G : Gh} {s : S} {a : Act} {w : World} {o : Oper} {Q : Exit → Act → World → Prop} {rec : T → Option (X × S)} {r : X × S} {K : S → T}
def laySet (off : Nat) (l : List (Value × Nat)) (c : Array Value) : Array Value := l.foldl (fun cs x => cs.setIfInBounds (off + x.2) x.1) c
theorem laySet_spec (off : Nat) : ∀ (l : List Value) (k : Nat) (c : Array Value), off + k + l.length ≤ c.size →
  (laySet off (l.zipIdx k) c).size = c.size ∧ ∀ j, (laySet off (l.zipIdx k) c).getD j undef = if off + k ≤ j ∧ j < off + k + l.length then l.getD (j - (off + k)) undef else c.getD j undef
 | [], k, c, h => ⟨rfl, fun j => by
  rw [if_neg (by simp only [List.length_nil]; omega)]; rfl⟩
 | v :: l, k, c, h => by
   simp only [List.length_cons] at h
   obtain ⟨h1, h2⟩ := laySet_spec off l (k + 1) (c.setIfInBounds (off + k) v) (by simp; omega)
   simp only [laySet, List.zipIdx_cons, List.foldl_cons] at h1 h2 ⊢
   refine ⟨by rw [h1]; simp, fun j => ?_⟩
   rw [h2 j]
   by_cases hj : off + (k + 1) ≤ j ∧ j < off + (k + 1) + l.length
   · rw [if_pos hj, if_pos (by simp only [List.length_cons]; omega)]
     rw [show j - (off + k) = (j - (off + (k + 1))) + 1 by omega]
     rfl
   · rw [if_neg hj, getD_setA]
     by_cases hk : off + k = j
     · subst hk
       rw [if_pos ⟨rfl, by omega⟩, if_pos (by simp only [List.length_cons]; omega)]
       simp
     · rw [if_neg (by omega), if_neg (by simp only [List.length_cons]; omega)]
theorem fill_step (off : Nat) (v : Value) (c : Array Value) : v.cells.zipIdx.foldl (fun cs (x : Value × Nat) => cs.setIfInBounds (off + x.2) x.1) c = laySet off (v.cells.toList.zipIdx 0) c := by
 unfold laySet
 rw [← Array.foldl_toList]
 congr 1
 simp
theorem plain_atom {d : D} (h : d.plain.cell = true) : d.atom = true := by
 cases d with
 | sl t z es => rfl
 | _ => first | rfl | simp [D.plain, D.cell] at h
theorem ro_atom {d : D} (h : d.ro.cell = true) : d.atom = true := by
 cases d with
 | sl t z es => rfl
 | _ => first | rfl | simp [D.ro, D.cell] at h
def PartR (G : Gh) (w : World) (new : List D) (v : Value) : Prop :=
 v.cells.size = new.length ∧ ∀ j, j < new.length → RD G.ice w (new.getD j .junk) (v.cells.getD j undef)
theorem Rep.part {tk d v} (h : Rep F G tk w d v) (g : D → D) (hj : g .junk = .junk) (hg : ∀ d v, RD G.ice w d v → RD G.ice w (g d) v) (ha : ∀ d, (g d).cell = true → d.atom = true)
  (hc : (d.cells.map g).all D.cell = true) : PartR G w (d.cells.map g) v := by
 have hat : ∀ c ∈ d.cells, D.atom c = true := fun c hc' => ha c (by rw [List.all_eq_true] at hc; exact hc _ (List.mem_map_of_mem hc'))
 obtain ⟨h1, h2⟩ := h.cells hat
 refine ⟨by simpa using h1, fun j hj' => ?_⟩
 simp only [List.length_map] at hj'
 rw [getD_map _ _ hj]
 exact hg _ _ ((h2 j hj').1.atom_inv (hat _ (mem_getD hj'))).1
theorem getD_toList (c : Array Value) (j : Nat) : c.toList.getD j undef = c.getD j undef := by
 simp [List.getD_eq_getElem?_getD, Array.getD_eq_getD_getElem?]
theorem fillD_rel (fs : List (Nat × Nat × Bool)) (pl : Nat → Option (Nat × Nat)) (hpl : ∀ n o z ag, fs[n]? = some (o, z, ag) → pl n = some (o, z)) :
  ∀ (pd : List (Nat × List D)) (pv : List (Nat × Value)) (cs cs' : List D) (c : Array Value), pd.length = pv.length →
   (∀ (k i : Nat) (new : List D) (j : Nat) (v : Value), pd[k]? = some (i, new) → pv[k]? = some (j, v) → i = j ∧ (new.all D.cell = true → PartR G w new v)) →
   c.size = cs.length → (∀ j, j < cs.length → RD G.ice w (cs.getD j .junk) (c.getD j undef)) → (∀ d ∈ cs, D.cell d = true) → opT.fillD fs cs pd = some cs' →
   ∃ c', Instr.fill pl c pv = some c' ∧ c'.size = cs'.length ∧ (∀ j, j < cs'.length → RD G.ice w (cs'.getD j .junk) (c'.getD j undef)) ∧ ∀ d ∈ cs', D.cell d = true
 | [], [], cs, cs', c, _, _, hs, hr, hc, h => by simp only [opT.fillD, Option.some.injEq] at h; subst h; exact ⟨c, rfl, hs, hr, hc⟩
 | (i, new) :: pd, (j, v) :: pv, cs, cs', c, hl, hp, hs, hr, hc, h => by
   obtain ⟨hij, hpart⟩ := hp 0 i new j v rfl rfl
   subst hij
   simp only [opT.fillD] at h
   split at h
   · rename_i o' sz ag hfs
     split at h
     · rename_i hcond
       obtain ⟨h1, h2, h3⟩ := hcond
       obtain ⟨hsz, hcell⟩ := hpart h3
       obtain ⟨l1, l2⟩ := laySet_spec o' v.cells.toList 0 c (by simp; omega)
       have ih := fillD_rel fs pl hpl pd pv (patch cs o' new) cs' (laySet o' (v.cells.toList.zipIdx 0) c) (by simpa using hl)
        (fun k i new j v hk1 hk2 => hp (k + 1) i new j v (by simpa using hk1) (by simpa using hk2)) (by rw [l1, patch_length (by omega)]; exact hs)
        (fun j hj => by
         rw [patch_length (by omega)] at hj
         rw [l2 j, patch_getD (by omega)]
         simp only [Array.length_toList, Nat.add_zero, hsz]
         by_cases hjj : o' ≤ j ∧ j < o' + new.length
         · rw [if_pos hjj, if_pos hjj, getD_toList]; exact hcell (j - o') (by omega)
         · rw [if_neg hjj, if_neg hjj]; exact hr j hj)
        (fun d hd => by
         rcases patch_mem hd with hd | hd
         · exact hc d hd
         · rw [List.all_eq_true] at h3; exact h3 d hd) h
       obtain ⟨c', e1, e2⟩ := ih
       refine ⟨c', ?_, e2⟩
       have hcond : ¬ ((decide (v.cells.size ≠ sz) || decide (o' + v.cells.size > c.size)) = true) := by
        simp only [Bool.or_eq_true, decide_eq_true_eq, not_or]; omega
       simp only [Instr.fill, hpl i o' sz ag hfs]
       rw [if_neg (by simpa using hcond), fill_step]
       exact e1
     · cases h
   · cases h
 | [], _ :: _, _, _, _, hl, _, _, _, _, _ => by simp at hl
 | _ :: _, [], _, _, _, hl, _, _, _, _, _ => by simp at hl
theorem mapM_places : ∀ (gs : List Field) (fs : List (Nat × Nat × Bool)), gs.length = fs.length →
  (∀ (n o z : Nat) (ag : Bool), fs[n]? = some (o, z, ag) → ∃ f : Field, gs[n]? = some f ∧ f.offset = o ∧ ∃ fi, P.info? f.type = some fi ∧ fi.size = z) →
  gs.mapM (fun f => (P.info? f.type).map fun i => (f.offset, i.size)) = some (fs.map fun x => (x.1, x.2.1))
 | [], [], _, _ => rfl
 | g :: gs, (o, z, ag) :: fs, hl, h => by
   obtain ⟨f, hf, ho, fi, hfi, hz⟩ := h 0 o z ag rfl
   simp only [List.getElem?_cons_zero, Option.some.injEq] at hf
   subst hf
   have ih := mapM_places gs fs (by simpa using hl) (fun n o z ag hn => by
    obtain ⟨f, hf, r⟩ := h (n + 1) o z ag (by simpa using hn)
    exact ⟨f, by simpa using hf, r⟩)
   simp [List.mapM_cons, hfi, ih, ho, hz]
 | [], _ :: _, hl, _ => by simp at hl
 | _ :: _, [], hl, _ => by simp at hl
theorem build_sound (hE : ∀ t, TyOk P t (E.ty t)) (hs : Sim F G s a w) {t : TypeId} {ps : Array (Nat × Operand)} (ho : o.op = .build t ps)
  (hT : runT E rec (opT E o s K) = some r) : o.wp P a w (After F G s w fun s' => runT E rec (K s') = some r) Q := by
 simp only [opT, ho] at hT
 split at hT
 · rename_i fs hk
   split at hT
   · rename_i cs hcs
     obtain ⟨gs, hu, hgl, hall⟩ := (hE t).st fs hk
     obtain ⟨ie, zv, hinfo, hsize, hzero, hsz, hzr⟩ := (hE t).info (by rw [hk]; simp)
     have hm := mapM_places (P := P) gs.toList fs (by simpa using hgl) (fun n o z ag hn => by
      obtain ⟨f, d, hf, hoff, _, _, fi, hfi, hfz⟩ := hall n o z ag hn
      exact ⟨f, by simpa using hf, hoff, fi, hfi, hfz⟩)
     obtain ⟨c', e1, e2, e3, e4⟩ := fillD_rel (G := G) (w := w) fs (fun n => (fs.map fun x => (x.1, x.2.1)).toArray[n]?) (fun n o z ag hn => by simp [hn]) _
      (ps.toList.map fun p => (p.1, a.eval p.2)) (E.ty t).zero cs zv.cells (by simp) (fun k i new j v h1 h2 => by
       simp only [List.getElem?_map, Option.map_eq_some_iff] at h1 h2
       obtain ⟨p, hp, e⟩ := h1
       obtain ⟨p', hp', e'⟩ := h2
       rw [hp] at hp'
       injection hp' with hp'
       subst hp'
       injection e with e1 e2
       injection e' with e1' e2'
       subst e1 e2 e1' e2'
       exact ⟨rfl, fun hc => (hs.ev p.2).part D.plain rfl (fun _ _ h => h.plainD) (fun _ h => plain_atom h) hc⟩)
      hsz (fun j hj => (hzr j hj).2 _ _) (fun d hd => by
       obtain ⟨i, hi, rfl⟩ := List.getElem_of_mem hd
       have := (hzr i hi).1
       rwa [List.getD_eq_getElem?_getD, List.getElem?_eq_getElem hi] at this) hcs
     have hbuilt : P.built t (ps.map fun (i, x) => (i, a.eval x)).toList = some c' := by
      unfold Program.built
      rw [hinfo, hu]
      simp only [hzero, hm]
      rw [Array.toList_map]
      exact e1
     refine wp_same hs (v := .agg c') ?_ (.dat (.agg cs c' e2 e4 e3) trivial) hT
     simp only [execOp, ho, Sem.run_bind, run_build w t _ c' hbuilt, Result.andThen_ok, Sem.run_pure]
   · simp [runT] at hT
 · simp [runT] at hT
theorem fillS_len {z : Nat} : ∀ {pd : List (Nat × List D)} {es es' : Box}, opT.fillS z es pd = some es' → es'.length = es.length
 | [], es, es', h => by simp only [opT.fillS, Option.some.injEq] at h; subst h; rfl
 | (i, new) :: pd, es, es', h => by
   simp only [opT.fillS] at h
   split at h
   · rw [fillS_len h]; simp
   · cases h
theorem fillS_rel (z : Nat) :
  ∀ (pd : List (Nat × List D)) (pv : List (Nat × Value)) (es es' : Box) (c : Array Value), pd.length = pv.length →
   (∀ (k i : Nat) (new : List D) (j : Nat) (v : Value), pd[k]? = some (i, new) → pv[k]? = some (j, v) → i = j ∧ (new.all D.cell = true → PartR G w new v)) →
   c.size = es.length * z → (∀ e ∈ es, e.length = z) → (∀ i j, i < es.length → j < z → RD G.ice w ((es.getD i []).getD j .junk) (c.getD (i * z + j) undef)) → (∀ e ∈ es, ∀ d ∈ e, D.cell d = true) → opT.fillS z es pd = some es' →
   ∃ c', Instr.fill (fun i => some (i * z, z)) c pv = some c' ∧ c'.size = es'.length * z ∧ (∀ e ∈ es', e.length = z) ∧ (∀ i j, i < es'.length → j < z → RD G.ice w ((es'.getD i []).getD j .junk) (c'.getD (i * z + j) undef)) ∧ ∀ e ∈ es', ∀ d ∈ e, D.cell d = true
 | [], [], es, es', c, _, _, hs, hl, hr, hc, h => by simp only [opT.fillS, Option.some.injEq] at h; subst h; exact ⟨c, rfl, hs, hl, hr, hc⟩
 | (i, new) :: pd, (j, v) :: pv, es, es', c, hle, hp, hs, hl, hr, hc, h => by
   obtain ⟨hij, hpart⟩ := hp 0 i new j v rfl rfl
   subst hij
   simp only [opT.fillS] at h
   split at h
   · rename_i hcond
     obtain ⟨h1, h2, h3⟩ := hcond
     obtain ⟨hsz, hcell⟩ := hpart h3
     have hm : (i + 1) * z ≤ es.length * z := Nat.mul_le_mul_right _ h2
     rw [Nat.succ_mul] at hm
     obtain ⟨l1, l2⟩ := laySet_spec (i * z) v.cells.toList 0 c (by simp; omega)
     have ih := fillS_rel z pd pv (es.set i new) es' (laySet (i * z) (v.cells.toList.zipIdx 0) c) (by simpa using hle)
      (fun k i new j v hk1 hk2 => hp (k + 1) i new j v (by simpa using hk1) (by simpa using hk2)) (by rw [l1]; simpa using hs)
      (fun e he => by
       rcases List.mem_or_eq_of_mem_set he with he | he
       · exact hl e he
       · rw [he]; exact h1)
      (fun k j hk hj => by
       simp only [List.length_set] at hk
       rw [l2]
       simp only [Array.length_toList, Nat.add_zero, hsz]
       by_cases hki : k = i
       · subst hki
         rw [if_pos (by omega), getD_toList]
         have hg : (es.set k new).getD k [] = new := by simp [List.getD_eq_getElem?_getD, hk]
         rw [hg, show k * z + j - k * z = j by omega]
         exact hcell j (by omega)
       · have hg : (es.set i new).getD k [] = es.getD k [] := by
           simp only [List.getD_eq_getElem?_getD]
           rw [List.getElem?_set_ne (by omega)]
         rw [hg, if_neg]
         · exact hr k j hk hj
         · intro hcc
           rcases Nat.lt_or_gt_of_ne hki with h | h
           · have : (k + 1) * z ≤ i * z := Nat.mul_le_mul_right _ h
             rw [Nat.succ_mul] at this; omega
           · have : (i + 1) * z ≤ k * z := Nat.mul_le_mul_right _ h
             rw [Nat.succ_mul] at this; omega)
      (fun e he d hd => by
       rcases List.mem_or_eq_of_mem_set he with he | he
       · exact hc e he d hd
       · subst he
         rw [List.all_eq_true] at h3; exact h3 d hd) h
     obtain ⟨c', e1, e2⟩ := ih
     refine ⟨c', ?_, e2⟩
     have hcond : ¬ ((decide (v.cells.size ≠ z) || decide (i * z + v.cells.size > c.size)) = true) := by
      simp only [Bool.or_eq_true, decide_eq_true_eq, not_or]; omega
     simp only [Instr.fill]
     rw [if_neg (by simpa using hcond), fill_step]
     exact e1
   · cases h
 | [], _ :: _, _, _, _, hl, _, _, _, _, _, _ => by simp at hl
 | _ :: _, [], _, _, _, hl, _, _, _, _, _, _ => by simp at hl
theorem run_buildSlice' (t e : TypeId) (len : Nat) (parts : Array (Nat × Value)) (cells : Array Value) (ie : TypeInfo) (z : Value)
  (hu : P.underlying t = some (.slice e)) (hie : P.info? e = some ie) (hz : ie.zero = some z) (hsmall : len * ie.size ≤ 2 ^ 20)
  (h : Instr.fill (fun i => some (i * ie.size, ie.size)) ((Array.range (len * ie.size)).map (z.cells[· % z.cells.size]!)) parts.toList = some cells) :
  (Instr.buildSlice t len parts).run P w = .ok (.slice (some ⟨w.heap.size, 0, none⟩) len len) (w.alloc (.cells cells e)) := by
 by_cases h0 : len * ie.size = 0
 · have hs : ¬ (len * ie.size > 2 ^ 24) := by omega
   rw [h0] at h
   have h' : Instr.fill (fun i => some (i * ie.size, ie.size)) #[] parts.toList = some cells := by simpa [Array.range_zero'] using h
   simp [Instr.buildSlice, run_underlying hu, sizeOf, typeInfo, zeroValue, hie, hz, h0, h', newRow, Array.range_zero']
 · exact run_buildSlice w t e len parts cells ie z hu hie hz (by omega) h0 h
theorem Sim.newData (h : Sim F G s a w) (tok : Tok) (z : Nat) (es : Box) (c : Array Value) (e : TypeId) (cap m : Nat) (ht : tok ≠ .nil) (hz : 0 < z) (hl : ∀ x ∈ es, x.length = z) (hc : ∀ x ∈ es, ∀ d ∈ x, D.cell d = true)
  (hsz : es.length * z ≤ c.size) (hm : es.length * z ≤ m) (hcap : es.length ≤ cap) (hr : ∀ i j, i < es.length → j < z → RD G.ice w ((es.getD i []).getD j .junk) (c.getD (i * z + j) undef)) :
  RD (G.ice1 w.heap.size m).ice (w.alloc (.cells c e)) (.sl tok z es) (.slice (some ⟨w.heap.size, 0, none⟩) es.length cap) := by
 have hx := ext_alloc (tk := s.tk) G (.cells c e) m h.inv.iceBig h.inv.tkLive
 have hlt : ∀ i j, i < es.length → j < z → i * z + j < c.size := fun i j hi hj => by
  have : (i + 1) * z ≤ es.length * z := Nat.mul_le_mul_right _ hi
  rw [Nat.succ_mul] at this
  omega
 refine .sl tok z es w.heap.size 0 cap (fun i j => c.getD (i * z + j) undef) ht hz hl hc hcap (fun _ => by simp [Gh.ice1]; exact hm) (fun i j hi hj => ?_) (fun i j hi hj => (hr i j hi hj).mono hx.ice hx.cell)
 rw [cell_alloc_new]
 simp only [Nat.zero_add]
 rw [Array.getElem?_eq_getElem (hlt i j hi hj)]
 simp [Array.getD, hlt i j hi hj]
theorem zeros_rel {zl : List D} {zv : Value} {z n : Nat} (hz : 0 < z) (hzr : ZeroR zl zv) (hzl : zl.length = z) :
  ((Array.range (n * z)).map (zv.cells[· % zv.cells.size]!)).size = n * z ∧ ∀ i j, i < n → j < z → ∀ σ w, RD σ w (((List.replicate n zl).getD i []).getD j .junk) (((Array.range (n * z)).map (zv.cells[· % zv.cells.size]!)).getD (i * z + j) undef) := by
 refine ⟨by simp, fun i j hi hj σ w => ?_⟩
 have hlt : i * z + j < n * z := by
  have : (i + 1) * z ≤ n * z := Nat.mul_le_mul_right _ hi
  rw [Nat.succ_mul] at this; omega
 have h1 : (List.replicate n zl).getD i [] = zl := by simp [List.getD_eq_getElem?_getD, hi]
 have hcs : zv.cells.size = z := by rw [hzr.1, hzl]
 have h2 : ((Array.range (n * z)).map (zv.cells[· % zv.cells.size]!)).getD (i * z + j) undef = zv.cells.getD j undef := by
  have hj2 : j < zv.cells.size := by omega
  have hmod : (i * z + j) % z = j := by rw [Nat.mul_comm, Nat.mul_add_mod]; exact Nat.mod_eq_of_lt hj
  simp [Array.getD, hlt, hcs, hmod, hj, getElem!_pos, hj2]
 rw [h1, h2]
 exact (hzr.2 j (by omega)).2 σ w
theorem ZeroR.cell {zl : List D} {zv : Value} (h : ZeroR zl zv) : ∀ d ∈ zl, D.cell d = true := fun d hd => by
 obtain ⟨i, hi, rfl⟩ := List.getElem_of_mem hd
 have := (h.2 i hi).1
 rwa [List.getD_eq_getElem?_getD, List.getElem?_eq_getElem hi] at this
theorem buildSlice_sound (hE : ∀ t, TyOk P t (E.ty t)) (hs : Sim F G s a w) {t : TypeId} {n : Nat} {ps : Array (Nat × Operand)} (ho : o.op = .buildSlice t n ps)
  (hT : runT E rec (opT E o s K) = some r) : o.wp P a w (After F G s w fun s' => runT E rec (K s') = some r) Q := by
 simp only [opT, ho] at hT
 split at hT
 · rename_i e z b hk
   split at hT
   · rename_i hcond
     simp only [Bool.and_eq_true, decide_eq_true_eq] at hcond
     obtain ⟨hke, hzl, hsm⟩ := hcond
     split at hT
     · rename_i es hes
       obtain ⟨hu, hz, ie, zv, hie, hsz, hby, hzv, hzs⟩ := (hE t).sl e z b hk
       obtain ⟨ie', zv', hie', hsize, hzero, hzr⟩ := (hE e).info (known_ne hke)
       have h1 : ie' = ie := by rw [hie] at hie'; injection hie' with h; exact h.symm
       subst h1
       have h2 : zv' = zv := by rw [hzv] at hzero; injection hzero with h; exact h.symm
       subst h2
       obtain ⟨z1, z2⟩ := zeros_rel (n := n) hz hzr hzl
       have hlen : es.length = n := by rw [fillS_len hes]; simp
       obtain ⟨c', e1, e2, e3, e4, e5⟩ := fillS_rel (G := G) (w := w) z _ (ps.toList.map fun p => (p.1, a.eval p.2)) (List.replicate n (E.ty e).zero) es ((Array.range (n * z)).map (zv'.cells[· % zv'.cells.size]!)) (by simp) (fun k i new j v h1 h2 => by
         simp only [List.getElem?_map, Option.map_eq_some_iff] at h1 h2
         obtain ⟨p, hp, e⟩ := h1
         obtain ⟨p', hp', e'⟩ := h2
         rw [hp] at hp'
         injection hp' with hp'
         subst hp'
         injection e with e1 e2
         injection e' with e1' e2'
         subst e1 e2 e1' e2'
         exact ⟨rfl, fun hc => (hs.ev p.2).part D.ro rfl (fun _ _ h => h.roD) (fun _ h => ro_atom h) hc⟩)
        (by simp) (fun x hx => by rw [List.eq_of_mem_replicate hx]; exact hzl) (fun i j hi hj => z2 i j (by simpa using hi) hj _ _) (fun x hx d hd => by rw [List.eq_of_mem_replicate hx] at hd; exact hzr.cell d hd) hes
       have hrun := run_buildSlice' (P := P) (w := w) t e n (ps.map fun (i, x) => (i, a.eval x)) c' ie' zv' hu hie hzv (by rw [hsz]; exact hsm) (by rw [hsz, Array.toList_map]; exact e1)
       have hd := hs.newData .cap z es c' e n (n * z) (by simp) hz e3 e5 (by omega) (by rw [hlen]; exact Nat.le_refl _) (by omega) e4
       refine wp_value (w' := w.alloc (.cells c' e)) ?_ ⟨_, _, hT, (hs.alloc (.cells c' e) (n * z)).put o.dst (.dat hd ⟨_, by rw [hlen]⟩)⟩
       simp only [execOp, ho, Sem.run_bind, hrun, Result.andThen_ok, Sem.run_pure, hlen]
     · simp [runT] at hT
   · simp [runT] at hT
 · simp [runT] at hT
theorem makeSlice_sound (hE : ∀ t, TyOk P t (E.ty t)) (hs : Sim F G s a w) {t : TypeId} {l c : Operand} (ho : o.op = .makeSlice t l c)
  (hT : runT E rec (opT E o s K) = some r) : o.wp P a w (After F G s w fun s' => runT E rec (K s') = some r) Q := by
 have hl := hs.ev l
 have hc := hs.ev c
 simp only [opT, ho] at hT
 revert hT
 generalize hkt : (E.ty t).k = kt
 generalize s.ev l = dl at hl
 generalize s.ev c = dc at hc
 intro hT
 split at hT
 · rename_i e z b n m
   split at hT
   · rename_i hcond
     simp only [Bool.and_eq_true, decide_eq_true_eq] at hcond
     obtain ⟨hke, hzl⟩ := hcond
     simp only [runT] at hT
     split at hT
     · rename_i hb
       simp only [Bool.and_eq_true, decide_eq_true_eq] at hb
       obtain ⟨h0, h1, h2, h3⟩ := hb
       subst h1
       obtain ⟨hu, hz, ie, zv, hie, hsz, hby, hzv, hzs⟩ := (hE t).sl e z b hkt
       obtain ⟨ie', zv', hie', hsize, hzero, hzr⟩ := (hE e).info (known_ne hke)
       have h4 : ie' = ie := by rw [hie] at hie'; injection hie' with h; exact h.symm
       subst h4
       have h5 : zv' = zv := by rw [hzv] at hzero; injection hzero with h; exact h.symm
       subst h5
       obtain ⟨z1, z2⟩ := zeros_rel (n := m.toNat) hz hzr hzl
       have hrun := run_make (P := P) w t e ie' zv' hu hie hzv .i64 .i64 m m h0 (Int.le_refl _) (by rw [hby]; rw [Int.mul_comm]; omega) (by omega)
       have hmc : madeCells zv'.cells (m.toNat * ie'.size) = (Array.range (m.toNat * z)).map (zv'.cells[· % zv'.cells.size]!) := by rw [hsz]; rfl
       rw [hmc] at hrun
       obtain ⟨G', h', hp⟩ := hs.newRow (List.replicate m.toNat (E.ty e).zero) z ((Array.range (m.toNat * z)).map (zv'.cells[· % zv'.cells.size]!)) e hz (fun x hx => by rw [List.eq_of_mem_replicate hx]; exact hzl)
        (fun x hx d hd => by rw [List.eq_of_mem_replicate hx] at hd; exact cell_atom (hzr.cell d hd)) (by simp) (fun i j hi hj => .dat (z2 i j (by simpa using hi) hj _ _) (.of_free (free_cell (by
         have : (List.replicate m.toNat (E.ty e).zero).getD i [] = (E.ty e).zero := by simp [List.getD_eq_getElem?_getD]; simp at hi; simp [hi]
         rw [this]; exact hzr.cell _ (mem_getD (by omega))))))
       refine wp_value (w' := _) ?_ ⟨G', _, hT, h'.put o.dst (.asl _ z m.toNat m.toNat _ 0 (by simpa using hp) (Nat.le_refl _))⟩
       simp only [execOp, ho, hl.int_inv, hc.int_inv, Sem.run_bind, hrun, Result.andThen_ok, Sem.run_pure]
     · cases hT
   · simp [runT] at hT
 · simp [runT] at hT
end
section
variable {P : Program} {E : Env} {F : Fx} {G : Gh} {s : S} {a : Act} {w : World} {o : Oper} {Q : Exit → Act → World → Prop} {rec : T → Option (X × S)} {r : X × S} {K : S → T}
theorem run_app_fit {t tx ty e e' : TypeId} {ie : TypeInfo} (ht : P.underlying t = some (.slice e)) (htx : P.underlying tx = some (.slice e')) (hi : P.info? e = some ie) (bad xad : Option Addr) (sLen sCap n xc : Nat) (news : List Value)
  (hx : (Builtin.firstCells ie.size n (.slice xad n xc)).run P w = .ok news.toArray w) (hfit : sLen + n ≤ sCap) (w' : World)
  (hst : ∀ ad, bad = some ad → (storeCells (ad.add (sLen * ie.size)) news).run P w = .ok () w') (hno : bad = none → w' = w) :
  (Builtin.append_ #[t, tx] ty #[.slice bad sLen sCap, .slice xad n xc]).run P w = .ok (.slice bad (sLen + n) sCap) w' := by
 cases bad with
 | none =>
   have := hno rfl
   subst this
   simp [Builtin.append_, run_underlying ht, run_underlying htx, sizeOf, typeInfo, hi, Builtin.lenOf, hfit, hx]
 | some ad =>
   have := hst ad rfl
   simp [Builtin.append_, run_underlying ht, run_underlying htx, sizeOf, typeInfo, hi, Builtin.lenOf, hfit, hx, this]
theorem run_app_grow {t tx ty e e' : TypeId} {ie : TypeInfo} {zv : Value} (ht : P.underlying t = some (.slice e)) (htx : P.underlying tx = some (.slice e')) (hi : P.info? e = some ie) (hz : ie.zero = some zv) (bad xad : Option Addr) (sLen sCap n xc : Nat) (olds news : List Value)
  (hx : ∀ w', w'.heap = w.heap → (Builtin.firstCells ie.size n (.slice xad n xc)).run P w' = .ok news.toArray w') (ho : ∀ w', w'.heap = w.heap → (Builtin.firstCells ie.size sLen (.slice bad sLen sCap)).run P w' = .ok olds.toArray w')
  (hg : sCap < sLen + n) (h63 : sLen + n ≤ 2 ^ 62) (hfit : Builtin.nextslicecap (sLen + n) sCap * ie.bytes ≤ 281474976710656) :
  (Builtin.append_ #[t, tx] ty #[.slice bad sLen sCap, .slice xad n xc]).run P w =
   .ok (.slice (some ⟨w.heap.size, 0, none⟩) (sLen + n) (grownCap w (sLen + n) sCap e)) (w.drew.alloc (.cells (olds.toArray ++ news.toArray ++ Builtin.zeroCells zv.cells (grownCap w (sLen + n) sCap e - (sLen + n))) e)) := by
 have hn : ¬ (sLen + n ≤ sCap) := by omega
 have h63' : ¬ (9223372036854775807 < ((sLen : Int) + (n : Int))) := by omega
 have h48' : ¬ (281474976710656 < Builtin.nextslicecap (sLen + n) sCap * ie.bytes) := by omega
 have hf := hx w.drew rfl
 have hfo := ho w.drew rfl
 simp [Builtin.append_, run_underlying ht, run_underlying htx, sizeOf, typeInfo, zeroValue, hi, hz, Builtin.lenOf, hn, h63', h48', Question.forced, hf, hfo, newRow, grownCap]
 congr 2
 apply Array.ext'
 simp [List.append_assoc]
theorem grown_ge {w : World} {need old : Nat} {e : TypeId} : need ≤ grownCap w need old e := by
 unfold grownCap Question.cut
 simp only
 omega
theorem row_read {σ : Nat → Nat} {t : Tok} {z z' : Nat} {es : Box} {v : Value} (hr : RD σ w (.sl t z' es) v) (hz : 0 < z) (hzz : z' = z ∨ es = []) : ∃ (ad : Option Addr) (cap : Nat) (news : List Value), v = .slice ad es.length cap ∧ es.length ≤ cap ∧ news.length = es.length * z ∧
  (∀ w' : World, w'.heap = w.heap → (Builtin.firstCells z es.length v).run P w' = .ok news.toArray w') ∧ (ad = none → cap = 0) ∧
  (∀ i j, i < es.length → j < z → RD σ w ((es.getD i []).getD j .junk) (news.getD (i * z + j) undef)) ∧ (∀ e ∈ es, e.length = z) ∧ (∀ e ∈ es, ∀ c ∈ e, D.cell c = true) ∧ (∀ b o : Nat, ad = some ⟨b, o, none⟩ → ∀ k, k < es.length * z → w.cell? ⟨b, o + k, none⟩ = some (news.getD k undef)) := by
 cases hr with
 | slN => exact ⟨none, 0, [], rfl, by simp, by simp, fun w' _ => run_firstCells_none w' _ _ _ _, fun _ => rfl, fun i j hi => by simp at hi, by simp, by simp, by simp⟩
 | sl _ _ _ b o cap f ht hz' hl hc hcap hs hw hh =>
   by_cases he : es = []
   · subst he
     refine ⟨_, cap, [], rfl, by simp, by simp, fun w' _ => ?_, by simp, fun i j hi => by simp at hi, by simp, by simp, by simp⟩
     exact run_firstCells_some w' z 0 _ _ _ [] (by simp) (by simp)
   · have hzz' : z' = z := hzz.resolve_right he
     subst hzz'
     have hidx : ∀ k, k < es.length * z' → k / z' < es.length ∧ k % z' < z' ∧ k / z' * z' + k % z' = k := fun k hk =>
      ⟨(Nat.div_lt_iff_lt_mul hz').2 hk, Nat.mod_lt _ hz', by rw [Nat.mul_comm]; exact Nat.div_add_mod k z'⟩
     refine ⟨_, cap, (List.range (es.length * z')).map (fun k => f (k / z') (k % z')), rfl, hcap, by simp, fun w' hh' => ?_, by simp, fun i j hi hj => ?_, hl, hc, fun b1 o1 hbo k hk => ?_⟩
     · refine run_firstCells_some w' z' es.length _ _ _ _ (by simp) (fun j v hv => ?_)
       rw [List.getElem?_map] at hv
       have hj : j < es.length * z' := by
        rcases Nat.lt_or_ge j (es.length * z') with h | h
        · exact h
        · rw [List.getElem?_eq_none (by simpa using h)] at hv; cases hv
       rw [List.getElem?_range hj] at hv
       injection hv with hv
       obtain ⟨h1, h2, h3⟩ := hidx j hj
       have hv' : f (j / z') (j % z') = v := hv
       have := hw _ _ h1 h2
       rw [Nat.add_assoc, h3, hv'] at this
       rw [Addr.add_mid]
       unfold World.cell? at this ⊢
       rw [hh']; exact this
     · have hlt : i * z' + j < es.length * z' := by
         have : (i + 1) * z' ≤ es.length * z' := Nat.mul_le_mul_right _ hi
         rw [Nat.succ_mul] at this; omega
       have e1 : (i * z' + j) / z' = i := by
        rw [Nat.mul_comm, Nat.mul_add_div hz', Nat.div_eq_of_lt hj]; omega
       have e2 : (i * z' + j) % z' = j := by
        rw [Nat.mul_comm, Nat.mul_add_mod]; exact Nat.mod_eq_of_lt hj
       have : ((List.range (es.length * z')).map (fun k => f (k / z') (k % z'))).getD (i * z' + j) undef = f i j := by
        simp [List.getD_eq_getElem?_getD, hlt, e1, e2]
       rw [this]
       exact hh i j hi hj
     · injection hbo with hbo
       injection hbo with q1 q2
       subst q1 q2
       obtain ⟨h1, h2, h3⟩ := hidx k hk
       have := hw _ _ h1 h2
       rw [Nat.add_assoc, h3] at this
       rw [this]
       simp [List.getD_eq_getElem?_getD, hk]
theorem drew_heap (w : World) : w.drew.heap = w.heap := rfl
theorem RD.heap {σ : Nat → Nat} {w w' : World} (h : w'.heap = w.heap) {d v} (hr : RD σ w d v) : RD σ w' d v :=
 hr.mono (fun _ => Nat.le_refl _) (fun b o _ => by unfold World.cell?; rw [h])
theorem ext_heap {tk} (G : Gh) {w w' : World} (h : w'.heap = w.heap) : Ext G tk w G tk w' :=
 ⟨fun _ _ h => h, fun _ => Nat.le_refl _, fun b o _ => by unfold World.cell?; rw [h], fun b o _ hz => by unfold World.frozen? at *; rw [h]; exact hz, fun i n hn => ⟨n, hn, Nat.le_refl _, fun _ b hb => ⟨hb, rfl, fun c e hc => ⟨c, by rw [h]; exact hc, rfl⟩⟩⟩⟩
theorem Sim.drew (hs : Sim F G s a w) : Sim F G s a w.drew := by
 have hx := fun G : Gh => ext_heap (tk := s.tk) G (drew_heap w)
 have hi := hs.inv
 have hf := hi.fr
 refine ⟨⟨hi.locLen, hi.outLen, fun i es p h1 h2 => (hi.boxL i es p h1 h2).ext (hx G) fun _ _ _ _ => ⟨rfl, rfl⟩, fun i es p h1 h2 => (hi.boxO i es p h1 h2).ext (hx G) fun _ _ _ _ => ⟨rfl, rfl⟩, hi.nd, hi.live, hi.locNew, hi.tkLen, hi.tkNew, hi.tkOld, hi.iceBox, hi.iceBig,
  ⟨hf.os, hf.tape, ⟨hf.output.1, Nat.le_succ_of_le hf.output.2⟩, hf.size, hf.same, hf.ext0.trans (hx _), hf.ice⟩⟩, hs.tmp.ext (hx G), hs.def0⟩
def Gh.tok (G : Gh) (l : List Nat) : Gh := { G with tkb := l }
theorem Sim.addTok (hs : Sim F G s a w) (b n : Nat) (hnew : ∀ k ∈ blocks F G, k ≠ b) (hlt : b < w.heap.size) (hbase : F.base ≤ b) : Sim F (G.tok (G.tkb ++ [b])) { s with tk := s.tk ++ [n] } a w := by
 have hi := hs.inv
 have hx : ∀ l, Ext ⟨l, G.tkb, G.ice⟩ s.tk w ⟨l, G.tkb ++ [b], G.ice⟩ (s.tk ++ [n]) w := fun l =>
  ⟨fun _ _ h => h, fun _ => Nat.le_refl _, fun _ _ _ => rfl, fun _ _ _ h => h, fun i m hm => ⟨m, by rw [List.getElem?_append_left (List.getElem?_eq_some_iff.1 hm).1]; exact hm, Nat.le_refl _, fun _ k hk =>
   ⟨by show (G.tkb ++ [b])[i]? = some k; rw [List.getElem?_append_left (List.getElem?_eq_some_iff.1 hk).1]; exact hk, rfl, fun c e hc => ⟨c, hc, rfl⟩⟩⟩⟩
 have hxG : Ext G s.tk w (G.tok (G.tkb ++ [b])) (s.tk ++ [n]) w := hx G.loc
 have hf := hi.fr
 refine ⟨⟨hi.locLen, hi.outLen, fun i es p h1 h2 => (hi.boxL i es p h1 h2).ext hxG fun _ _ _ _ => ⟨rfl, rfl⟩, fun i es p h1 h2 => (hi.boxO i es p h1 h2).ext hxG fun _ _ _ _ => ⟨rfl, rfl⟩, ?_, fun k hk => ?_, hi.locNew, ?_, fun i k h1 h2 => ?_, fun i k h1 h2 => ?_, hi.iceBox, hi.iceBig,
  ⟨hf.os, hf.tape, hf.output, hf.size, hf.same, hf.ext0.trans (hx []), hf.ice⟩⟩, hs.tmp.ext hxG, hs.def0⟩
 · have hnd := hi.nd
   have e : blocks F (G.tok (G.tkb ++ [b])) = blocks F G ++ [b] := by simp [blocks, Gh.tok]
   rw [e, List.nodup_append]
   exact ⟨hnd, by simp, fun x hxm y hy => by simp only [List.mem_singleton] at hy; subst hy; exact hnew x hxm⟩
 · have e : blocks F (G.tok (G.tkb ++ [b])) = blocks F G ++ [b] := by simp [blocks, Gh.tok]
   rw [e, List.mem_append, List.mem_singleton] at hk
   rcases hk with hk | hk
   · exact hi.live k hk
   · subst hk; exact hlt
 · simp [Gh.tok, hi.tkLen]
 · simp only [Gh.tok] at h2
   by_cases hlt' : i < G.tkb.length
   · rw [List.getElem?_append_left hlt'] at h2; exact hi.tkNew i k h1 h2
   · have := List.mem_of_getElem? h2
     rw [List.getElem?_append_right (by omega)] at h2
     have := List.mem_of_getElem? h2
     simp only [List.mem_singleton] at this
     subst this; exact hbase
 · simp only [Gh.tok] at h2
   by_cases hlt' : i < G.tkb.length
   · rw [List.getElem?_append_left hlt'] at h2; exact hi.tkOld i k h1 h2
   · rw [List.getElem?_append_right (by omega)] at h2
     have := List.mem_of_getElem? h2
     simp only [List.mem_singleton] at this
     subst this; exact .inr hbase
theorem Sim.setTok (hs : Sim F G s a w) (i0 b n m : Nat) (hi0 : s.tk[i0]? = some n) (hm : n < m) (hnew : ∀ k ∈ blocks F G, k ≠ b) (hlt : b < w.heap.size) (hbase : F.base ≤ b) : Sim F (G.tok (G.tkb.set i0 b)) { s with tk := s.tk.set i0 m } a w := by
 have hi := hs.inv
 have hlen : i0 < s.tk.length := (List.getElem?_eq_some_iff.1 hi0).1
 have hx : ∀ l, Ext ⟨l, G.tkb, G.ice⟩ s.tk w ⟨l, G.tkb.set i0 b, G.ice⟩ (s.tk.set i0 m) w := fun l =>
  ⟨fun _ _ h => h, fun _ => Nat.le_refl _, fun _ _ _ => rfl, fun _ _ _ h => h, fun i q hq => by
   by_cases he : i0 = i
   · subst he
     rw [hi0] at hq
     injection hq with hq
     subst hq
     exact ⟨m, by rw [List.getElem?_set]; simp [hlen], by omega, fun h => by omega⟩
   · refine ⟨q, by rw [List.getElem?_set_ne he]; exact hq, Nat.le_refl _, fun _ k hk => ⟨by show (G.tkb.set i0 b)[i]? = some k; rw [List.getElem?_set_ne he]; exact hk, rfl, fun c e hc => ⟨c, hc, rfl⟩⟩⟩⟩
 have hxG : Ext G s.tk w (G.tok (G.tkb.set i0 b)) (s.tk.set i0 m) w := hx G.loc
 have hf := hi.fr
 have hsub : ∀ k ∈ blocks F (G.tok (G.tkb.set i0 b)), k ∈ blocks F G ∨ k = b := fun k hk => by
  simp only [blocks, Gh.tok, List.mem_append] at hk ⊢
  rcases hk with hk | hk | hk
  · exact .inl (.inl hk)
  · exact .inl (.inr (.inl hk))
  · rcases List.mem_or_eq_of_mem_set hk with hk | hk
    · exact .inl (.inr (.inr hk))
    · exact .inr hk
 refine ⟨⟨hi.locLen, hi.outLen, fun i es p h1 h2 => (hi.boxL i es p h1 h2).ext hxG fun _ _ _ _ => ⟨rfl, rfl⟩, fun i es p h1 h2 => (hi.boxO i es p h1 h2).ext hxG fun _ _ _ _ => ⟨rfl, rfl⟩, ?_, fun k hk => ?_, hi.locNew, by simp [Gh.tok, hi.tkLen], fun i k h1 h2 => ?_, fun i k h1 h2 => ?_, hi.iceBox, hi.iceBig,
  ⟨hf.os, hf.tape, hf.output, hf.size, hf.same, hf.ext0.trans (hx []), hf.ice⟩⟩, hs.tmp.ext hxG, hs.def0⟩
 · have hnd := hi.nd
   have e : blocks F (G.tok (G.tkb.set i0 b)) = (blocks F G).set (F.out.length + (G.loc.length + i0)) b := by
    simp only [blocks, Gh.tok]
    rw [List.set_append_right _ _ (by simp), List.set_append_right _ _ (by simp)]
    simp
   rw [e]
   have hnd' := List.pairwise_iff_getElem.1 hnd
   refine List.pairwise_iff_getElem.2 (fun i j h1 h2 hij => ?_)
   simp only [List.length_set] at h1 h2
   rw [List.getElem_set, List.getElem_set]
   split
   · split
     · omega
     · exact fun e => hnew _ (List.getElem_mem h2) e.symm
   · split
     · exact hnew _ (List.getElem_mem h1)
     · exact hnd' i j h1 h2 hij
 · rcases hsub k hk with hk | hk
   · exact hi.live k hk
   · subst hk; exact hlt
 · simp only [Gh.tok, List.getElem?_set] at h2
   split at h2
   · split at h2
     · injection h2 with h2; subst h2; exact hbase
     · cases h2
   · exact hi.tkNew i k h1 h2
 · simp only [Gh.tok, List.getElem?_set] at h2
   split at h2
   · split at h2
     · injection h2 with h2; subst h2; exact .inr hbase
     · cases h2
   · exact hi.tkOld i k h1 h2
theorem tkb_inj (hn : (blocks F G).Nodup) {i j b : Nat} (h1 : G.tkb[i]? = some b) (h2 : G.tkb[j]? = some b) : i = j := by
 have e1 := tkb_block (F := F) h1
 have e2 := tkb_block (F := F) h2
 have := (List.getElem?_inj (List.getElem?_eq_some_iff.1 e1).1 hn).1 (e1.trans e2.symm)
 omega
theorem Sim.growTok (hs : Sim F G s a w) (i0 b n m : Nat) (hi0 : s.tk[i0]? = some n) (hm : n < m) (hb : G.tkb[i0]? = some b) (news : List Value)
  (hin : ∀ j, j < news.length → (w.cell? ⟨b, G.ice b + j, none⟩).isSome = true) :
  Ext G s.tk w (G.ice1 b (G.ice b + news.length)) (s.tk.set i0 m) (w.setCells b (G.ice b) news) ∧ Sim F (G.ice1 b (G.ice b + news.length)) { s with tk := s.tk.set i0 m } a (w.setCells b (G.ice b) news) := by
 have hi := hs.inv
 have hlen : i0 < s.tk.length := (List.getElem?_eq_some_iff.1 hi0).1
 have hbl : b < w.heap.size := hi.tkLive b (List.mem_of_getElem? hb)
 have hcell : ∀ k o', k ≠ b ∨ o' < G.ice b → (w.setCells b (G.ice b) news).cell? ⟨k, o', none⟩ = w.cell? ⟨k, o', none⟩ := fun k o' h => by
  by_cases hk : k = b
  · subst hk
    rw [cell_setCells k news _ w o' hin, if_neg]
    omega
  · exact World.cell?_of_block (a := ⟨k, o', none⟩) (heap_setCells _ _ _ _ _ hk)
 have hx : ∀ l, Ext ⟨l, G.tkb, G.ice⟩ s.tk w ⟨l, G.tkb, (G.ice1 b (G.ice b + news.length)).ice⟩ (s.tk.set i0 m) (w.setCells b (G.ice b) news) := fun l =>
  ⟨fun _ _ h => h, fun k => by simp only [Gh.ice1]; split <;> rename_i h <;> first | (subst h; omega) | exact Nat.le_refl _, fun k o' ho => hcell k o' (by
    by_cases hk : k = b
    · subst hk; exact .inr ho
    · exact .inl hk), fun k o' _ hz => by rw [World.frozen?_setCells]; exact hz, fun i q hq => by
   by_cases he : i0 = i
   · subst he
     rw [hi0] at hq
     injection hq with hq
     subst hq
     exact ⟨m, by rw [List.getElem?_set]; simp [hlen], by omega, fun h => by omega⟩
   · refine ⟨q, by rw [List.getElem?_set_ne he]; exact hq, Nat.le_refl _, fun _ k hk => ?_⟩
     have hkb : k ≠ b := fun e => he (tkb_inj hi.nd hb (by rw [← e]; exact hk))
     exact ⟨hk, by simp only [Gh.ice1]; rw [if_neg hkb], fun c e hc => ⟨c, by rw [heap_setCells _ _ _ _ _ hkb]; exact hc, rfl⟩⟩⟩
 have hxG : Ext G s.tk w (G.ice1 b (G.ice b + news.length)) (s.tk.set i0 m) (w.setCells b (G.ice b) news) := hx G.loc
 have hf := hi.fr
 have hold : b < F.base → b ∈ F.tkb0 := fun h => by
  rcases Nat.lt_or_ge i0 F.tk0.length with h0 | h0
  · rcases hi.tkOld i0 b h0 hb with h1 | h1
    · exact List.mem_of_getElem? h1
    · omega
  · have := hi.tkNew i0 b h0 hb; omega
 obtain ⟨e1, e2, e3, e4⟩ := rest_setCells b news (G.ice b) w
 refine ⟨hxG, ⟨hi.locLen, hi.outLen, fun i es p h1 h2 => (hi.boxL i es p h1 h2).ext hxG fun _ _ _ _ => ?_, fun i es p h1 h2 => (hi.boxO i es p h1 h2).ext hxG fun _ _ _ _ => ?_, hi.nd, fun k hk => by rw [size_setCells]; exact hi.live k hk, hi.locNew, by simp [Gh.ice1, hi.tkLen], hi.tkNew, hi.tkOld, fun p hp => ?_, fun k hk => ?_,
  ⟨by rw [e1]; exact hf.os, by rw [e2]; exact hf.tape, by rw [e3, e4]; exact hf.output, by rw [size_setCells]; exact hf.size, fun k hk h1 h2 => ?_, hf.ext0.trans (hx []), fun k hk h1 => ?_⟩⟩, hs.tmp.ext hxG, hs.def0⟩
 · have : p.b ≠ b := place_tkb hi.nd (r1 := .loc i) h2 hb
   exact ⟨hcell _ _ (.inl this), World.frozen?_setCells _ _ _ _ _⟩
 · have : p.b ≠ b := place_tkb hi.nd (r1 := .out i) h2 hb
   exact ⟨hcell _ _ (.inl this), World.frozen?_setCells _ _ _ _ _⟩
 · have : p.b ≠ b := by
     rcases List.mem_append.1 hp with hp | hp
     · obtain ⟨k, hk, rfl⟩ := List.getElem_of_mem hp
       exact place_tkb hi.nd (r1 := .out k) (List.getElem?_eq_getElem hk) hb
     · obtain ⟨k, hk, rfl⟩ := List.getElem_of_mem hp
       exact place_tkb hi.nd (r1 := .loc k) (List.getElem?_eq_getElem hk) hb
   simp only [Gh.ice1]; rw [if_neg this]; exact hi.iceBox p hp
 · rw [size_setCells] at hk
   simp only [Gh.ice1]; rw [if_neg (by omega)]; exact hi.iceBig k hk
 · rw [heap_setCells _ _ _ _ _ (fun e => h2 (by rw [e]; exact hold (by rw [← e]; exact hk)))]; exact hf.same k hk h1 h2
 · simp only [Gh.ice1]; rw [if_neg (fun e => h1 (by rw [e]; exact hold (by rw [← e]; exact hk)))]; exact hf.ice k hk h1
theorem getD_append (l m : List Value) (j : Nat) : (l ++ m).getD j undef = if j < l.length then l.getD j undef else m.getD (j - l.length) undef := by
 simp only [List.getD_eq_getElem?_getD]
 split
 · rw [List.getElem?_append_left (by assumption)]
 · rw [List.getElem?_append_right (by omega)]
theorem getD_appendB (l m : Box) (j : Nat) : (l ++ m).getD j [] = if j < l.length then l.getD j [] else m.getD (j - l.length) [] := by
 simp only [List.getD_eq_getElem?_getD]
 split
 · rw [List.getElem?_append_left (by assumption)]
 · rw [List.getElem?_append_right (by omega)]
theorem two_rows {σ : Nat → Nat} {z : Nat} {es new : Box} {olds news : List Value} (hlo : olds.length = es.length * z) (ho : ∀ i j, i < es.length → j < z → RD σ w ((es.getD i []).getD j .junk) (olds.getD (i * z + j) undef))
  (hn : ∀ i j, i < new.length → j < z → RD σ w ((new.getD i []).getD j .junk) (news.getD (i * z + j) undef)) (rest : List Value) (hln : news.length = new.length * z) :
  ∀ i j, i < (es ++ new).length → j < z → RD σ w (((es ++ new).getD i []).getD j .junk) ((olds ++ (news ++ rest)).getD (i * z + j) undef) := by
 intro i j hi hj
 rw [getD_appendB, getD_append]
 by_cases h : i < es.length
 · have : (i + 1) * z ≤ es.length * z := Nat.mul_le_mul_right _ h
   rw [Nat.succ_mul] at this
   rw [if_pos h, if_pos (by omega)]
   exact ho i j h hj
 · have h2 : i - es.length < new.length := by simp at hi; omega
   have h3 : es.length * z ≤ i * z := Nat.mul_le_mul_right _ (by omega)
   have h4 : (i - es.length + 1) * z ≤ new.length * z := Nat.mul_le_mul_right _ h2
   rw [Nat.succ_mul] at h4
   have h5 : i * z + j - olds.length = (i - es.length) * z + j := by
    rw [hlo]
    have : i * z = (i - es.length) * z + es.length * z := by rw [← Nat.add_mul]; congr 1; omega
    omega
   rw [if_neg h, if_neg (by omega), h5, getD_append, if_pos (by omega)]
   exact hn _ j h2 hj
end
end Go.Mach
