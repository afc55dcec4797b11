/- What the statements share: part 3 of a proof by an executable machine over the program's code. -/
import Derived.Test.YtljpfhpcbfpooaaGreatDoorMc2
import Derived.Great.BuildSlice
import Derived.Laws.MakeOwn
set_option linter.unusedVariables false
set_option linter.unusedSimpArgs false
namespace Go.Mach
open Go Go.RowKit
section
variable {P : Program} {E : Env} {F : Fx} {G : Gh} {s : S} {a : Act} {w : World} {o : Oper} {Q : Exit → Act → World → Prop} {rec : T → Option (X × S)} {r : X × S} {K : S → T}
def Ref.idx (F : Fx) : Ref → Nat
 | .out i => i
 | .loc i => F.out.length + i
theorem place_block {r0 : Ref} {p : Pl} (h : place F G r0 = some p) : (blocks F G)[r0.idx F]? = some p.b ∧ r0.idx F < (blocks F G).length := by
 have : (blocks F G)[r0.idx F]? = some p.b := by
  cases r0 with
  | out i =>
    simp only [place] at h
    have hi := (List.getElem?_eq_some_iff.1 h).1
    simp only [Ref.idx, blocks]
    rw [List.getElem?_append_left (by simpa using hi), List.getElem?_map, h]; rfl
  | loc i =>
    simp only [place] at h
    have hi := (List.getElem?_eq_some_iff.1 h).1
    simp only [Ref.idx, blocks]
    rw [List.getElem?_append_right (by simp), List.getElem?_append_left (by simpa using hi), List.getElem?_map]
    simp [h]
 exact ⟨this, (List.getElem?_eq_some_iff.1 this).1⟩
theorem tkb_block {i b : Nat} (h : G.tkb[i]? = some b) : (blocks F G)[F.out.length + (G.loc.length + i)]? = some b := by
 simp only [blocks]
 rw [List.getElem?_append_right (by simp), List.getElem?_append_right (by simp)]
 simpa using h
theorem place_inj (hn : (blocks F G).Nodup) {r1 r2 : Ref} {p1 p2 : Pl} (h1 : place F G r1 = some p1) (h2 : place F G r2 = some p2) (h : p1.b = p2.b) : r1 = r2 := by
 obtain ⟨a1, b1⟩ := place_block h1
 obtain ⟨a2, b2⟩ := place_block h2
 have e := (List.getElem?_inj b1 hn).1 (a1.trans (by rw [h, a2]))
 cases r1 with
 | out i =>
   cases r2 with
   | out j => simp only [Ref.idx] at e; rw [e]
   | loc j =>
     simp only [Ref.idx] at e
     simp only [place] at h1
     have := (List.getElem?_eq_some_iff.1 h1).1
     omega
 | loc i =>
   cases r2 with
   | out j =>
     simp only [Ref.idx] at e
     simp only [place] at h2
     have := (List.getElem?_eq_some_iff.1 h2).1
     omega
   | loc j => simp only [Ref.idx] at e; rw [show i = j by omega]
theorem place_tkb (hn : (blocks F G).Nodup) {r1 : Ref} {p1 : Pl} (h1 : place F G r1 = some p1) {i b : Nat} (h : G.tkb[i]? = some b) : p1.b ≠ b := by
 intro hb
 obtain ⟨a1, b1⟩ := place_block h1
 have e := (List.getElem?_inj b1 hn).1 (a1.trans (by rw [hb, tkb_block (F := F) h]))
 cases r1 with
 | out j =>
   simp only [Ref.idx] at e
   simp only [place] at h1
   have := (List.getElem?_eq_some_iff.1 h1).1
   omega
 | loc j =>
   simp only [Ref.idx] at e
   simp only [place] at h1
   have := (List.getElem?_eq_some_iff.1 h1).1
   omega
theorem place_mem {r0 : Ref} {p : Pl} (h : place F G r0 = some p) : p ∈ F.out ++ G.loc := by
 cases r0 with
 | out i => exact List.mem_append_left _ (List.mem_of_getElem? h)
 | loc i => exact List.mem_append_right _ (List.mem_of_getElem? h)
theorem heap_setCells (b : Nat) : ∀ (vs : List Value) (o : Nat) (w : World) (k : Nat), k ≠ b → (w.setCells b o vs).heap[k]? = w.heap[k]?
 | [], _, _, _, _ => rfl
 | v :: l, o, w, k, h => by rw [World.setCells, heap_setCells b l _ _ k h, Below.heap_setCell _ _ _ _ h]
theorem size_setCells (b : Nat) : ∀ (vs : List Value) (o : Nat) (w : World), (w.setCells b o vs).heap.size = w.heap.size
 | [], _, _ => rfl
 | v :: l, o, w => by rw [World.setCells, size_setCells b l]; simp [World.setCell]
theorem rest_setCells (b : Nat) : ∀ (vs : List Value) (o : Nat) (w : World), (w.setCells b o vs).os = w.os ∧ (w.setCells b o vs).tape = w.tape ∧ (w.setCells b o vs).output = w.output ∧ (w.setCells b o vs).drawn = w.drawn
 | [], _, _ => ⟨rfl, rfl, rfl, rfl⟩
 | v :: l, o, w => by rw [World.setCells]; exact rest_setCells b l _ _
theorem cell_setCells (b : Nat) (vs : List Value) (o : Nat) (w : World) (i : Nat) (hin : ∀ j, j < vs.length → (w.cell? ⟨b, o + j, none⟩).isSome = true) :
  (w.setCells b o vs).cell? ⟨b, i, none⟩ = if o ≤ i ∧ i < o + vs.length then vs[i - o]? else w.cell? ⟨b, i, none⟩ := by
 by_cases h : o ≤ i ∧ i < o + vs.length
 · rw [if_pos h]
   have := World.cell?_setCells_in b vs o w hin (i - o) (by omega)
   rw [show o + (i - o) = i by omega] at this
   rw [this, List.getElem?_eq_getElem (by omega)]
 · rw [if_neg h]
   exact World.cell?_setCells_out b vs o w ⟨b, i, none⟩ (fun _ _ => by simp only; omega)
theorem Sim.write (h : Sim F G s a w) {r0 : Ref} {p : Pl} (hp : place F G r0 = some p) {es es' : Box} (hb : s.box r0 = some es) (q : Nat) (vs : List Value)
  (hin : ∀ j, j < vs.length → (w.cell? ⟨p.b, q + j, none⟩).isSome = true) (hn : es'.length = p.n) (hl : ∀ e ∈ es', e.length = p.z) (ha : ∀ e ∈ es', ∀ c ∈ e, D.atom c = true)
  (hr : ∀ i j, i < es'.length → j < p.z → ∃ v, (w.setCells p.b q vs).cell? ⟨p.b, p.o + i * p.z + j, none⟩ = some v ∧ w.frozen? ⟨p.b, p.o + i * p.z + j, none⟩ = false ∧ Rep F G s.tk w ((es'.getD i []).getD j .junk) v) :
  Sim F G (s.setBox r0 es') a (w.setCells p.b q vs) := by
 have hi := h.inv
 have hice := hi.iceBox p (place_mem hp)
 have hx : ∀ G1 : Gh, G1.ice = G.ice → G1.tkb = G.tkb → Ext G1 s.tk w G1 s.tk (w.setCells p.b q vs) := fun G1 e1 e2 => by
  refine ⟨fun _ _ h => h, fun _ => Nat.le_refl _, fun b i hbi => ?_, fun b i _ hz => by rw [World.frozen?_setCells]; exact hz, fun i n hn => ⟨n, hn, Nat.le_refl _, fun _ b hb => ⟨hb, rfl, fun c e hc => ⟨c, ?_, rfl⟩⟩⟩⟩
  · have hne : b ≠ p.b := by intro e; rw [e1, e, hice] at hbi; omega
    exact World.cell?_of_block (a := ⟨b, i, none⟩) (heap_setCells _ _ _ _ _ hne)
  · rw [e2] at hb
    rw [heap_setCells _ _ _ _ _ (fun e => place_tkb hi.nd hp hb e.symm)]; exact hc
 have hxG := hx G rfl rfl
 have hz := (h.box hb hp).2.1
 have htk : (s.setBox r0 es').tk = s.tk := by cases r0 <;> rfl
 have hnew : BoxR F G s.tk (w.setCells p.b q vs) es' p := ⟨hn, hz, hl, ha, fun i j hi' hj => by
  obtain ⟨v, h1, h2, h3⟩ := hr i j hi' hj
  exact ⟨v, h1, by rw [World.frozen?_setCells]; exact h2, h3.ext hxG⟩⟩
 have hoth : ∀ r1 es1 p1, s.box r1 = some es1 → place F G r1 = some p1 → r1 ≠ r0 → BoxR F G s.tk (w.setCells p.b q vs) es1 p1 := fun r1 es1 p1 h1 h2 hne =>
  (h.box h1 h2).ext hxG fun i j _ _ => by
   have : p1.b ≠ p.b := fun e => hne (place_inj hi.nd h2 hp e)
   exact ⟨World.cell?_of_block (a := ⟨p1.b, _, none⟩) (heap_setCells _ _ _ _ _ this), World.frozen?_setCells _ _ _ _ _⟩
 have hlenL : (s.setBox r0 es').loc.length = s.loc.length := by cases r0 <;> simp [S.setBox]
 have hlenO : (s.setBox r0 es').out.length = s.out.length := by cases r0 <;> simp [S.setBox]
 refine ⟨?_, ?_, h.def0⟩
 · rw [htk]
   refine ⟨by rw [hlenL]; exact hi.locLen, by rw [hlenO]; exact hi.outLen, fun i es1 p1 h1 h2 => ?_, fun i es1 p1 h1 h2 => ?_, hi.nd, fun b hb => by rw [size_setCells]; exact hi.live b hb, hi.locNew, hi.tkLen, hi.tkNew, hi.tkOld, hi.iceBox, fun b hb => hi.iceBig b (by rw [size_setCells] at hb; exact hb), ?_⟩
   · cases r0 with
     | out k => exact hoth (.loc i) es1 p1 h1 h2 (by simp)
     | loc k =>
       simp only [S.setBox, List.getElem?_set] at h1
       split at h1
       · rename_i hk
         subst hk
         split at h1
         · injection h1 with h1
           subst h1
           have : p1 = p := by simpa [place, h2] using hp
           subst this; exact hnew
         · cases h1
       · rename_i hk
         exact hoth (.loc i) es1 p1 h1 h2 (by simp; omega)
   · cases r0 with
     | loc k => exact hoth (.out i) es1 p1 h1 h2 (by simp)
     | out k =>
       simp only [S.setBox, List.getElem?_set] at h1
       split at h1
       · rename_i hk
         subst hk
         split at h1
         · injection h1 with h1
           subst h1
           have : p1 = p := by simpa [place, h2] using hp
           subst this; exact hnew
         · cases h1
       · rename_i hk
         exact hoth (.out i) es1 p1 h1 h2 (by simp; omega)
   · have hf := hi.fr
     obtain ⟨e1, e2, e3, e4⟩ := rest_setCells p.b vs q w
     refine ⟨by rw [e1]; exact hf.os, by rw [e2]; exact hf.tape, by rw [e3, e4]; exact hf.output, by rw [size_setCells]; exact hf.size, fun b hb h1 h2 => ?_, hf.ext0.trans (hx ⟨[], G.tkb, G.ice⟩ rfl rfl), hf.ice⟩
     have hne : b ≠ p.b := by
      intro e
      cases r0 with
      | out k => exact h1 p (List.mem_of_getElem? hp) e.symm
      | loc k => have := hi.locNew p (List.mem_of_getElem? hp); omega
     rw [heap_setCells _ _ _ _ _ hne]; exact hf.same b hb h1 h2
 · rw [htk]
   have : (s.setBox r0 es').t = s.t := by cases r0 <;> rfl
   rw [this]
   exact h.tmp.ext hxG
theorem patch_length {cs new : List D} {off : Nat} (h : off + new.length ≤ cs.length) : (patch cs off new).length = cs.length := by
 simp [patch]; omega
theorem patch_getD {cs new : List D} {off : Nat} (h : off + new.length ≤ cs.length) (j : Nat) : (patch cs off new).getD j .junk = if off ≤ j ∧ j < off + new.length then new.getD (j - off) .junk else cs.getD j .junk := by
 simp only [patch, List.getD_eq_getElem?_getD, List.append_assoc]
 by_cases h1 : j < off
 · rw [List.getElem?_append_left (by simp; omega), List.getElem?_take, if_pos h1, if_neg (by omega)]
 · rw [List.getElem?_append_right (by simp; omega)]
   have e : (cs.take off).length = off := by simp; omega
   rw [e]
   by_cases h2 : j < off + new.length
   · rw [List.getElem?_append_left (by omega), if_pos (by omega)]
   · rw [List.getElem?_append_right (by omega), List.getElem?_drop, if_neg (by omega)]
     congr 2; omega
theorem patch_mem {cs new : List D} {off : Nat} {c : D} (h : c ∈ patch cs off new) : c ∈ cs ∨ c ∈ new := by
 simp only [patch, List.mem_append] at h
 rcases h with (h | h) | h
 · exact .inl (List.mem_of_mem_take h)
 · exact .inr h
 · exact .inl (List.mem_of_mem_drop h)
theorem store_run {t : TypeId} {i : TyI} (hi : TyOk P t i) (hk : i.k.known = true) {v : Value} (hv : v.cells.size = i.size) {b q : Nat}
  (hin : ∀ j, j < v.cells.size → (w.cell? ⟨b, q + j, none⟩).isSome = true ∧ w.frozen? ⟨b, q + j, none⟩ = false) (h1 : ∀ x ∈ v.cells.toList, x.oneCell' = true) :
  (Instr.storeAt t (.pointer (some ⟨b, q, none⟩)) v).run P w = .ok () (w.setCells b q v.cells.toList) := by
 obtain ⟨ie, zv, hinfo, hsize, _, _⟩ := hi.info (known_ne hk)
 have := run_storeCells_cells (P := P) b q v.cells.toList 0 w (fun j hj => by simpa using (hin j (by simpa using hj)).1) (fun j hj => by simpa using (hin j (by simpa using hj)).2) h1
 simp only [Nat.add_zero] at this
 simp [Instr.storeAt, Instr.sureAddr, storeVar, sizeOf, typeInfo, hinfo, hsize, hv, this]
theorem store_sound (hE : ∀ t, TyOk P t (E.ty t)) (hs : Sim F G s a w) {t : TypeId} {x y : Operand} (ho : o.op = .store t x y)
  (hT : runT E rec (opT E o s K) = some r) : o.wp P a w (After F G s w fun s' => runT E rec (K s') = some r) Q := by
 have hx := hs.ev x
 have hy := hs.ev y
 simp only [opT, ho] at hT
 revert hT
 generalize s.ev x = dx at hx
 generalize s.ev y = dy at hy
 intro hT
 split at hT
 · rename_i hc
   simp only [Bool.and_eq_true, decide_eq_true_eq, List.all_eq_true] at hc
   obtain ⟨hk, hlen, hat⟩ := hc
   obtain ⟨hsz, hcell⟩ := hy.cells hat
   have hone : ∀ v ∈ (a.eval y).cells.toList, v.oneCell' = true := fun v hv => by
    obtain ⟨j, hj, rfl⟩ := List.getElem_of_mem hv
    have hj' : j < (a.eval y).cells.size := by simpa using hj
    have := (hcell j (by omega)).2
    simpa [Array.getD, hj'] using this
   generalize hv : a.eval x = v at hx
   have key : ∀ (r0 : Ref) (p : Pl) (es : Box) (i off : Nat), place F G r0 = some p → s.box r0 = some es → i < es.length → off + dy.cells.length ≤ p.z → v = .pointer (some ⟨p.b, p.o + i * p.z + off, none⟩) →
     runT E rec (K ((s.setBox r0 (es.set i (patch (es.getD i []) off dy.cells))).put o.dst .junk)) = some r → o.wp P a w (After F G s w fun s' => runT E rec (K s') = some r) Q := by
    intro r0 p es i off hp hb hi hoff hvv hT
    obtain ⟨hn, hz, hl, ha, hh⟩ := hs.box hb hp
    have hil : (es.getD i []).length = p.z := hl _ (by rw [List.getD_eq_getElem?_getD, List.getElem?_eq_getElem hi]; exact List.getElem_mem hi)
    have hin : ∀ j, j < (a.eval y).cells.size → (w.cell? ⟨p.b, p.o + i * p.z + off + j, none⟩).isSome = true ∧ w.frozen? ⟨p.b, p.o + i * p.z + off + j, none⟩ = false := fun j hj => by
     obtain ⟨v, h1, h2, _⟩ := hh i (off + j) hi (by omega)
     rw [← Nat.add_assoc] at h1 h2
     exact ⟨by rw [h1]; rfl, h2⟩
    have hrun := store_run (P := P) (w := w) (hE t) hk (v := a.eval y) (by omega) hin hone
    have hw := hs.write hp hb (es' := es.set i (patch (es.getD i []) off dy.cells)) (p.o + i * p.z + off) (a.eval y).cells.toList (fun j hj => (hin j (by simpa using hj)).1) (by simpa using hn)
     (fun e he => by
      rcases List.mem_or_eq_of_mem_set he with he | he
      · exact hl e he
      · rw [he, patch_length (by omega)]; exact hil)
     (fun e he c hc => by
      rcases List.mem_or_eq_of_mem_set he with he | he
      · exact ha e he c hc
      · subst he
        rcases patch_mem hc with hc | hc
        · exact ha _ (by rw [List.getD_eq_getElem?_getD, List.getElem?_eq_getElem hi]; exact List.getElem_mem hi) c hc
        · exact hat c hc)
     (fun k j hk' hj => by
      simp only [List.length_set] at hk'
      obtain ⟨v0, h1, h2, h3⟩ := hh k j hk' hj
      rw [cell_setCells p.b _ _ _ _ (fun j hj => (hin j (by simpa using hj)).1)]
      by_cases hki : k = i
      · subst hki
        have hg : (es.set k (patch (es.getD k []) off dy.cells)).getD k [] = patch (es.getD k []) off dy.cells := by
         simp [List.getD_eq_getElem?_getD, hk']
        rw [hg, patch_getD (by omega)]
        by_cases hjj : off ≤ j ∧ j < off + dy.cells.length
        · rw [if_pos hjj, if_pos (by simp; omega)]
          refine ⟨(a.eval y).cells.getD (j - off) undef, ?_, h2, (hcell (j - off) (by omega)).1⟩
          have e1 : p.o + k * p.z + j - (p.o + k * p.z + off) = j - off := by omega
          have h5 : j - off < (a.eval y).cells.size := by omega
          rw [e1]
          simp [Array.getD, h5]
        · rw [if_neg hjj, if_neg (by simp; omega)]
          exact ⟨v0, h1, h2, h3⟩
      · have hg : (es.set i (patch (es.getD i []) off dy.cells)).getD k [] = es.getD k [] := by
          simp only [List.getD_eq_getElem?_getD]
          rw [List.getElem?_set_ne (by omega)]
        rw [hg, if_neg]
        · exact ⟨v0, h1, h2, h3⟩
        · intro hc
          simp only [Array.length_toList] at hc
          have hj' : j < p.z := hj
          rcases Nat.lt_or_gt_of_ne hki with h | h
          · have : (k + 1) * p.z ≤ i * p.z := Nat.mul_le_mul_right _ h
            rw [Nat.succ_mul] at this; omega
          · have : (i + 1) * p.z ≤ k * p.z := Nat.mul_le_mul_right _ h
            rw [Nat.succ_mul] at this; omega)
    refine wp_skip' (w' := w.setCells p.b (p.o + i * p.z + off) (a.eval y).cells.toList) ?_ ⟨G, _, hT, hw.put o.dst (.junk _)⟩
    simp [execOp, ho, hv, hvv, hrun]
   split at hT
   · rename_i r0 off
     split at hT
     · rename_i cs hb
       split at hT
       · rename_i hoff
         cases hx with
         | dat h _ => cases h
         | pbx _ _ b o' z n hp =>
           have hl := (hs.box hb hp).2.2.1 cs (by simp)
           have hl' : cs.length = z := hl
           exact key r0 _ [cs] 0 off hp hb (by simp) (by show _ ≤ z; omega) (by simp) (by simpa using hT)
       · simp [runT] at hT
     · simp [runT] at hT
   · rename_i r0 z j off
     split at hT
     · rename_i es hb
       split at hT
       · rename_i hoff
         obtain ⟨h0, cs, hcs, hT⟩ := fetch_inv hT
         cases hx with
         | dat h _ => cases h
         | pba _ _ _ _ b o' n hp hi =>
           have hjl := (List.getElem?_eq_some_iff.1 hcs).1
           have hget : es.getD j.toNat [] = cs := by rw [List.getD_eq_getElem?_getD, hcs]; rfl
           exact key r0 _ es j.toNat off hp hb hjl hoff rfl (by rw [hget]; exact hT)
       · simp [runT] at hT
     · simp [runT] at hT
   · simp [runT] at hT
 · simp [runT] at hT
end
section
variable {P : Program} {E : Env} {F : Fx} {G : Gh} {s : S} {a : Act} {w : World} {o : Oper} {Q : Exit → Act → World → Prop} {rec : T → Option (X × S)} {r : X × S} {K : S → T}
def laySet (off : Nat) (l : List (Value × Nat)) (c : Array Value) : Array Value := l.foldl (fun cs x => cs.setIfInBounds (off + x.2) x.1) c
theorem laySet_spec (off : Nat) : ∀ (l : List Value) (k : Nat) (c : Array Value), off + k + l.length ≤ c.size →
  (laySet off (l.zipIdx k) c).size = c.size ∧ ∀ j, (laySet off (l.zipIdx k) c).getD j undef = if off + k ≤ j ∧ j < off + k + l.length then l.getD (j - (off + k)) undef else c.getD j undef
 | [], k, c, h => ⟨rfl, fun j => by
  rw [if_neg (by simp only [List.length_nil]; omega)]; rfl⟩
 | v :: l, k, c, h => by
   simp only [List.length_cons] at h
   obtain ⟨h1, h2⟩ := laySet_spec off l (k + 1) (c.setIfInBounds (off + k) v) (by simp; omega)
   simp only [laySet, List.zipIdx_cons, List.foldl_cons] at h1 h2 ⊢
   refine ⟨by rw [h1]; simp, fun j => ?_⟩
   rw [h2 j]
   by_cases hj : off + (k + 1) ≤ j ∧ j < off + (k + 1) + l.length
   · rw [if_pos hj, if_pos (by simp only [List.length_cons]; omega)]
     rw [show j - (off + k) = (j - (off + (k + 1))) + 1 by omega]
     rfl
   · rw [if_neg hj, getD_setA]
     by_cases hk : off + k = j
     · subst hk
       rw [if_pos ⟨rfl, by omega⟩, if_pos (by simp only [List.length_cons]; omega)]
       simp
     · rw [if_neg (by omega), if_neg (by simp only [List.length_cons]; omega)]
theorem fill_step (off : Nat) (v : Value) (c : Array Value) : v.cells.zipIdx.foldl (fun cs (x : Value × Nat) => cs.setIfInBounds (off + x.2) x.1) c = laySet off (v.cells.toList.zipIdx 0) c := by
 unfold laySet
 rw [← Array.foldl_toList]
 congr 1
 simp
theorem plain_atom {d : D} (h : d.plain.cell = true) : d.atom = true := by
 cases d with
 | sl t z es => rfl
 | _ => first | rfl | simp [D.plain, D.cell] at h
theorem ro_atom {d : D} (h : d.ro.cell = true) : d.atom = true := by
 cases d with
 | sl t z es => rfl
 | _ => first | rfl | simp [D.ro, D.cell] at h
def PartR (G : Gh) (w : World) (new : List D) (v : Value) : Prop :=
 v.cells.size = new.length ∧ ∀ j, j < new.length → RD G.ice w (new.getD j .junk) (v.cells.getD j undef)
theorem Rep.part {tk d v} (h : Rep F G tk w d v) (g : D → D) (hj : g .junk = .junk) (hg : ∀ d v, RD G.ice w d v → RD G.ice w (g d) v) (ha : ∀ d, (g d).cell = true → d.atom = true)
  (hc : (d.cells.map g).all D.cell = true) : PartR G w (d.cells.map g) v := by
 have hat : ∀ c ∈ d.cells, D.atom c = true := fun c hc' => ha c (by rw [List.all_eq_true] at hc; exact hc _ (List.mem_map_of_mem hc'))
 obtain ⟨h1, h2⟩ := h.cells hat
 refine ⟨by simpa using h1, fun j hj' => ?_⟩
 simp only [List.length_map] at hj'
 rw [getD_map _ _ hj]
 exact hg _ _ ((h2 j hj').1.atom_inv (hat _ (mem_getD hj'))).1
theorem getD_toList (c : Array Value) (j : Nat) : c.toList.getD j undef = c.getD j undef := by
 simp [List.getD_eq_getElem?_getD, Array.getD_eq_getD_getElem?]
theorem fillD_rel (fs : List (Nat × Nat × Bool)) (pl : Nat → Option (Nat × Nat)) (hpl : ∀ n o z ag, fs[n]? = some (o, z, ag) → pl n = some (o, z)) :
  ∀ (pd : List (Nat × List D)) (pv : List (Nat × Value)) (cs cs' : List D) (c : Array Value), pd.length = pv.length →
   (∀ (k i : Nat) (new : List D) (j : Nat) (v : Value), pd[k]? = some (i, new) → pv[k]? = some (j, v) → i = j ∧ (new.all D.cell = true → PartR G w new v)) →
   c.size = cs.length → (∀ j, j < cs.length → RD G.ice w (cs.getD j .junk) (c.getD j undef)) → (∀ d ∈ cs, D.cell d = true) → opT.fillD fs cs pd = some cs' →
   ∃ c', Instr.fill pl c pv = some c' ∧ c'.size = cs'.length ∧ (∀ j, j < cs'.length → RD G.ice w (cs'.getD j .junk) (c'.getD j undef)) ∧ ∀ d ∈ cs', D.cell d = true
 | [], [], cs, cs', c, _, _, hs, hr, hc, h => by simp only [opT.fillD, Option.some.injEq] at h; subst h; exact ⟨c, rfl, hs, hr, hc⟩
 | (i, new) :: pd, (j, v) :: pv, cs, cs', c, hl, hp, hs, hr, hc, h => by
   obtain ⟨hij, hpart⟩ := hp 0 i new j v rfl rfl
   subst hij
   simp only [opT.fillD] at h
   split at h
   · rename_i o' sz ag hfs
     split at h
     · rename_i hcond
       obtain ⟨h1, h2, h3⟩ := hcond
       obtain ⟨hsz, hcell⟩ := hpart h3
       obtain ⟨l1, l2⟩ := laySet_spec o' v.cells.toList 0 c (by simp; omega)
       have ih := fillD_rel fs pl hpl pd pv (patch cs o' new) cs' (laySet o' (v.cells.toList.zipIdx 0) c) (by simpa using hl)
        (fun k i new j v hk1 hk2 => hp (k + 1) i new j v (by simpa using hk1) (by simpa using hk2)) (by rw [l1, patch_length (by omega)]; exact hs)
        (fun j hj => by
         rw [patch_length (by omega)] at hj
         rw [l2 j, patch_getD (by omega)]
         simp only [Array.length_toList, Nat.add_zero, hsz]
         by_cases hjj : o' ≤ j ∧ j < o' + new.length
         · rw [if_pos hjj, if_pos hjj, getD_toList]; exact hcell (j - o') (by omega)
         · rw [if_neg hjj, if_neg hjj]; exact hr j hj)
        (fun d hd => by
         rcases patch_mem hd with hd | hd
         · exact hc d hd
         · rw [List.all_eq_true] at h3; exact h3 d hd) h
       obtain ⟨c', e1, e2⟩ := ih
       refine ⟨c', ?_, e2⟩
       have hcond : ¬ ((decide (v.cells.size ≠ sz) || decide (o' + v.cells.size > c.size)) = true) := by
        simp only [Bool.or_eq_true, decide_eq_true_eq, not_or]; omega
       simp only [Instr.fill, hpl i o' sz ag hfs]
       rw [if_neg (by simpa using hcond), fill_step]
       exact e1
     · cases h
   · cases h
 | [], _ :: _, _, _, _, hl, _, _, _, _, _ => by simp at hl
 | _ :: _, [], _, _, _, hl, _, _, _, _, _ => by simp at hl
theorem mapM_places : ∀ (gs : List Field) (fs : List (Nat × Nat × Bool)), gs.length = fs.length →
  (∀ (n o z : Nat) (ag : Bool), fs[n]? = some (o, z, ag) → ∃ f : Field, gs[n]? = some f ∧ f.offset = o ∧ ∃ fi, P.info? f.type = some fi ∧ fi.size = z) →
  gs.mapM (fun f => (P.info? f.type).map fun i => (f.offset, i.size)) = some (fs.map fun x => (x.1, x.2.1))
 | [], [], _, _ => rfl
 | g :: gs, (o, z, ag) :: fs, hl, h => by
   obtain ⟨f, hf, ho, fi, hfi, hz⟩ := h 0 o z ag rfl
   simp only [List.getElem?_cons_zero, Option.some.injEq] at hf
   subst hf
   have ih := mapM_places gs fs (by simpa using hl) (fun n o z ag hn => by
    obtain ⟨f, hf, r⟩ := h (n + 1) o z ag (by simpa using hn)
    exact ⟨f, by simpa using hf, r⟩)
   simp [List.mapM_cons, hfi, ih, ho, hz]
 | [], _ :: _, hl, _ => by simp at hl
 | _ :: _, [], hl, _ => by simp at hl
theorem build_sound (hE : ∀ t, TyOk P t (E.ty t)) (hs : Sim F G s a w) {t : TypeId} {ps : Array (Nat × Operand)} (ho : o.op = .build t ps)
  (hT : runT E rec (opT E o s K) = some r) : o.wp P a w (After F G s w fun s' => runT E rec (K s') = some r) Q := by
 simp only [opT, ho] at hT
 split at hT
 · rename_i fs hk
   split at hT
   · rename_i cs hcs
     obtain ⟨gs, hu, hgl, hall⟩ := (hE t).st fs hk
     obtain ⟨ie, zv, hinfo, hsize, hzero, hsz, hzr⟩ := (hE t).info (by rw [hk]; simp)
     have hm := mapM_places (P := P) gs.toList fs (by simpa using hgl) (fun n o z ag hn => by
      obtain ⟨f, d, hf, hoff, _, _, fi, hfi, hfz⟩ := hall n o z ag hn
      exact ⟨f, by simpa using hf, hoff, fi, hfi, hfz⟩)
     obtain ⟨c', e1, e2, e3, e4⟩ := fillD_rel (G := G) (w := w) fs (fun n => (fs.map fun x => (x.1, x.2.1)).toArray[n]?) (fun n o z ag hn => by simp [hn]) _
      (ps.toList.map fun p => (p.1, a.eval p.2)) (E.ty t).zero cs zv.cells (by simp) (fun k i new j v h1 h2 => by
       simp only [List.getElem?_map, Option.map_eq_some_iff] at h1 h2
       obtain ⟨p, hp, e⟩ := h1
       obtain ⟨p', hp', e'⟩ := h2
       rw [hp] at hp'
       injection hp' with hp'
       subst hp'
       injection e with e1 e2
       injection e' with e1' e2'
       subst e1 e2 e1' e2'
       exact ⟨rfl, fun hc => (hs.ev p.2).part D.plain rfl (fun _ _ h => h.plainD) (fun _ h => plain_atom h) hc⟩)
      hsz (fun j hj => (hzr j hj).2 _ _) (fun d hd => by
       obtain ⟨i, hi, rfl⟩ := List.getElem_of_mem hd
       have := (hzr i hi).1
       rwa [List.getD_eq_getElem?_getD, List.getElem?_eq_getElem hi] at this) hcs
     have hbuilt : P.built t (ps.map fun (i, x) => (i, a.eval x)).toList = some c' := by
      unfold Program.built
      rw [hinfo, hu]
      simp only [hzero, hm]
      rw [Array.toList_map]
      exact e1
     refine wp_same hs (v := .agg c') ?_ (.dat (.agg cs c' e2 e4 e3) trivial) hT
     simp only [execOp, ho, Sem.run_bind, run_build w t _ c' hbuilt, Result.andThen_ok, Sem.run_pure]
   · simp [runT] at hT
 · simp [runT] at hT
theorem fillS_len {z : Nat} : ∀ {pd : List (Nat × List D)} {es es' : Box}, opT.fillS z es pd = some es' → es'.length = es.length
 | [], es, es', h => by simp only [opT.fillS, Option.some.injEq] at h; subst h; rfl
 | (i, new) :: pd, es, es', h => by
   simp only [opT.fillS] at h
   split at h
   · rw [fillS_len h]; simp
   · cases h
theorem fillS_rel (z : Nat) :
  ∀ (pd : List (Nat × List D)) (pv : List (Nat × Value)) (es es' : Box) (c : Array Value), pd.length = pv.length →
   (∀ (k i : Nat) (new : List D) (j : Nat) (v : Value), pd[k]? = some (i, new) → pv[k]? = some (j, v) → i = j ∧ (new.all D.cell = true → PartR G w new v)) →
   c.size = es.length * z → (∀ e ∈ es, e.length = z) → (∀ i j, i < es.length → j < z → RD G.ice w ((es.getD i []).getD j .junk) (c.getD (i * z + j) undef)) → (∀ e ∈ es, ∀ d ∈ e, D.cell d = true) → opT.fillS z es pd = some es' →
   ∃ c', Instr.fill (fun i => some (i * z, z)) c pv = some c' ∧ c'.size = es'.length * z ∧ (∀ e ∈ es', e.length = z) ∧ (∀ i j, i < es'.length → j < z → RD G.ice w ((es'.getD i []).getD j .junk) (c'.getD (i * z + j) undef)) ∧ ∀ e ∈ es', ∀ d ∈ e, D.cell d = true
 | [], [], es, es', c, _, _, hs, hl, hr, hc, h => by simp only [opT.fillS, Option.some.injEq] at h; subst h; exact ⟨c, rfl, hs, hl, hr, hc⟩
 | (i, new) :: pd, (j, v) :: pv, es, es', c, hle, hp, hs, hl, hr, hc, h => by
   obtain ⟨hij, hpart⟩ := hp 0 i new j v rfl rfl
   subst hij
   simp only [opT.fillS] at h
   split at h
   · rename_i hcond
     obtain ⟨h1, h2, h3⟩ := hcond
     obtain ⟨hsz, hcell⟩ := hpart h3
     have hm : (i + 1) * z ≤ es.length * z := Nat.mul_le_mul_right _ h2
     rw [Nat.succ_mul] at hm
     obtain ⟨l1, l2⟩ := laySet_spec (i * z) v.cells.toList 0 c (by simp; omega)
     have ih := fillS_rel z pd pv (es.set i new) es' (laySet (i * z) (v.cells.toList.zipIdx 0) c) (by simpa using hle)
      (fun k i new j v hk1 hk2 => hp (k + 1) i new j v (by simpa using hk1) (by simpa using hk2)) (by rw [l1]; simpa using hs)
      (fun e he => by
       rcases List.mem_or_eq_of_mem_set he with he | he
       · exact hl e he
       · rw [he]; exact h1)
      (fun k j hk hj => by
       simp only [List.length_set] at hk
       rw [l2]
       simp only [Array.length_toList, Nat.add_zero, hsz]
       by_cases hki : k = i
       · subst hki
         rw [if_pos (by omega), getD_toList]
         have hg : (es.set k new).getD k [] = new := by simp [List.getD_eq_getElem?_getD, hk]
         rw [hg, show k * z + j - k * z = j by omega]
         exact hcell j (by omega)
       · have hg : (es.set i new).getD k [] = es.getD k [] := by
           simp only [List.getD_eq_getElem?_getD]
           rw [List.getElem?_set_ne (by omega)]
         rw [hg, if_neg]
         · exact hr k j hk hj
         · intro hcc
           rcases Nat.lt_or_gt_of_ne hki with h | h
           · have : (k + 1) * z ≤ i * z := Nat.mul_le_mul_right _ h
             rw [Nat.succ_mul] at this; omega
           · have : (i + 1) * z ≤ k * z := Nat.mul_le_mul_right _ h
             rw [Nat.succ_mul] at this; omega)
      (fun e he d hd => by
       rcases List.mem_or_eq_of_mem_set he with he | he
       · exact hc e he d hd
       · subst he
         rw [List.all_eq_true] at h3; exact h3 d hd) h
     obtain ⟨c', e1, e2⟩ := ih
     refine ⟨c', ?_, e2⟩
     have hcond : ¬ ((decide (v.cells.size ≠ z) || decide (i * z + v.cells.size > c.size)) = true) := by
      simp only [Bool.or_eq_true, decide_eq_true_eq, not_or]; omega
     simp only [Instr.fill]
     rw [if_neg (by simpa using hcond), fill_step]
     exact e1
   · cases h
 | [], _ :: _, _, _, _, hl, _, _, _, _, _, _ => by simp at hl
 | _ :: _, [], _, _, _, hl, _, _, _, _, _, _ => by simp at hl
theorem run_buildSlice' (t e : TypeId) (len : Nat) (parts : Array (Nat × Value)) (cells : Array Value) (ie : TypeInfo) (z : Value)
  (hu : P.underlying t = some (.slice e)) (hie : P.info? e = some ie) (hz : ie.zero = some z) (hsmall : len * ie.size ≤ 2 ^ 20)
  (h : Instr.fill (fun i => some (i * ie.size, ie.size)) ((Array.range (len * ie.size)).map (z.cells[· % z.cells.size]!)) parts.toList = some cells) :
  (Instr.buildSlice t len parts).run P w = .ok (.slice (some ⟨w.heap.size, 0, none⟩) len len) (w.alloc (.cells cells e)) := by
 by_cases h0 : len * ie.size = 0
 · have hs : ¬ (len * ie.size > 2 ^ 24) := by omega
   rw [h0] at h
   have h' : Instr.fill (fun i => some (i * ie.size, ie.size)) #[] parts.toList = some cells := by simpa [Array.range_zero'] using h
   simp [Instr.buildSlice, run_underlying hu, sizeOf, typeInfo, zeroValue, hie, hz, h0, h', newRow, Array.range_zero']
 · exact run_buildSlice w t e len parts cells ie z hu hie hz (by omega) h0 h
theorem Sim.newData (h : Sim F G s a w) (tok : Tok) (z : Nat) (es : Box) (c : Array Value) (e : TypeId) (cap m : Nat) (ht : tok ≠ .nil) (hz : 0 < z) (hl : ∀ x ∈ es, x.length = z) (hc : ∀ x ∈ es, ∀ d ∈ x, D.cell d = true)
  (hsz : es.length * z ≤ c.size) (hm : es.length * z ≤ m) (hcap : es.length ≤ cap) (hr : ∀ i j, i < es.length → j < z → RD G.ice w ((es.getD i []).getD j .junk) (c.getD (i * z + j) undef)) :
  RD (G.ice1 w.heap.size m).ice (w.alloc (.cells c e)) (.sl tok z es) (.slice (some ⟨w.heap.size, 0, none⟩) es.length cap) := by
 have hx := ext_alloc (tk := s.tk) G (.cells c e) m h.inv.iceBig h.inv.tkLive
 have hlt : ∀ i j, i < es.length → j < z → i * z + j < c.size := fun i j hi hj => by
  have : (i + 1) * z ≤ es.length * z := Nat.mul_le_mul_right _ hi
  rw [Nat.succ_mul] at this
  omega
 refine .sl tok z es w.heap.size 0 cap (fun i j => c.getD (i * z + j) undef) ht hz hl hc hcap (fun _ => by simp [Gh.ice1]; exact hm) (fun i j hi hj => ?_) (fun i j hi hj => (hr i j hi hj).mono hx.ice hx.cell)
 rw [cell_alloc_new]
 simp only [Nat.zero_add]
 rw [Array.getElem?_eq_getElem (hlt i j hi hj)]
 simp [Array.getD, hlt i j hi hj]
theorem zeros_rel {zl : List D} {zv : Value} {z n : Nat} (hz : 0 < z) (hzr : ZeroR zl zv) (hzl : zl.length = z) :
  ((Array.range (n * z)).map (zv.cells[· % zv.cells.size]!)).size = n * z ∧ ∀ i j, i < n → j < z → ∀ σ w, RD σ w (((List.replicate n zl).getD i []).getD j .junk) (((Array.range (n * z)).map (zv.cells[· % zv.cells.size]!)).getD (i * z + j) undef) := by
 refine ⟨by simp, fun i j hi hj σ w => ?_⟩
 have hlt : i * z + j < n * z := by
  have : (i + 1) * z ≤ n * z := Nat.mul_le_mul_right _ hi
  rw [Nat.succ_mul] at this; omega
 have h1 : (List.replicate n zl).getD i [] = zl := by simp [List.getD_eq_getElem?_getD, hi]
 have hcs : zv.cells.size = z := by rw [hzr.1, hzl]
 have h2 : ((Array.range (n * z)).map (zv.cells[· % zv.cells.size]!)).getD (i * z + j) undef = zv.cells.getD j undef := by
  have hj2 : j < zv.cells.size := by omega
  have hmod : (i * z + j) % z = j := by rw [Nat.mul_comm, Nat.mul_add_mod]; exact Nat.mod_eq_of_lt hj
  simp [Array.getD, hlt, hcs, hmod, hj, getElem!_pos, hj2]
 rw [h1, h2]
 exact (hzr.2 j (by omega)).2 σ w
theorem ZeroR.cell {zl : List D} {zv : Value} (h : ZeroR zl zv) : ∀ d ∈ zl, D.cell d = true := fun d hd => by
 obtain ⟨i, hi, rfl⟩ := List.getElem_of_mem hd
 have := (h.2 i hi).1
 rwa [List.getD_eq_getElem?_getD, List.getElem?_eq_getElem hi] at this
theorem buildSlice_sound (hE : ∀ t, TyOk P t (E.ty t)) (hs : Sim F G s a w) {t : TypeId} {n : Nat} {ps : Array (Nat × Operand)} (ho : o.op = .buildSlice t n ps)
  (hT : runT E rec (opT E o s K) = some r) : o.wp P a w (After F G s w fun s' => runT E rec (K s') = some r) Q := by
 simp only [opT, ho] at hT
 split at hT
 · rename_i e z b hk
   split at hT
   · rename_i hcond
     simp only [Bool.and_eq_true, decide_eq_true_eq] at hcond
     obtain ⟨hke, hzl, hsm⟩ := hcond
     split at hT
     · rename_i es hes
       obtain ⟨hu, hz, ie, zv, hie, hsz, hby, hzv, hzs⟩ := (hE t).sl e z b hk
       obtain ⟨ie', zv', hie', hsize, hzero, hzr⟩ := (hE e).info (known_ne hke)
       have h1 : ie' = ie := by rw [hie] at hie'; injection hie' with h; exact h.symm
       subst h1
       have h2 : zv' = zv := by rw [hzv] at hzero; injection hzero with h; exact h.symm
       subst h2
       obtain ⟨z1, z2⟩ := zeros_rel (n := n) hz hzr hzl
       have hlen : es.length = n := by rw [fillS_len hes]; simp
       obtain ⟨c', e1, e2, e3, e4, e5⟩ := fillS_rel (G := G) (w := w) z _ (ps.toList.map fun p => (p.1, a.eval p.2)) (List.replicate n (E.ty e).zero) es ((Array.range (n * z)).map (zv'.cells[· % zv'.cells.size]!)) (by simp) (fun k i new j v h1 h2 => by
         simp only [List.getElem?_map, Option.map_eq_some_iff] at h1 h2
         obtain ⟨p, hp, e⟩ := h1
         obtain ⟨p', hp', e'⟩ := h2
         rw [hp] at hp'
         injection hp' with hp'
         subst hp'
         injection e with e1 e2
         injection e' with e1' e2'
         subst e1 e2 e1' e2'
         exact ⟨rfl, fun hc => (hs.ev p.2).part D.ro rfl (fun _ _ h => h.roD) (fun _ h => ro_atom h) hc⟩)
        (by simp) (fun x hx => by rw [List.eq_of_mem_replicate hx]; exact hzl) (fun i j hi hj => z2 i j (by simpa using hi) hj _ _) (fun x hx d hd => by rw [List.eq_of_mem_replicate hx] at hd; exact hzr.cell d hd) hes
       have hrun := run_buildSlice' (P := P) (w := w) t e n (ps.map fun (i, x) => (i, a.eval x)) c' ie' zv' hu hie hzv (by rw [hsz]; exact hsm) (by rw [hsz, Array.toList_map]; exact e1)
       have hd := hs.newData .cap z es c' e n (n * z) (by simp) hz e3 e5 (by omega) (by rw [hlen]; exact Nat.le_refl _) (by omega) e4
       refine wp_value (w' := w.alloc (.cells c' e)) ?_ ⟨_, _, hT, (hs.alloc (.cells c' e) (n * z)).put o.dst (.dat hd ⟨_, by rw [hlen]⟩)⟩
       simp only [execOp, ho, Sem.run_bind, hrun, Result.andThen_ok, Sem.run_pure, hlen]
     · simp [runT] at hT
   · simp [runT] at hT
 · simp [runT] at hT
theorem makeSlice_sound (hE : ∀ t, TyOk P t (E.ty t)) (hs : Sim F G s a w) {t : TypeId} {l c : Operand} (ho : o.op = .makeSlice t l c)
  (hT : runT E rec (opT E o s K) = some r) : o.wp P a w (After F G s w fun s' => runT E rec (K s') = some r) Q := by
 have hl := hs.ev l
 have hc := hs.ev c
 simp only [opT, ho] at hT
 revert hT
 generalize hkt : (E.ty t).k = kt
 generalize s.ev l = dl at hl
 generalize s.ev c = dc at hc
 intro hT
 split at hT
 · rename_i e z b n m
   split at hT
   · rename_i hcond
     simp only [Bool.and_eq_true, decide_eq_true_eq] at hcond
     obtain ⟨hke, hzl⟩ := hcond
     simp only [runT] at hT
     split at hT
     · rename_i hb
       simp only [Bool.and_eq_true, decide_eq_true_eq] at hb
       obtain ⟨h0, h1, h2, h3⟩ := hb
       subst h1
       obtain ⟨hu, hz, ie, zv, hie, hsz, hby, hzv, hzs⟩ := (hE t).sl e z b hkt
       obtain ⟨ie', zv', hie', hsize, hzero, hzr⟩ := (hE e).info (known_ne hke)
       have h4 : ie' = ie := by rw [hie] at hie'; injection hie' with h; exact h.symm
       subst h4
       have h5 : zv' = zv := by rw [hzv] at hzero; injection hzero with h; exact h.symm
       subst h5
       obtain ⟨z1, z2⟩ := zeros_rel (n := m.toNat) hz hzr hzl
       have hrun := run_make (P := P) w t e ie' zv' hu hie hzv .i64 .i64 m m h0 (Int.le_refl _) (by rw [hby]; rw [Int.mul_comm]; omega) (by omega)
       have hmc : madeCells zv'.cells (m.toNat * ie'.size) = (Array.range (m.toNat * z)).map (zv'.cells[· % zv'.cells.size]!) := by rw [hsz]; rfl
       rw [hmc] at hrun
       obtain ⟨G', h', hp⟩ := hs.newRow (List.replicate m.toNat (E.ty e).zero) z ((Array.range (m.toNat * z)).map (zv'.cells[· % zv'.cells.size]!)) e hz (fun x hx => by rw [List.eq_of_mem_replicate hx]; exact hzl)
        (fun x hx d hd => by rw [List.eq_of_mem_replicate hx] at hd; exact cell_atom (hzr.cell d hd)) (by simp) (fun i j hi hj => .dat (z2 i j (by simpa using hi) hj _ _) (.of_free (free_cell (by
         have : (List.replicate m.toNat (E.ty e).zero).getD i [] = (E.ty e).zero := by simp [List.getD_eq_getElem?_getD]; simp at hi; simp [hi]
         rw [this]; exact hzr.cell _ (mem_getD (by omega))))))
       refine wp_value (w' := _) ?_ ⟨G', _, hT, h'.put o.dst (.asl _ z m.toNat m.toNat _ 0 (by simpa using hp) (Nat.le_refl _))⟩
       simp only [execOp, ho, hl.int_inv, hc.int_inv, Sem.run_bind, hrun, Result.andThen_ok, Sem.run_pure]
     · cases hT
   · simp [runT] at hT
 · simp [runT] at hT
end
end Go.Mach
