/- What the statements share: part 4 of a proof by an executable machine over the program's code. -/
import Derived.Test.YtbkpkchegopmiaaGreatDoorMc3
set_option linter.unusedVariables false
set_option linter.unusedSimpArgs false
namespace Go.Mach
open Go Go.RowKit
section
variable {P : Program} {E : Env} {F : Fx} {G : Gh} {s : S} {a : Act} {w : World} {o : Oper} {Q : Exit → Act → World → Prop} {rec : T → Option (X × S)} {r : X × S} {K : S → T}
theorem tk_same {s : S} : ({ s with tk := s.tk } : S) = s := rfl
theorem Sim.grown (hs : Sim F G s a w) {e : TypeId} {z : Nat} {es new : Box} {olds news : List Value} {zc : Array Value} (hz : 0 < z) (hzc : zc.size = z) (hlo : olds.length = es.length * z) (hln : news.length = new.length * z)
  (ho : ∀ i j, i < es.length → j < z → RD G.ice w ((es.getD i []).getD j .junk) (olds.getD (i * z + j) undef)) (hn : ∀ i j, i < new.length → j < z → RD G.ice w ((new.getD i []).getD j .junk) (news.getD (i * z + j) undef))
  (hl : ∀ x ∈ es ++ new, x.length = z) (hc : ∀ x ∈ es ++ new, ∀ d ∈ x, D.cell d = true) (cap : Nat) (hcap : (es ++ new).length ≤ cap) (i : Nat) :
  let ar := olds.toArray ++ news.toArray ++ Builtin.zeroCells zc (cap - (es.length + new.length))
  let w1 := w.drew.alloc (.cells ar e)
  Sim F (G.ice1 w.heap.size ((es ++ new).length * z)) s a w1 ∧ RD (G.ice1 w.heap.size ((es ++ new).length * z)).ice w1 (.sl (.own i) z (es ++ new)) (.slice (some ⟨w.heap.size, 0, none⟩) (es ++ new).length cap) ∧
   (∀ k ∈ blocks F (G.ice1 w.heap.size ((es ++ new).length * z)), k ≠ w.heap.size) ∧ w.heap.size < w1.heap.size ∧ w1.heap[w.heap.size]? = some (.cells ar e (0, 0)) ∧ cap * z ≤ ar.size := by
 intro ar w1
 have hsz : ar.size = cap * z := by
  have h1 : (cap - (es.length + new.length)) * z = cap * z - (es.length + new.length) * z := Nat.sub_mul _ _ _
  have h2 : (es.length + new.length) * z = es.length * z + new.length * z := Nat.add_mul _ _ _
  have h3 : (es.length + new.length) * z ≤ cap * z := Nat.mul_le_mul_right _ (by simpa using hcap)
  simp only [ar, Array.size_append, List.size_toArray, size_zeroCells, hzc]
  omega
 have hd := hs.drew
 have hdat := hd.newData (.own i) z (es ++ new) ar e cap ((es ++ new).length * z) (by simp) hz hl hc (by rw [hsz]; exact Nat.mul_le_mul_right _ hcap) (Nat.le_refl _) hcap (fun i j hi hj => by
  have h0 := two_rows (w := w) hlo ho hn (Builtin.zeroCells zc (cap - (es.length + new.length))).toList hln i j hi hj
  have e1 : ar.getD (i * z + j) undef = (olds ++ (news ++ (Builtin.zeroCells zc (cap - (es.length + new.length))).toList)).getD (i * z + j) undef := by
   rw [← getD_toList]; simp [ar]
  rw [e1]
  exact RD.heap (w := w) (w' := w.drew) rfl h0)
 refine ⟨hd.alloc (.cells ar e) _, hdat, fun k hk => ?_, by rw [size_alloc]; exact Nat.lt_succ_self _, heap_alloc_new _ _, by omega⟩
 have := hs.inv.live k hk
 omega
theorem block_setCells (b : Nat) (e : TypeId) : ∀ (vs : List Value) (q : Nat) (w : World) (cs : Array Value), w.heap[b]? = some (.cells cs e (0, 0)) → ∃ c', (w.setCells b q vs).heap[b]? = some (.cells c' e (0, 0)) ∧ c'.size = cs.size
 | [], _, _, cs, h => ⟨cs, h, rfl⟩
 | v :: l, q, w, cs, h => by
   rw [World.setCells]
   have h1 : (w.setCell ⟨b, q, none⟩ v).heap[b]? = some (.cells (cs.setIfInBounds q v) e (0, 0)) := by
    simp [World.setCell, Array.getElem?_modify, h]
   obtain ⟨c', e1, e2⟩ := block_setCells b e l (q + 1) _ _ h1
   exact ⟨c', e1, by rw [e2]; simp⟩
theorem append_sound (hE : ∀ t, TyOk P t (E.ty t)) (hs : Sim F G s a w) {c : Call} (ho : o.op = .call c) (hc : c.callee = .builtin .append)
  (hT : runT E rec (opT E o s K) = some r) : o.wp P a w (After F G s w fun s' => runT E rec (K s') = some r) Q := by
 simp only [opT, ho, hc] at hT
 have harr : ∀ {α : Type} (x : Array α) (p q : α), x.toList = [p, q] → x = #[p, q] := fun x p q hx => by
  apply Array.toList_inj.1; simpa using hx
 split at hT
 · rename_i e z b e2 z2 b2 tok z' es tok2 z'' new h1 h2
   have hm : ∀ {α β : Type} (f : α → β) (l : List α) (p q : β), l.map f = [p, q] → ∃ x y, l = [x, y] ∧ f x = p ∧ f y = q := fun f l p q h => by
    match l, h with
    | [x, y], h => simp at h; exact ⟨x, y, rfl, h.1, h.2⟩
   obtain ⟨t, tx, htl, ht, htx⟩ := hm _ _ _ _ h1
   obtain ⟨x, y, hal, hx, hy⟩ := hm _ _ _ _ h2
   have htl' := harr _ _ _ htl
   have hal' := harr _ _ _ hal
   split at hT
   · rename_i hcond
     simp only [Bool.and_eq_true, Bool.or_eq_true, decide_eq_true_eq, List.isEmpty_iff] at hcond
     obtain ⟨hz1, hz2⟩ := hcond
     simp only [runT, Bool.and_eq_true, decide_eq_true_eq] at hT
     split at hT
     · rename_i hbound
       obtain ⟨hbound, hbound2⟩ := hbound
       split at hT
       · rename_i tok' tk' happ
         obtain ⟨hu, hz, ie, zv, hie, hsz, hby, hzv, hzs⟩ := (hE t).sl e z b ht
         have hu2 := ((hE tx).sl e2 z2 b2 htx).1
         have hrx := hs.ev x
         have hry := hs.ev y
         rw [hx] at hrx
         rw [hy] at hry
         obtain ⟨rx, tokx⟩ := hrx.sl_inv
         obtain ⟨ry, _⟩ := hry.sl_inv
         have hnil : tok = .nil → es = [] ∧ a.eval x = .slice none 0 0 := fun h => by
          subst h
          generalize a.eval x = v at rx
          cases rx with
          | slN => exact ⟨rfl, rfl⟩
          | sl _ _ _ _ _ _ _ ht => exact absurd rfl ht
         have hzx : z' = z ∨ es = [] := hz1.imp id (fun h => (hnil h).1)
         obtain ⟨adx, capx, olds, hvx, hcx, hlo, hfx, hax, hrdx, hlx, hcellx, hreadx⟩ := row_read rx hz hzx
         obtain ⟨ady, capy, news, hvy, hcy, hln, hfy, hay, hrdy, hly, hcelly, _⟩ := row_read ry hz (hz2.imp id id)
         have hl : ∀ q ∈ es ++ new, q.length = z := fun q hq => by
          rcases List.mem_append.1 hq with h | h
          · exact hlx q h
          · exact hly q h
         have hcl : ∀ q ∈ es ++ new, ∀ d ∈ q, D.cell d = true := fun q hq => by
          rcases List.mem_append.1 hq with h | h
          · exact hcellx q h
          · exact hcelly q h
         have hexec : ∀ v w', (Builtin.append_ #[t, tx] o.type #[.slice adx es.length capx, .slice ady new.length capy]).run P w = .ok v w' → (execOp a.eval o).run P w = .ok (.value v) w' := fun v w' h => by
          have hv1 : a.eval x = .slice adx es.length capx := hvx
          have hv2 : a.eval y = .slice ady new.length capy := hvy
          simp [execOp, ho, resolve, hc, invoke, builtin, htl', hal', hv1, hv2, h]
         rw [hvx] at hfx
         rw [hvy] at hfy
         have hb62 : es.length + new.length ≤ 2 ^ 62 := by omega
         have hzero : new.length = 0 → new = [] := fun h => List.length_eq_zero_iff.1 h
         have hsame : new.length = 0 → (Builtin.append_ #[t, tx] o.type #[.slice adx es.length capx, .slice ady new.length capy]).run P w = .ok (.slice adx (es.length + new.length) capx) w := fun h0 => by
          refine run_app_fit hu hu2 hie adx ady es.length capx new.length capy news (by rw [hsz]; exact hfy w rfl) (by omega) w (fun ad _ => ?_) (fun _ => rfl)
          have : news = [] := by rw [hzero h0] at hln; exact List.length_eq_zero_iff.1 (by simpa using hln)
          rw [this]; rfl
         have hgrow : capx < es.length + new.length → ∃ cap', (Builtin.append_ #[t, tx] o.type #[.slice adx es.length capx, .slice ady new.length capy]).run P w =
           .ok (.slice (some ⟨w.heap.size, 0, none⟩) (es.length + new.length) cap') (w.drew.alloc (.cells (olds.toArray ++ news.toArray ++ Builtin.zeroCells zv.cells (cap' - (es.length + new.length))) e)) ∧ (es ++ new).length ≤ cap' := fun hg => by
          refine ⟨_, run_app_grow hu hu2 hie hzv adx ady es.length capx new.length capy olds news (by rw [hsz]; exact hfy) (by rw [hsz]; exact hfx) hg hb62 (growslice_fits hg (by rw [hby]; omega)), ?_⟩
          rw [List.length_append]; exact grown_ge
         have hnewtok : capx < es.length + new.length → tok' = .own s.tk.length → tk' = s.tk ++ [es.length + new.length] → o.wp P a w (After F G s w fun s' => runT E rec (K s') = some r) Q := fun hg e1 e2 => by
          obtain ⟨cap', hrun, hcap'⟩ := hgrow hg
          obtain ⟨g1, g2, g3, g4, g5, g6⟩ := hs.grown (e := e) hz hzs hlo hln hrdx hrdy hl hcl cap' hcap' s.tk.length
          have g7 := g1.addTok w.heap.size (es.length + new.length) g3 g4 hs.inv.fr.size
          subst e1 e2
          refine wp_value (hexec _ _ hrun) ⟨_, _, hT, g7.put o.dst ?_⟩
          have hvv : Value.slice (some ⟨w.heap.size, 0, none⟩) (es ++ new).length cap' = .slice (some ⟨w.heap.size, 0, none⟩) (es.length + new.length) cap' := by rw [List.length_append]
          refine .dat (hvv ▸ g2) ⟨es.length + new.length, by simp, by simp, fun b o' l c h => ?_, fun _ => ⟨_, cap', by simp, .inr ⟨w.heap.size, 0, rfl, ?_, ?_, _, _, g5, by omega⟩⟩⟩
          · injection h with h _ _
            injection h with h
            injection h with hb ho _
            subst hb
            subst ho
            refine ⟨Nat.le_trans (F.low_le _) hs.inv.fr.size, fun j hj => ⟨?_, ?_⟩⟩
            · show 0 + j < (if w.heap.size = w.heap.size then (es ++ new).length * z else _)
              rw [if_pos rfl]; omega
            · show (match (w.drew.alloc _).heap[w.heap.size]? with | some (.cells _ _ (lo, hi)) => decide (lo ≤ 0 + j) && decide (0 + j < hi) | _ => false) = false
              rw [g5]; simp
          · simp [Gh.tok, Gh.ice1, hs.inv.tkLen]
          · simp [Gh.tok, Gh.ice1]
         unfold appTok at happ
         split at happ
         ·
          obtain ⟨hes, hev⟩ := hnil rfl
          split at happ
          · rename_i h0
            injection happ with happ
            injection happ with e1 e2
            subst e1 e2
            refine wp_value (hexec _ _ (hsame h0)) ⟨G, _, hT, hs.put o.dst ?_⟩
            have hv1 : Value.slice adx es.length capx = .slice none 0 0 := hvx.symm.trans hev
            injection hv1 with q1 q2 q3
            rw [hes, hzero h0, q1, q3]
            exact .dat (.slN _ _) trivial
          · rename_i h0
            injection happ with happ
            injection happ with e1 e2
            have hv1 : Value.slice adx es.length capx = .slice none 0 0 := hvx.symm.trans hev
            injection hv1 with q1 q2 q3
            exact hnewtok (by omega) e1.symm e2.symm
         ·
          obtain ⟨ad', hcp⟩ := tokx
          rw [hvx] at hcp
          injection hcp with q1 q2 q3
          split at happ
          · rename_i h0
            injection happ with happ
            injection happ with e1 e2
            subst e1 e2
            refine wp_value (hexec _ _ (hsame h0)) ⟨G, _, hT, hs.put o.dst ?_⟩
            have hzz : z' = z := hz1.resolve_right (by simp)
            rw [hzero h0, List.append_nil]
            simp only [List.length_nil, Nat.add_zero]
            rw [← hzz, ← hvx]
            exact hrx
          · rename_i h0
            injection happ with happ
            injection happ with e1 e2
            exact hnewtok (by omega) e1.symm e2.symm
         ·
          rename_i i0
          split at happ
          · rename_i hi0
            injection happ with happ
            injection happ with e1 e2
            subst e1 e2
            have hzz : z' = z := hz1.resolve_right (by simp)
            subst hzz
            obtain ⟨n0, hn0, hle, hfresh, halive⟩ := tokx
            have hn0' : n0 = es.length := by rw [hi0] at hn0; injection hn0 with h; exact h.symm
            obtain ⟨ad', cap', hv1, hsp⟩ := halive hn0'
            rw [hvx] at hv1
            injection hv1 with q1 q2 q3
            subst q1 q3
            by_cases hm0 : new.length = 0
            ·
             have htk : s.tk.set i0 (es.length + new.length) = s.tk := by
              rw [hm0, Nat.add_zero]
              obtain ⟨hlt, he⟩ := List.getElem?_eq_some_iff.1 hi0
              rw [← he]; exact List.set_getElem_self hlt
             rw [htk] at hT
             refine wp_value (hexec _ _ (hsame hm0)) ⟨G, _, hT, hs.put o.dst ?_⟩
             rw [hzero hm0, List.append_nil]
             simp only [List.length_nil, Nat.add_zero]
             rw [← hvx]
             exact hrx
            · by_cases hfit : es.length + new.length ≤ capx
              ·
               have hsp' := hsp.resolve_left (fun h => h)
               obtain ⟨b0, o0, hab, hb0, hice, cs, e0, hblk, hroom⟩ := hsp'
               subst hab
               have hle2 : (es.length + new.length) * z' ≤ capx * z' := Nat.mul_le_mul_right _ hfit
               rw [Nat.add_mul] at hle2
               have hin : ∀ j, j < news.length → (w.cell? ⟨b0, G.ice b0 + j, none⟩).isSome = true ∧ w.frozen? ⟨b0, G.ice b0 + j, none⟩ = false := fun j hj => by
                have h5 : G.ice b0 + j < cs.size := by omega
                unfold World.cell? World.frozen?
                rw [hblk]
                simp [h5]
               have hone : ∀ v ∈ news, v.oneCell' = true := fun v hv => by
                obtain ⟨k, hk, rfl⟩ := List.getElem_of_mem hv
                have hk2 : k / z' < new.length := (Nat.div_lt_iff_lt_mul hz).2 (by omega)
                have hk3 : k % z' < z' := Nat.mod_lt _ hz
                have h6 := hrdy (k / z') (k % z') hk2 hk3
                have h7 : k / z' * z' + k % z' = k := by rw [Nat.mul_comm]; exact Nat.div_add_mod k z'
                have h8 : news.getD k undef = news[k] := by simp [List.getD_eq_getElem?_getD, hk]
                rw [h7, h8] at h6
                refine h6.one (hcelly (new.getD (k / z') []) ?_ _ (mem_getD ?_))
                · rw [List.getD_eq_getElem?_getD, List.getElem?_eq_getElem hk2]; exact List.getElem_mem hk2
                · rw [hly _ (by rw [List.getD_eq_getElem?_getD, List.getElem?_eq_getElem hk2]; exact List.getElem_mem hk2)]; exact hk3
               have hst := run_storeCells_cells (P := P) b0 (G.ice b0) news 0 w (fun j hj => by simpa using (hin j hj).1) (fun j hj => by simpa using (hin j hj).2) hone
               simp only [Nat.add_zero] at hst
               have hrun := run_app_fit (P := P) (w := w) (ty := o.type) hu hu2 hie (some ⟨b0, o0, none⟩) ady es.length capx new.length capy news (by rw [hsz]; exact hfy w rfl) hfit (w.setCells b0 (G.ice b0) news)
                (fun ad h => by injection h with h; subst h; rw [Addr.add_mid, hsz, hice]; exact hst) (fun h => by cases h)
               obtain ⟨hx1, hs1⟩ := hs.growTok i0 b0 es.length (es.length + new.length) hi0 (Nat.lt_add_of_pos_right (Nat.pos_of_ne_zero hm0)) hb0 news (fun j hj => (hin j hj).1)
               refine wp_value (hexec _ _ hrun) ⟨_, _, hT, hs1.put o.dst ?_⟩
               have hlen : i0 < s.tk.length := (List.getElem?_eq_some_iff.1 hi0).1
               have hcells : ∀ k, k < (es ++ new).length * z' → (w.setCells b0 (G.ice b0) news).cell? ⟨b0, o0 + k, none⟩ = some ((olds ++ (news ++ [])).getD k undef) := fun k hk => by
                rw [List.length_append, Nat.add_mul] at hk
                rw [cell_setCells b0 news _ w _ (fun j hj => (hin j hj).1), getD_append, List.append_nil]
                by_cases hko : k < olds.length
                · rw [if_neg (by omega), if_pos hko]
                  exact hreadx b0 o0 rfl k (by omega)
                · rw [if_pos (by omega), if_neg hko]
                  rw [show o0 + k - G.ice b0 = k - olds.length by omega, List.getD_eq_getElem?_getD, List.getElem?_eq_getElem (by omega)]
                  rfl
               have hrd2 : RD (G.ice1 b0 (G.ice b0 + news.length)).ice (w.setCells b0 (G.ice b0) news) (.sl (.own i0) z' (es ++ new)) (.slice (some ⟨b0, o0, none⟩) (es ++ new).length capx) := by
                refine .sl _ z' (es ++ new) b0 o0 capx (fun i j => (olds ++ (news ++ [])).getD (i * z' + j) undef) (by simp) hz hl hcl (by rw [List.length_append]; exact hfit) (fun _ => ?_) (fun i j hi hj => ?_) (fun i j hi hj => ?_)
                · rw [List.length_append, Nat.add_mul]
                  simp only [Gh.ice1, if_true]
                  omega
                · have h9 : (i + 1) * z' ≤ (es ++ new).length * z' := Nat.mul_le_mul_right _ hi
                  rw [Nat.succ_mul] at h9
                  have := hcells (i * z' + j) (by omega)
                  rwa [← Nat.add_assoc] at this
                · exact (two_rows hlo hrdx hrdy [] hln i j hi hj).mono hx1.ice hx1.cell
               have hvv : Value.slice (some ⟨b0, o0, none⟩) (es ++ new).length capx = .slice (some ⟨b0, o0, none⟩) (es.length + new.length) capx := by rw [List.length_append]
               refine .dat (hvv ▸ hrd2) ⟨es.length + new.length, by simp [hlen], by simp, fun b1 o1 l c h1 => ?_, fun _ => ⟨_, capx, by simp, .inr ⟨b0, o0, rfl, hb0, ?_, ?_⟩⟩⟩
               · injection h1 with h1 _ _
                 injection h1 with h1
                 injection h1 with q1 q2 _
                 subst q1
                 subst q2
                 refine ⟨(hfresh b0 o0 _ _ hvx).1, fun j hj => ⟨?_, ?_⟩⟩
                 · rw [List.length_append, Nat.add_mul] at hj
                   simp only [Gh.ice1, if_true]
                   omega
                 · rw [World.frozen?_setCells]; simp [World.frozen?, hblk]
               · rw [List.length_append, Nat.add_mul]
                 simp only [Gh.ice1, if_true]
                 omega
               · obtain ⟨c', hc'⟩ : ∃ c' : Array Value, (w.setCells b0 (G.ice b0) news).heap[b0]? = some (.cells c' e0 (0, 0)) ∧ c'.size = cs.size := block_setCells b0 e0 news (G.ice b0) w cs hblk
                 exact ⟨c', e0, hc'.1, by omega⟩
              ·
               obtain ⟨cap', hrun, hcap'⟩ := hgrow (by omega)
               obtain ⟨g1, g2, g3, g4, g5, g6⟩ := hs.grown (e := e) hz hzs hlo hln hrdx hrdy hl hcl cap' hcap' i0
               have g7 := g1.setTok i0 w.heap.size es.length (es.length + new.length) hi0 (Nat.lt_add_of_pos_right (Nat.pos_of_ne_zero hm0)) g3 g4 hs.inv.fr.size
               have hlen : i0 < s.tk.length := (List.getElem?_eq_some_iff.1 hi0).1
               have hlen2 : i0 < G.tkb.length := by rw [hs.inv.tkLen]; exact hlen
               refine wp_value (hexec _ _ hrun) ⟨_, _, hT, g7.put o.dst ?_⟩
               have hvv : Value.slice (some ⟨w.heap.size, 0, none⟩) (es ++ new).length cap' = .slice (some ⟨w.heap.size, 0, none⟩) (es.length + new.length) cap' := by rw [List.length_append]
               refine .dat (hvv ▸ g2) ⟨es.length + new.length, by simp [hlen], by simp, fun b o' l c h => ?_, fun _ => ⟨_, cap', by simp, .inr ⟨w.heap.size, 0, rfl, ?_, ?_, _, _, g5, by omega⟩⟩⟩
               · injection h with h _ _
                 injection h with h
                 injection h with hb ho _
                 subst hb
                 subst ho
                 refine ⟨Nat.le_trans (F.low_le _) hs.inv.fr.size, fun j hj => ⟨?_, ?_⟩⟩
                 · show 0 + j < (if w.heap.size = w.heap.size then (es ++ new).length * z' else _)
                   rw [if_pos rfl]; omega
                 · show (match (w.drew.alloc _).heap[w.heap.size]? with | some (.cells _ _ (lo, hi)) => decide (lo ≤ 0 + j) && decide (0 + j < hi) | _ => false) = false
                   rw [g5]; simp
               · simp [Gh.tok, Gh.ice1, hlen2]
               · simp [Gh.tok, Gh.ice1]
          · cases happ
         · cases happ
         · cases happ
       · cases hT
     · cases hT
   · simp [runT] at hT
 · simp [runT] at hT
end
end Go.Mach
