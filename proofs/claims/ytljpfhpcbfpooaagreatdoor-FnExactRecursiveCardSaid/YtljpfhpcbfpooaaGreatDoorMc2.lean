/- What the statements share: part 2 of a proof by an executable machine over the program's code. -/
import Derived.Test.YtljpfhpcbfpooaaGreatDoorMc1
set_option linter.unusedVariables false
set_option linter.unusedSimpArgs false
namespace Go.Mach
open Go Go.RowKit
section
variable {P : Program} {E : Env} {F : Fx} {G : Gh} {s : S} {a : Act} {w : World} {o : Oper} {Q : Exit → Act → World → Prop} {rec : T → Option (X × S)} {r : X × S} {K : S → T}
theorem idx_inv {tk d v j} (h : Rep F G tk w d v) (hj : idx d = some j) : ∃ k, v = .int k j := by
 cases d <;> simp only [idx, Option.some.injEq, reduceCtorEq] at hj
 subst hj
 exact ⟨_, h.int_inv⟩
theorem run_indexAt {t e : TypeId} {ie : TypeInfo} (hu : P.underlying t = some (.slice e)) (hi : P.info? e = some ie) (b p len cap : Nat) (k : IntKind) (j : Int) (h0 : 0 ≤ j) (h1 : j < len) :
  (Instr.indexAt t (.slice (some ⟨b, p, none⟩) len cap) (.int k j)).run P w = .ok (.pointer (some ⟨b, p + j.toNat * ie.size, none⟩)) w := by
 simp [Instr.indexAt, asIntOf, run_underlying hu, h0, h1, sizeOf, typeInfo, hi, Addr.add_mid]
theorem fetch_inv {es : Box} {j : Int} {k : List D → T} (h : runT E rec (.fetch es j k) = some r) : 0 ≤ j ∧ ∃ cs, es[j.toNat]? = some cs ∧ runT E rec (k cs) = some r := by
 simp only [runT] at h
 split at h
 · rename_i h0
   split at h
   · rename_i cs hcs; exact ⟨h0, cs, hcs, h⟩
   · cases h
 · cases h
theorem indexAddr_sound (hE : ∀ t, TyOk P t (E.ty t)) (hs : Sim F G s a w) {t : TypeId} {x i : Operand} (ho : o.op = .indexAddr t x i)
  (hT : runT E rec (opT E o s K) = some r) : o.wp P a w (After F G s w fun s' => runT E rec (K s') = some r) Q := by
 have hx := hs.ev x
 have hi := hs.ev i
 simp only [opT, ho] at hT
 revert hT
 generalize hkt : (E.ty t).k = kt
 generalize hj : idx (s.ev i) = ji
 generalize s.ev x = dx at hx
 intro hT
 split at hT
 · rename_i e z b tok z' es j
   obtain ⟨ik, hiv⟩ := idx_inv hi hj
   obtain ⟨hu, hz, ie, zv, hie, hsz, hby, hzv, hzs⟩ := (hE t).sl e z b hkt
   split at hT
   · rename_i hzz
     obtain ⟨h0, cs, hcs, hT⟩ := fetch_inv hT
     have hjl := (List.getElem?_eq_some_iff.1 hcs).1
     have hget : es.getD j.toNat [] = cs := by rw [List.getD_eq_getElem?_getD, hcs]; rfl
     obtain ⟨hr, _⟩ := hx.sl_inv
     generalize hv : a.eval x = v at hr
     cases hr with
     | slN => simp at hjl
     | sl _ _ _ bb p cap f ht hz' hl hc hcap hss hw hh =>
       have hmem : cs ∈ es := List.mem_of_getElem? hcs
       have hlen := hl cs hmem
       refine wp_same hs (v := .pointer (some ⟨bb, p + j.toNat * ie.size, none⟩)) ?_ ?_ hT
       · simp only [execOp, ho, hv, hiv, Sem.run_bind, run_indexAt hu hie bb p es.length cap ik j h0 (by omega), Result.andThen_ok, Sem.run_pure]
       · have hne : es ≠ [] := List.ne_nil_of_mem hmem
         have hb := hss hne
         have h3 : (j.toNat + 1) * z' ≤ es.length * z' := Nat.mul_le_mul_right _ hjl
         rw [Nat.succ_mul] at h3
         rw [hsz, ← hzz]
         have := Rep.pel (F := F) (G := G) (tk := s.tk) (w := w) cs 0 bb (p + j.toNat * z') (fun k => f j.toNat k) (by omega) (hc cs hmem) (fun k hk => hw j.toNat k hjl (by omega)) (fun k hk => by
          have := hh j.toNat k hjl (by omega)
          rwa [hget] at this)
         exact this
   · simp [runT] at hT
 · rename_i e z b r0 z' n j
   obtain ⟨ik, hiv⟩ := idx_inv hi hj
   obtain ⟨hu, hz, ie, zv, hie, hsz, hby, hzv, hzs⟩ := (hE t).sl e z b hkt
   split at hT
   · rename_i es hb
     split at hT
     · rename_i hzz
       obtain ⟨h0, cs, hcs, hT⟩ := fetch_inv hT
       have hjl := (List.getElem?_eq_some_iff.1 hcs).1
       generalize hv : a.eval x = v at hx
       cases hx with
       | dat h _ => cases h
       | asl _ _ _ cap bb p hp hcap =>
         have hnn : es.length = n := (hs.box hb hp).1
         refine wp_same hs (v := .pointer (some ⟨bb, p + j.toNat * ie.size, none⟩)) ?_ ?_ hT
         · simp only [execOp, ho, hv, hiv, Sem.run_bind, run_indexAt hu hie bb p n cap ik j h0 (by omega), Result.andThen_ok, Sem.run_pure]
         · rw [hsz, ← hzz]
           have := Rep.pba (F := F) (G := G) (tk := s.tk) (w := w) r0 z' j 0 bb p n hp h0
           exact this
     · simp [runT] at hT
   · simp [runT] at hT
 · simp [runT] at hT
theorem index_sound (hE : ∀ t, TyOk P t (E.ty t)) (hs : Sim F G s a w) {t : TypeId} {x i : Operand} (ho : o.op = .index t x i)
  (hT : runT E rec (opT E o s K) = some r) : o.wp P a w (After F G s w fun s' => runT E rec (K s') = some r) Q := by
 have hx := hs.ev x
 have hi := hs.ev i
 simp only [opT, ho] at hT
 revert hT
 generalize hkt : (E.ty t).k = kt
 generalize hj : idx (s.ev i) = ji
 generalize s.ev x = dx at hx
 intro hT
 split at hT
 · rename_i b j
   obtain ⟨ik, hiv⟩ := idx_inv hi hj
   have hu := (hE t).str hkt
   have ex := hx.str_inv
   simp only [runT] at hT
   split at hT
   · rename_i hb
     simp only [Bool.and_eq_true, decide_eq_true_eq] at hb
     obtain ⟨h0, h1⟩ := hb
     refine wp_same hs ?_ .int hT
     have h2 : b[j.toNat]? = some (b.get! j.toNat) := by
      have h3 : j.toNat < b.size := by omega
      rw [getElem?_pos b j.toNat h3]
      congr 1
      show b.data[j.toNat] = _
      simp [ByteArray.get!, h3]
     simp [execOp, ho, ex, hiv, Instr.index, asIntOf, run_underlying hu, h0, h2]
   · cases hT
 · simp [runT] at hT
theorem run_sliceBound {k : IntKind} {j : Int} {y : Nat} {c : BoundsCode} (h0 : 0 ≤ j) (h1 : j ≤ y) : (Instr.sliceBound (.int k j) y c).run P w = .ok j.toNat w := by
 simp [Instr.sliceBound, asIntOf, h0, h1]
theorem run_slice {t e : TypeId} {ie : TypeInfo} (hu : P.underlying t = some (.slice e)) (hi : P.info? e = some ie) (b p len cap : Nat) (hcap : len ≤ cap) (lo hi' mx : Option Value) (l h m : Nat)
  (hl : lo = none ∧ l = 0 ∨ ∃ k, lo = some (.int k (l : Int))) (hh : hi' = none ∧ h = len ∧ mx = none ∨ ∃ k, hi' = some (.int k (h : Int))) (hm : mx = none ∧ m = cap ∨ ∃ k, mx = some (.int k (m : Int)))
  (h1 : l ≤ h) (h2 : h ≤ m) (h3 : m ≤ cap) (a : Option Addr) :
  (Instr.slice t (.slice a len cap) lo hi' mx).run P w = .ok (.slice (if m = l then a else a.map (·.add (l * ie.size))) (h - l) (m - l)) w := by
 have hb : (Instr.sliceBounds true len cap lo hi' mx).run P w = .ok (l, h, m) w := by
  unfold Instr.sliceBounds
  rcases hm with ⟨rfl, rfl⟩ | ⟨km, rfl⟩ <;> rcases hh with ⟨rfl, rfl, hmx⟩ | ⟨kh, rfl⟩ <;> rcases hl with ⟨rfl, rfl⟩ | ⟨kl, rfl⟩ <;>
   first
    | cases hmx
    | (simp [Instr.sliceBound, asIntOf]; try omega)
    | skip
  all_goals (try (simp [Instr.sliceBound, asIntOf, *]))
  all_goals (try (constructor <;> intros <;> omega))
 simp only [Instr.slice, Sem.run_bind, run_underlying hu, Result.andThen_ok, hb, sizeOf, typeInfo, run_program, hi, Sem.run_pure]
theorem RD.sub {σ : Nat → Nat} {tok tok' : Tok} {z : Nat} {es : Box} {v : Value} {ad : Option Addr} {len cap l h m : Nat} (ht : tok' ≠ .nil) (hr : RD σ w (.sl tok z es) (.slice ad len cap)) (h1 : l ≤ h) (h2 : h ≤ es.length) (h3 : h ≤ m) (h4 : m ≤ cap) :
  RD σ w (.sl tok' z ((es.take h).drop l)) (.slice (if m = l then ad else ad.map (·.add (l * z))) (h - l) (m - l)) := by
 cases hr with
 | slN =>
   have : m = 0 := by omega
   have : l = 0 := by simp at h2; omega
   have : h = 0 := by simp at h2; omega
   subst_vars
   simp
   exact .slN _ _
 | sl _ _ _ b o _ f ht' hz hl hc hcap hs hw hh =>
   have hlen : ((es.take h).drop l).length = h - l := by simp; omega
   have hsub : ∀ i, i < h - l → ((es.take h).drop l).getD i [] = es.getD (l + i) [] := fun i hi => by
    simp only [List.getD_eq_getElem?_getD, List.getElem?_drop, List.getElem?_take]
    rw [if_pos (by omega)]
   have hmem : ∀ e ∈ (es.take h).drop l, e ∈ es := fun e he => List.mem_of_mem_take (List.mem_of_mem_drop he)
   by_cases hml : m = l
   · rw [if_pos hml]
     have h0 : h - l = 0 := by omega
     have hnil : (es.take h).drop l = [] := List.length_eq_zero_iff.1 (by omega)
     have := RD.sl (σ := σ) (w := w) tok' z ((es.take h).drop l) b o (m - l) f ht hz (by rw [hnil]; simp) (by rw [hnil]; simp) (by omega) (fun hne => absurd hnil hne) (by rw [hnil]; simp) (by rw [hnil]; simp)
     rw [hlen] at this
     exact this
   · rw [if_neg hml]
     have e : (some (⟨b, o, none⟩ : Addr)).map (·.add (l * z)) = some ⟨b, o + l * z, none⟩ := by simp [Addr.add_mid]
     rw [e]
     have hadd : ∀ i, (l + i) * z = l * z + i * z := fun i => Nat.add_mul _ _ _
     have := RD.sl (σ := σ) (w := w) tok' z ((es.take h).drop l) b (o + l * z) (m - l) (fun i j => f (l + i) j) ht hz (fun e he => hl e (hmem e he)) (fun e he => hc e (hmem e he)) (by omega)
      (fun hne => by
       have hne' : es ≠ [] := by intro h; subst h; simp at hne
       have := hs hne'
       rw [hlen]
       have h5 : l * z + (h - l) * z ≤ es.length * z := by rw [← Nat.add_mul]; exact Nat.mul_le_mul_right _ (by omega)
       omega)
      (fun i j hi hj => by
       rw [hlen] at hi
       have := hw (l + i) j (by omega) hj
       rw [hadd] at this
       rw [← this, show o + l * z + i * z + j = o + (l * z + i * z) + j by omega])
      (fun i j hi hj => by
       rw [hlen] at hi
       rw [hsub i hi]
       exact hh (l + i) j (by omega) hj)
     rw [hlen] at this
     exact this
theorem optI_inv (hs : Sim F G s a w) {d j : Int} {x : Option Operand} (h : optI s d x = some j) : (x = none ∧ j = d) ∨ ∃ y k, x = some y ∧ a.eval y = .int k j := by
 cases x with
 | none => left; exact ⟨rfl, by simpa [optI] using h.symm⟩
 | some y => right; obtain ⟨k, hk⟩ := idx_inv (hs.ev y) h; exact ⟨y, k, rfl, hk⟩
theorem sl_shape {σ : Nat → Nat} {tok z es v} (hr : RD σ w (.sl tok z es) v) : ∃ ad cap, v = .slice ad es.length cap ∧ es.length ≤ cap := by
 cases hr with
 | slN => exact ⟨none, 0, rfl, by simp⟩
 | sl _ _ _ b o cap f ht hz hl hc hcap hs hw hh => exact ⟨_, cap, rfl, hcap⟩
theorem LiveOk.cut {tk : List Nat} {i off z cap : Nat} {es : Box} {ad : Option Addr} (h : LiveOk F G tk w i off z es (.slice ad es.length cap)) (hcap : es.length ≤ cap) (had : ad = none ∨ ∃ b o, ad = some ⟨b, o, none⟩) {l : Nat} (hl : l ≤ es.length) :
  LiveOk F G tk w i (off + l) z ((es.take es.length).drop l) (.slice (if cap = l then ad else ad.map (·.add (l * z))) (es.length - l) (cap - l)) := by
 obtain ⟨n, h1, h2, h3, h4⟩ := h
 have hlen : ((es.take es.length).drop l).length = es.length - l := by simp
 have hmul : l * z + (es.length - l) * z = es.length * z := by rw [← Nat.add_mul]; congr 1; omega
 refine ⟨n, h1, by rw [hlen]; omega, fun b o len c hv => ?_, fun hn => ?_⟩
 · injection hv with hv _ _
   rw [hlen]
   by_cases hc : cap = l
   · rw [if_pos hc] at hv
     subst hv
     refine ⟨(h3 b o _ _ rfl).1, fun j hj => ?_⟩
     have : es.length - l = 0 := by omega
     rw [this] at hj; omega
   · rw [if_neg hc] at hv
     rcases had with rfl | ⟨qb, qo, rfl⟩
     · cases hv
     · simp only [Option.map_some, Option.some.injEq] at hv
       rw [Addr.add_mid] at hv
       injection hv with e1 e2 _
       subst e1 e2
       obtain ⟨k1, k2⟩ := h3 qb qo _ _ rfl
       refine ⟨k1, fun j hj => ?_⟩
       have := k2 (l * z + j) (by omega)
       rwa [← Nat.add_assoc] at this
 · rw [hlen] at hn
   obtain ⟨a', cap', e1, e2⟩ := h4 (by omega)
   injection e1 with q1 _ q3
   subst q1 q3
   refine ⟨_, _, by rw [hlen], ?_⟩
   by_cases hc : cap = l
   · by_cases h0 : l = 0
     · rcases e2 with e2 | ⟨b, o, rfl, s1, s2, c, e, s3, s4⟩
       · left; omega
       · right
         have hz : es.length = 0 := by omega
         have h5 : l * z = 0 := by rw [h0, Nat.zero_mul]
         have h6 : (cap - l) * z = 0 := by rw [hc, Nat.sub_self, Nat.zero_mul]
         rw [hz, Nat.zero_mul] at s2
         rw [hc, h5] at s4
         exact ⟨b, o, by rw [if_pos hc], s1, by rw [hlen, hz]; simpa using s2, c, e, s3, by omega⟩
     · left; omega
   · rcases e2 with e2 | ⟨b, o, rfl, s1, s2, c, e, s3, s4⟩
     · left; omega
     · right
       have hm2 : l * z + (cap - l) * z = cap * z := by rw [← Nat.add_mul]; congr 1; omega
       refine ⟨b, o + l * z, by rw [if_neg hc]; simp [Addr.add_mid], s1, by rw [hlen]; omega, c, e, s3, by omega⟩
theorem slice_sound (hE : ∀ t, TyOk P t (E.ty t)) (hs : Sim F G s a w) {t : TypeId} {x : Operand} {lo hi mx : Option Operand} (ho : o.op = .slice t x lo hi mx)
  (hT : runT E rec (opT E o s K) = some r) : o.wp P a w (After F G s w fun s' => runT E rec (K s') = some r) Q := by
 have hx := hs.ev x
 simp only [opT, ho] at hT
 revert hT
 generalize hkt : (E.ty t).k = kt
 generalize s.ev x = dx at hx
 intro hT
 split at hT
 · rename_i e z b tok z' es
   obtain ⟨hu, hz, ie, zv, hie, hsz, hby, hzv, hzs⟩ := (hE t).sl e z b hkt
   split at hT
   · rename_i l h hl hh
     split at hT
     · rename_i hzz
       obtain ⟨hr, _⟩ := hx.sl_inv
       obtain ⟨ad, cap, hv, hcap⟩ := sl_shape hr
       rw [hv] at hr
       have key : ∀ (m : Nat) (tok' : Tok), tok' ≠ .nil → 0 ≤ l → l ≤ h → h ≤ es.length → h.toNat ≤ m → m ≤ cap → (mx.map a.eval = none ∧ m = cap ∨ ∃ k, mx.map a.eval = some (.int k (m : Int))) →
         (hi = none → mx = none) →
         (execOp a.eval o).run P w = .ok (.value (.slice (if m = l.toNat then ad else ad.map (·.add (l.toNat * z))) (h.toNat - l.toNat) (m - l.toNat))) w ∧
         RD G.ice w (.sl tok' z ((es.take h.toNat).drop l.toNat)) (.slice (if m = l.toNat then ad else ad.map (·.add (l.toNat * z))) (h.toNat - l.toNat) (m - l.toNat)) := by
        intro m tok' ht h0 h1 h2 h3 h4 hm hmx
        refine ⟨?_, ?_⟩
        · have hlo : lo.map a.eval = none ∧ l.toNat = 0 ∨ ∃ k, lo.map a.eval = some (.int k ((l.toNat : Nat) : Int)) := by
            rcases optI_inv hs hl with ⟨rfl, rfl⟩ | ⟨y, k, rfl, hy⟩
            · exact .inl ⟨rfl, rfl⟩
            · exact .inr ⟨k, by simp [hy, Int.toNat_of_nonneg h0]⟩
          have hhi : hi.map a.eval = none ∧ h.toNat = es.length ∧ mx.map a.eval = none ∨ ∃ k, hi.map a.eval = some (.int k ((h.toNat : Nat) : Int)) := by
           rcases optI_inv hs hh with ⟨rfl, rfl⟩ | ⟨y, k, rfl, hy⟩
           · exact .inl ⟨rfl, by simp, by rw [hmx rfl]; rfl⟩
           · exact .inr ⟨k, by simp [hy, Int.toNat_of_nonneg (by omega : 0 ≤ h)]⟩
          have := run_slice (w := w) hu hie 0 0 es.length cap hcap (lo.map a.eval) (hi.map a.eval) (mx.map a.eval) l.toNat h.toNat m hlo hhi hm (by omega) h3 h4 ad
          rw [hsz] at this
          have hA : (Instr.sliceAt t (a.eval x) (lo.map a.eval) (hi.map a.eval) (mx.map a.eval)).run P w = .ok (.slice (if m = l.toNat then ad else ad.map (·.add (l.toNat * z))) (h.toNat - l.toNat) (m - l.toNat)) w := by
           simp only [Instr.sliceAt, Sem.run_bind, run_underlying hu, Result.andThen_ok, hv]
           exact this
          simp only [execOp, ho, Sem.run_bind, hA, Result.andThen_ok, Sem.run_pure]
        · subst hzz
          exact RD.sub (v := a.eval x) ht hr (by omega) (by omega) h3 h4
       split at hT
       · have hro : ∀ (T0 : D), T0 = .sl .ro z ((es.take h.toNat).drop l.toNat) → runT E rec (.need (decide (0 ≤ l) && (decide (l ≤ h) && decide (h ≤ es.length))) (K (s.put o.dst T0))) = some r → o.wp P a w (After F G s w fun s' => runT E rec (K s') = some r) Q := fun T0 e0 hT => by
           subst e0
           simp only [runT] at hT
           split at hT
           · rename_i hb
             simp only [Bool.and_eq_true, decide_eq_true_eq] at hb
             obtain ⟨h0, h1, h2⟩ := hb
             obtain ⟨k1, k2⟩ := key cap .ro (by simp) h0 h1 h2 (by omega) (Nat.le_refl _) (.inl ⟨rfl, rfl⟩) (fun _ => rfl)
             exact wp_same hs k1 (.roSl k2) hT
           · cases hT
         have hlive : ∀ (i off : Nat) (t0 t1 : Tok), t1 ≠ .nil → (True → LiveOk F G s.tk w i off z' es (a.eval x)) → (∀ {es' v'}, LiveOk F G s.tk w i (off + l.toNat) z es' v' → TokOk F G s.tk w (.sl t1 z es') v') → h = (es.length : Int) → runT E rec (.need (decide (0 ≤ l) && (decide (l ≤ h) && decide (h ≤ es.length))) (K (s.put o.dst (.sl t1 z ((es.take h.toNat).drop l.toNat))))) = some r → o.wp P a w (After F G s w fun s' => runT E rec (K s') = some r) Q := fun i off t0 t1 ht1 hl0 htk hhe hT => by
          simp only [runT] at hT
          split at hT
          · rename_i hb
            simp only [Bool.and_eq_true, decide_eq_true_eq] at hb
            obtain ⟨h0, h1, h2⟩ := hb
            obtain ⟨k1, k2⟩ := key cap t1 ht1 h0 h1 h2 (by omega) (Nat.le_refl _) (.inl ⟨rfl, rfl⟩) (fun _ => rfl)
            have hlv := hl0 trivial
            rw [hv, hzz] at hlv
            have := hlv.cut hcap (by cases hr <;> first | exact .inl rfl | exact .inr ⟨_, _, rfl⟩) (l := l.toNat) (by omega)
            rw [show es.length = h.toNat by omega] at this
            refine wp_same hs k1 (.dat k2 (htk ?_)) hT
            exact this
          · cases hT
         split at hT
         · cases tok with
           | ro => exact hro _ rfl hT
           | nil => exact hro _ rfl hT
           | nw => exact hro _ rfl hT
           | cap =>
             have hhe : h = (es.length : Int) := by simpa [optI] using hh.symm
             simp only [runT] at hT
             split at hT
             · rename_i hb
               simp only [Bool.and_eq_true, decide_eq_true_eq] at hb
               obtain ⟨h0, h1, h2⟩ := hb
               obtain ⟨k1, k2⟩ := key cap .cap (by simp) h0 h1 h2 (by omega) (Nat.le_refl _) (.inl ⟨rfl, rfl⟩) (fun _ => rfl)
               obtain ⟨q, hq⟩ := hx.sl_inv.2
               rw [hv] at hq
               injection hq with _ _ q3
               have e1 : ((es.take h.toNat).drop l.toNat).length = h.toNat - l.toNat := by simp; omega
               refine wp_same hs k1 (.dat k2 ?_) hT
               show ∃ q, _ = Value.slice q _ _
               rw [e1, q3, show es.length - l.toNat = h.toNat - l.toNat by omega]
               exact ⟨_, rfl⟩
             · cases hT
           | own i => exact hlive i 0 (.own i) (.ofs i (0 + l.toNat)) (by simp) (fun _ => hx.sl_inv.2) (fun h => h) (by simpa [optI] using hh.symm) (by simpa [cutTok] using hT)
           | ofs i off => exact hlive i off (.ofs i off) (.ofs i (off + l.toNat)) (by simp) (fun _ => hx.sl_inv.2) (fun h => h) (by simpa [optI] using hh.symm) hT
         · exact hro _ rfl hT
       · rename_i m'
         split at hT
         · rename_i y m hm
           simp only [runT] at hT
           split at hT
           · rename_i hb
             simp only [Bool.and_eq_true, decide_eq_true_eq] at hb
             obtain ⟨h0, h1, h2, h3⟩ := hb
             obtain ⟨km, hkm⟩ := idx_inv (hs.ev m') hm
             obtain ⟨k1, k2⟩ := key h.toNat .cap (by simp) h0 h1 h2 (Nat.le_refl _) (by omega) (.inr ⟨km, by simp [hkm, h3, Int.toNat_of_nonneg (by omega : 0 ≤ h)]⟩) (fun hc => by cases hc)
             have e1 : ((es.take h.toNat).drop l.toNat).length = h.toNat - l.toNat := by simp; omega
             refine wp_same hs k1 (.dat k2 ?_) hT
             show ∃ q, _ = Value.slice q _ _
             rw [e1]
             exact ⟨_, rfl⟩
           · cases hT
         · simp [runT] at hT
     · simp [runT] at hT
   · simp [runT] at hT
 · rename_i b
   split at hT
   · rename_i l h hl hh
     have hu := (hE t).str hkt
     have ex := hx.str_inv
     simp only [runT] at hT
     split at hT
     · rename_i hb
       simp only [Bool.and_eq_true, decide_eq_true_eq] at hb
       obtain ⟨h0, h1, h2⟩ := hb
       refine wp_same hs ?_ .str hT
       have hbs : (Instr.sliceBounds false b.size b.size (lo.map a.eval) (hi.map a.eval) none).run P w = .ok (l.toNat, h.toNat, b.size) w := by
        unfold Instr.sliceBounds
        rcases optI_inv hs hl with ⟨rfl, rfl⟩ | ⟨y, k, rfl, hy⟩ <;> rcases optI_inv hs hh with ⟨rfl, rfl⟩ | ⟨y', k', rfl, hy'⟩
        · simp
        · simp [hy', Instr.sliceBound, asIntOf, h1, h2]
        · simp [hy, Instr.sliceBound, asIntOf, h0, h1]
        · have : 0 ≤ h := by omega
          simp [hy, hy', Instr.sliceBound, asIntOf, h0, h2, this, Int.toNat_of_nonneg this, h1]
       simp only [execOp, ho, ex, Instr.sliceAt, Instr.slice, Sem.run_bind, run_underlying hu, Result.andThen_ok]
       simp [hbs, run_underlying hu]
     · cases hT
   · simp [runT] at hT
 · simp [runT] at hT
end
section
variable {P : Program} {E : Env} {F : Fx} {G : Gh} {s : S} {a : Act} {w : World} {o : Oper} {Q : Exit → Act → World → Prop} {rec : T → Option (X × S)} {r : X × S} {K : S → T}
theorem heap_alloc (w : World) (ob : Obj) (k : Nat) (h : k ≠ w.heap.size) : (w.alloc ob).heap[k]? = w.heap[k]? := by
 show (w.heap.push ob)[k]? = _
 rw [Array.getElem?_push]
 split
 · rename_i e; exact absurd e h
 · rfl
theorem heap_alloc_new (w : World) (ob : Obj) : (w.alloc ob).heap[w.heap.size]? = some ob := by
 show (w.heap.push ob)[w.heap.size]? = _
 simp
theorem size_alloc (w : World) (ob : Obj) : (w.alloc ob).heap.size = w.heap.size + 1 := by
 show (w.heap.push ob).size = _
 simp
theorem cell_alloc (w : World) (ob : Obj) (b i : Nat) (h : b ≠ w.heap.size) : (w.alloc ob).cell? ⟨b, i, none⟩ = w.cell? ⟨b, i, none⟩ :=
 World.cell?_of_block (a := ⟨b, i, none⟩) (heap_alloc w ob b h)
theorem frozen_alloc (w : World) (ob : Obj) (b i : Nat) (h : b ≠ w.heap.size) : (w.alloc ob).frozen? ⟨b, i, none⟩ = w.frozen? ⟨b, i, none⟩ :=
 World.frozen?_of_block (a := ⟨b, i, none⟩) (heap_alloc w ob b h)
theorem cell_alloc_new (w : World) (c : Array Value) (e : TypeId) (i : Nat) : (w.alloc (.cells c e)).cell? ⟨w.heap.size, i, none⟩ = c[i]? := by
 unfold World.cell?
 rw [heap_alloc_new]; rfl
theorem frozen_alloc_new (w : World) (c : Array Value) (e : TypeId) (i : Nat) : (w.alloc (.cells c e)).frozen? ⟨w.heap.size, i, none⟩ = false := by
 unfold World.frozen?
 rw [heap_alloc_new]; simp
def Gh.ice1 (G : Gh) (b m : Nat) : Gh := { G with ice := fun k => if k = b then m else G.ice k }
theorem ext_alloc {tk} (G : Gh) (ob : Obj) (m : Nat) (hbig : ∀ b, w.heap.size ≤ b → G.ice b = 0) (hlive : ∀ b ∈ G.tkb, b < w.heap.size) : Ext G tk w (G.ice1 w.heap.size m) tk (w.alloc ob) := by
 refine ⟨fun _ _ h => h, fun b => ?_, fun b i hi => ?_, fun b i hi hz => (frozen_alloc _ _ _ _ (fun h => by rw [hbig b (by omega)] at hi; omega)).trans hz, fun i n hn => ⟨n, hn, Nat.le_refl _, fun _ b hb => ⟨hb, ?_, fun c e hc => ⟨c, ?_, rfl⟩⟩⟩⟩
 · simp only [Gh.ice1]
   split
   · rename_i h; subst h; rw [hbig _ (Nat.le_refl _)]; omega
   · exact Nat.le_refl _
 · refine cell_alloc _ _ _ _ (fun h => ?_)
   rw [hbig b (by omega)] at hi; omega
 · have := hlive b (List.mem_of_getElem? hb)
   simp only [Gh.ice1]
   rw [if_neg (by omega)]
 · have := hlive b (List.mem_of_getElem? hb)
   rw [heap_alloc _ _ _ (by omega)]; exact hc
theorem Inv.tkLive {loc out tk} (h : Inv F G loc out tk w) : ∀ b ∈ G.tkb, b < w.heap.size :=
 fun b hb => h.live b (by simp [blocks, hb])
theorem Inv.locLive {loc out tk} (h : Inv F G loc out tk w) : ∀ p ∈ G.loc, p.b < w.heap.size :=
 fun p hp => h.live p.b (by simp only [blocks, List.mem_append, List.mem_map]; exact .inr (.inl ⟨p, hp, rfl⟩))
theorem Inv.outLive {loc out tk} (h : Inv F G loc out tk w) : ∀ p ∈ F.out, p.b < w.heap.size :=
 fun p hp => h.live p.b (by simp only [blocks, List.mem_append, List.mem_map]; exact .inl ⟨p, hp, rfl⟩)
theorem Inv.alloc {loc out tk} (h : Inv F G loc out tk w) (ob : Obj) (m : Nat) : Inv F (G.ice1 w.heap.size m) loc out tk (w.alloc ob) := by
 have hx := ext_alloc (tk := tk) G ob m h.iceBig h.tkLive
 have hx0 := ext_alloc (w := w) (tk := tk) ⟨[], G.tkb, G.ice⟩ ob m h.iceBig h.tkLive
 refine ⟨h.locLen, h.outLen, fun i es p h1 h2 => ?_, fun i es p h1 h2 => ?_, h.nd, fun b hb => ?_, h.locNew, h.tkLen, h.tkNew, h.tkOld, fun p hp => ?_, fun b hb => ?_, ?_⟩
 · have hl := h.locLive p (List.mem_of_getElem? h2)
   exact (h.boxL i es p h1 h2).ext hx fun i j _ _ => ⟨cell_alloc _ _ _ _ (by omega), frozen_alloc _ _ _ _ (by omega)⟩
 · have hl := h.outLive p (List.mem_of_getElem? h2)
   exact (h.boxO i es p h1 h2).ext hx fun i j _ _ => ⟨cell_alloc _ _ _ _ (by omega), frozen_alloc _ _ _ _ (by omega)⟩
 · rw [size_alloc]; have := h.live b hb; omega
 · have : p.b < w.heap.size := by
     rcases List.mem_append.1 hp with hp | hp
     · exact h.outLive p hp
     · exact h.locLive p hp
   simp only [Gh.ice1]; rw [if_neg (by omega)]; exact h.iceBox p hp
 · rw [size_alloc] at hb
   simp only [Gh.ice1]; rw [if_neg (by omega)]; exact h.iceBig b (by omega)
 · have hf := h.fr
   refine ⟨hf.os, hf.tape, hf.output, by rw [size_alloc]; have := hf.size; omega, fun b hb h1 h2 => ?_, hf.ext0.trans hx0, fun b hb h1 => ?_⟩
   · have := hf.size
     rw [heap_alloc _ _ _ (by omega)]; exact hf.same b hb h1 h2
   · have := hf.size
     simp only [Gh.ice1]; rw [if_neg (by omega)]; exact hf.ice b hb h1
theorem Sim.alloc (h : Sim F G s a w) (ob : Obj) (m : Nat) : Sim F (G.ice1 w.heap.size m) s a (w.alloc ob) :=
 ⟨h.inv.alloc ob m, h.tmp.ext (ext_alloc G ob m h.inv.iceBig h.inv.tkLive), h.def0⟩
def Gh.addLoc (G : Gh) (p : Pl) : Gh := { G with loc := G.loc ++ [p] }
theorem ext_addLoc {tk} (G : Gh) (p : Pl) : Ext G tk w (G.addLoc p) tk w :=
 ⟨fun i q hq => by
  have hi := (List.getElem?_eq_some_iff.1 hq).1
  simp only [Gh.addLoc]; rw [List.getElem?_append_left hi]; exact hq, fun _ => Nat.le_refl _, fun _ _ _ => rfl, fun _ _ _ h => h, fun i n hn => ⟨n, hn, Nat.le_refl _, fun _ b hb => ⟨hb, rfl, fun c e hc => ⟨c, hc, rfl⟩⟩⟩⟩
theorem Inv.addLoc {loc out tk} (h : Inv F G loc out tk w) (p : Pl) (es : Box) (hnew : ∀ b ∈ blocks F G, b ≠ p.b) (hlt : p.b < w.heap.size) (hbase : F.base ≤ p.b) (hice : G.ice p.b = 0) (hb : BoxR F G tk w es p) :
  Inv F (G.addLoc p) (loc ++ [es]) out tk w := by
 have hx := ext_addLoc (w := w) (tk := tk) G p
 refine ⟨by simp [Gh.addLoc, h.locLen], h.outLen, fun i es' p' h1 h2 => ?_, fun i es' p' h1 h2 => (h.boxO i es' p' h1 h2).ext hx fun _ _ _ _ => ⟨rfl, rfl⟩, ?_, fun b hb' => ?_, fun q hq => ?_, h.tkLen, h.tkNew, h.tkOld, fun q hq => ?_, h.iceBig, ?_⟩
 · simp only [Gh.addLoc] at h2
   by_cases hi : i < loc.length
   · rw [List.getElem?_append_left hi] at h1
     rw [List.getElem?_append_left (by rw [h.locLen]; exact hi)] at h2
     exact (h.boxL i es' p' h1 h2).ext hx fun _ _ _ _ => ⟨rfl, rfl⟩
   · rw [List.getElem?_append_right (by omega)] at h1
     rw [List.getElem?_append_right (by rw [h.locLen]; omega), h.locLen] at h2
     have h0 : i - loc.length = 0 := by
      rcases Nat.eq_zero_or_pos (i - loc.length) with h0 | h0
      · exact h0
      · rw [List.getElem?_eq_none (by simp; omega)] at h1; cases h1
     rw [h0] at h1 h2
     simp at h1 h2
     subst h1; subst h2
     exact hb.ext hx fun _ _ _ _ => ⟨rfl, rfl⟩
 · have hnd := h.nd
   simp only [blocks] at hnd hnew
   simp only [blocks, Gh.addLoc, List.map_append, List.map_cons, List.map_nil]
   rw [← List.append_assoc, List.append_assoc] at *
   have e : (F.out.map (·.b)) ++ ((G.loc.map (·.b)) ++ [p.b] ++ G.tkb) = ((F.out.map (·.b)) ++ (G.loc.map (·.b))) ++ p.b :: G.tkb := by simp
   have hperm : (((F.out.map (·.b)) ++ (G.loc.map (·.b))) ++ p.b :: G.tkb).Perm (p.b :: ((F.out.map (·.b)) ++ ((G.loc.map (·.b)) ++ G.tkb))) := by
    rw [← List.append_assoc]; exact List.perm_middle
   rw [e]
   rw [hperm.nodup_iff, List.nodup_cons]
   exact ⟨fun hm => hnew _ hm rfl, hnd⟩
 · simp only [blocks, Gh.addLoc, List.map_append, List.map_cons, List.map_nil, List.mem_append, List.mem_singleton] at hb'
   rcases hb' with hb' | (hb' | hb') | hb'
   · exact h.live b (by simp only [blocks, List.mem_append]; exact .inl hb')
   · exact h.live b (by simp only [blocks, List.mem_append]; exact .inr (.inl hb'))
   · subst hb'; exact hlt
   · exact h.live b (by simp only [blocks, List.mem_append]; exact .inr (.inr hb'))
 · simp only [Gh.addLoc, List.mem_append, List.mem_singleton] at hq
   rcases hq with hq | hq
   · exact h.locNew q hq
   · subst hq; exact hbase
 · simp only [Gh.addLoc, List.mem_append, List.mem_singleton] at hq
   rcases hq with hq | hq | hq
   · exact h.iceBox q (by simp [hq])
   · exact h.iceBox q (by simp [hq])
   · subst hq; exact hice
 · have hf := h.fr
   exact ⟨hf.os, hf.tape, hf.output, hf.size, hf.same, hf.ext0, hf.ice⟩
theorem Sim.newRow (h : Sim F G s a w) (es : Box) (z : Nat) (c : Array Value) (e : TypeId) (hz : 0 < z) (hl : ∀ x ∈ es, x.length = z) (ha : ∀ x ∈ es, ∀ d ∈ x, D.atom d = true) (hc : c.size = es.length * z)
  (hr : ∀ i j, i < es.length → j < z → Rep F G s.tk w ((es.getD i []).getD j .junk) (c.getD (i * z + j) undef)) :
  ∃ G', Sim F G' { s with loc := s.loc ++ [es] } a (w.alloc (.cells c e)) ∧ place F G' (.loc s.loc.length) = some ⟨w.heap.size, 0, z, es.length⟩ := by
 have h1 := h.alloc (.cells c e) 0
 have hx := ext_alloc (tk := s.tk) G (.cells c e) 0 h.inv.iceBig h.inv.tkLive
 refine ⟨(G.ice1 w.heap.size 0).addLoc ⟨w.heap.size, 0, z, es.length⟩, ⟨?_, h1.tmp.ext (ext_addLoc _ _), h1.def0⟩, ?_⟩
 · refine h1.inv.addLoc _ es (fun b hb => ?_) (by show w.heap.size < _; rw [size_alloc]; omega) h.inv.fr.size (by simp [Gh.ice1]) ⟨rfl, hz, hl, ha, fun i j hi hj => ?_⟩
   · have := h.inv.live b hb; show b ≠ w.heap.size; omega
   · have hlt : i * z + j < c.size := by
       have : (i + 1) * z ≤ es.length * z := Nat.mul_le_mul_right _ hi
       rw [Nat.succ_mul] at this
       have hj' : j < z := hj
       omega
     refine ⟨c.getD (i * z + j) undef, ?_, frozen_alloc_new _ _ _ _, (hr i j hi hj).ext hx⟩
     rw [cell_alloc_new]
     simp only [Nat.zero_add]
     rw [Array.getElem?_eq_getElem hlt]
     simp [Array.getD, hlt]
 · simp only [place, Gh.addLoc, Gh.ice1]
   rw [List.getElem?_append_right (by rw [h.inv.locLen]; exact Nat.le_refl _)]
   simp [h.inv.locLen]
theorem Sim.newBox (h : Sim F G s a w) (cs : List D) (c : Array Value) (e : TypeId) (hz : 0 < cs.length) (ha : ∀ d ∈ cs, D.atom d = true) (hc : c.size = cs.length)
  (hr : ∀ j, j < cs.length → Rep F G s.tk w (cs.getD j .junk) (c.getD j undef)) (dst : Option Tmp) :
  ∃ G', Sim F G' (s.alloc dst [cs] (.pbx · 0)) (a.put dst (.pointer (some ⟨w.heap.size, 0, none⟩))) (w.alloc (.cells c e)) := by
 obtain ⟨G', h', hp⟩ := h.newRow [cs] cs.length c e hz (by simp) (by simpa using ha) (by simpa using hc) (fun i j hi hj => by
  have : i = 0 := by simpa using hi
  subst this
  simpa using hr j hj)
 exact ⟨G', h'.put dst (.pbx _ 0 _ 0 _ _ hp)⟩
theorem run_alloc {t : TypeId} {ie : TypeInfo} {zv : Value} (hi : P.info? t = some ie) (hz : ie.zero = some zv) : (Instr.alloc t true (.tuple #[])).run P w = .ok (.pointer (some ⟨w.heap.size, 0, none⟩)) (w.alloc (.cells zv.cells t)) := by
 simp [Instr.alloc, zeroValue, typeInfo, hi, hz, newVar, newRow]
theorem known_ne {k : Mach.K} (h : k.known = true) : k ≠ .other := by intro h'; subst h'; cases h
theorem alloc_sound (hE : ∀ t, TyOk P t (E.ty t)) (hs : Sim F G s a w) {t : TypeId} (ho : o.op = .alloc t)
  (hT : runT E rec (opT E o s K) = some r) : o.wp P a w (After F G s w fun s' => runT E rec (K s') = some r) Q := by
 simp only [opT, ho] at hT
 split at hT
 · rename_i hc
   simp only [Bool.and_eq_true, decide_eq_true_eq] at hc
   obtain ⟨ie, zv, hinfo, hsize, hzero, hsz, hzr⟩ := (hE t).info (known_ne hc.1)
   obtain ⟨G', h'⟩ := hs.newBox (E.ty t).zero zv.cells t hc.2 (fun d hd => by
    obtain ⟨i, hi, rfl⟩ := List.getElem_of_mem hd
    have := (hzr i hi).1
    rw [List.getD_eq_getElem?_getD, List.getElem?_eq_getElem hi] at this
    exact cell_atom this) hsz (fun j hj => .dat ((hzr j hj).2 _ _) (.of_free (free_cell (hzr j hj).1))) o.dst
   refine wp_value ?_ ⟨G', _, hT, h'⟩
   simp [execOp, ho, run_alloc hinfo hzero]
 · simp [runT] at hT
theorem Rep.cells {tk d v} (h : Rep F G tk w d v) (ha : ∀ c ∈ d.cells, D.atom c = true) : v.cells.size = d.cells.length ∧ ∀ j, j < d.cells.length → Rep F G tk w (d.cells.getD j .junk) (v.cells.getD j undef) ∧ (v.cells.getD j undef).oneCell' = true := by
 cases d with
 | agg cs =>
   have hr := h.agg_inv
   cases hr with
   | agg _ vs hl hc hh =>
     refine ⟨hl, fun j hj => ?_⟩
     have h1 := hh j hj
     have h2 := hc _ (mem_getD hj)
     exact ⟨.dat h1 (.of_free (free_cell h2)), h1.one h2⟩
 | _ =>
   simp only [D.cells, List.mem_singleton, forall_eq] at ha
   first
    | (simp [D.atom] at ha; done)
    | (have h1 := (h.atom_inv ha).1.one' ha
       have : v.cells = #[v] := by cases v <;> first | rfl | simp [Value.oneCell'] at h1
       rw [this]
       refine ⟨rfl, fun j hj => ?_⟩
       have : j = 0 := by simpa [D.cells] using hj
       subst this
       exact ⟨h, h1⟩)
theorem box_sound (hs : Sim F G s a w) {t : TypeId} {x : Operand} (ho : o.op = .box t x)
  (hT : runT E rec (opT E o s K) = some r) : o.wp P a w (After F G s w fun s' => runT E rec (K s') = some r) Q := by
 have hx := hs.ev x
 simp only [opT, ho] at hT
 revert hT
 generalize s.ev x = dx at hx
 intro hT
 split at hT
 · rename_i hc
   simp only [Bool.and_eq_true, decide_eq_true_eq, List.all_eq_true] at hc
   obtain ⟨h1, h2⟩ := hx.cells hc.1
   obtain ⟨G', h'⟩ := hs.newBox dx.cells (a.eval x).cells t hc.2 hc.1 h1 (fun j hj => (h2 j hj).1) o.dst
   refine wp_value ?_ ⟨G', _, hT, h'⟩
   simp [execOp, ho, Instr.box, newVar, newRow]
 · simp [runT] at hT
end
end Go.Mach
