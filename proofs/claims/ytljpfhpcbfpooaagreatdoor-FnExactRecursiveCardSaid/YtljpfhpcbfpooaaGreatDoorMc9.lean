/- What the statements share: part 9 of a proof by an executable machine over the program's code. -/
import Derived.Test.YtljpfhpcbfpooaaGreatDoorMc8
import Derived.Deep.LoopGhost
import Derived.Orders
set_option linter.unusedVariables false
set_option linter.unusedSimpArgs false
namespace Go.Mach
open Go Go.RowKit
section
variable {P : Program} {E : Env} {F : Fx} {G : Gh} {s : S} {a : Act} {w : World} {rec : T → Option (X × S)} {r : X × S}
def gT (E : Env) (all : List Oper) (o : Oper) (s : S) (K : S → T) : T :=
 match o.guard with
 | none => opT E o s K
 | some (j, want) =>
   match (all[j]?).bind (·.dst) with
   | some d => match s.t.getD d .junk with
     | .bool v => .test (v == want) (fun _ => opT E o s K) (fun _ => K (s.put o.dst (.tup [])))
     | e => if e.skipped then K (s.put o.dst (.tup [])) else .fail
   | none => .fail
theorem opsT_cons (all : List Oper) (o : Oper) (os : List Oper) (s : S) (K : S → T) : opsT E all (o :: os) s K = gT E all o s fun s' => opsT E all os s' K := by
 simp only [opsT, gT]
 cases o.guard with
 | none => rfl
 | some p =>
   dsimp only
   cases (all[p.1]?).bind (·.dst) with
   | none => rfl
   | some d =>
     dsimp only
     cases s.t.getD d .junk <;> rfl
def AgreeG (all : List Oper) (o : Oper) (s s2 : S) : Prop :=
 Agree o s s2 ∧ ∀ g b d, o.guard = some (g, b) → (all[g]?).bind (·.dst) = some d → s2.t.getD d .junk = s.t.getD d .junk
def SameG (all : List Oper) (o : Oper) (s s2 : S) : Prop := ∀ g b d, o.guard = some (g, b) → (all[g]?).bind (·.dst) = some d → s2.t.getD d .junk = s.t.getD d .junk
theorem g_gen {all : List Oper} {o : Oper} {A : S → Prop} (s : S) (h : ∃ V : (D → T) → T, Par E rec V ∧ ∀ s2, A s2 → ∀ K, opT E o s2 K = V (fun d => K (s2.put o.dst d))) :
  ∃ V : (D → T) → T, Par E rec V ∧ ∀ s2, A s2 → SameG all o s s2 → ∀ K, gT E all o s2 K = V (fun d => K (s2.put o.dst d)) := by
 obtain ⟨V, hV, h⟩ := h
 cases hg : o.guard with
 | none => exact ⟨V, hV, fun s2 h2 h3 K => by simp only [gT, hg]; exact h s2 h2 K⟩
 | some p =>
   obtain ⟨j, want⟩ := p
   cases hd : (all[j]?).bind (·.dst) with
   | none => exact ⟨fun _ => .fail, Par.fail, fun s2 h2 h3 K => by simp only [gT, hg, hd]⟩
   | some d =>
     by_cases hsk : s.t.getD d .junk = .tup []
     · exact ⟨fun k => k (.tup []), fun k r hr => ⟨_, hr, fun k2 r2 hk => hk⟩, fun s2 h2 h3 K => by simp only [gT, hg, hd, h3 j want d hg hd, hsk, D.skipped, if_true]⟩
     cases hv : s.t.getD d .junk with
     | bool v =>
       refine ⟨fun k => .test (v == want) (fun _ => V k) (fun _ => k (.tup [])), ?_, fun s2 h2 h3 K => ?_⟩
       · intro k r hr
         simp only [runT] at hr
         cases hb : (v == want)
         · rw [hb] at hr
           exact ⟨.tup [], by simpa using hr, fun k2 r2 hk => by simpa [runT] using hk⟩
         · rw [hb] at hr
           obtain ⟨d', h1, h2⟩ := hV k r (by simpa using hr)
           exact ⟨d', h1, fun k2 r2 hk => by simp only [runT, if_true]; exact h2 k2 r2 hk⟩
       · simp only [gT, hg, hd, h3 j want d hg hd, hv, h s2 h2]
     | tup vs => cases vs with
       | nil => exact absurd hv hsk
       | cons x vs => exact ⟨fun _ => .fail, Par.fail, fun s2 h2 h3 K => by simp only [gT, hg, hd, h3 j want d hg hd, hv, D.skipped, Bool.false_eq_true, if_false]⟩
     | _ => exact ⟨fun _ => .fail, Par.fail, fun s2 h2 h3 K => by simp only [gT, hg, hd, h3 j want d hg hd, hv, D.skipped, Bool.false_eq_true, if_false]⟩
theorem g_val {all : List Oper} {o : Oper} (hc : cls E o.op = 0) (s : S) :
  ∃ V : (D → T) → T, Par E rec V ∧ ∀ s2, AgreeG all o s s2 → ∀ K, gT E all o s2 K = V (fun d => K (s2.put o.dst d)) := by
 obtain ⟨V, hV, h⟩ := g_gen (all := all) s (op_val (rec := rec) hc s)
 exact ⟨V, hV, fun s2 h2 K => h s2 h2.1 h2.2 K⟩
theorem g_valT {all : List Oper} {o : Oper} (hc : tempOp o.op = true) (s : S) :
 ∃ V : (D → T) → T, Par E rec V ∧ ∀ s2, AgreeT o s s2 → SameG all o s s2 → ∀ K, gT E all o s2 K = V (fun d => K (s2.put o.dst d)) := g_gen (all := all) s (op_valT (E := E) (rec := rec) hc s)
theorem gT_put {all : List Oper} {o : Oper} {s : S} {d : Tmp} {v : D} (hl : d ∉ looks all o) (hd : o.dst ≠ some d) (K : S → T) :
  gT E all o (s.put (some d) v) K = gT E all o s fun s' => K (s'.put (some d) v) := by
 have hop : ∀ K, opT E o (s.put (some d) v) K = opT E o s fun s' => K (s'.put (some d) v) := fun K => op_put (fun x hx he => hl (by
  subst he
  simp only [looks, List.mem_append, List.mem_filterMap]
  exact .inl ⟨.tmp d, by simpa using hx, rfl⟩)) hd K
 have hc : ∀ (s : S) e, (s.put (some d) v).put o.dst e = (s.put o.dst e).put (some d) v := fun s e => put_comm s (fun i hi => by cases hi; exact hd) v e
 unfold gT
 split
 · exact hop K
 · rename_i j want hg
   split
   · rename_i d' hd'
     have : d ≠ d' := fun he => hl (by subst he; simp [looks, hg, hd'])
     have hs : (s.put (some d) v).t.getD d' .junk = s.t.getD d' .junk := by simp only [S.put, getD_set, this, false_and, if_false]
     simp only [hs, hc, hop]
   · rfl
theorem gT_par (all : List Oper) (o : Oper) (s : S) : ParS E rec s o.dst fun K => gT E all o s K := by
 unfold gT
 split
 · exact op_par o s
 · split
   · split
     · intro K r hr
       simp only [runT] at hr
       split at hr
       · rename_i hb
         obtain ⟨s', h1, h2, h3⟩ := op_par o s K r hr
         exact ⟨s', h1, h2, fun K2 r2 hk => by simp only [runT, hb, if_true]; exact h3 K2 r2 hk⟩
       · rename_i hb
         exact ⟨_, ⟨_, rfl⟩, hr, fun K2 r2 hk => by simp only [runT, hb, if_false]; exact hk⟩
     · exact .ite _ (.pure _ ⟨_, rfl⟩) .fail
   · exact .fail
theorem agree_par {all : List Oper} {x : Oper} {s s' : S} {dst : Option Tmp} {e : D} (h : ∀ d, dst = some d → d ∉ looks all x) (hs : s'.t = (s.put dst e).t) : AgreeT x s s' ∧ SameG all x s s' := by
 have hg : ∀ i, i ∈ looks all x → s'.t.getD i .junk = s.t.getD i .junk := fun i hi => by
  rw [hs]
  cases dst with
  | none => rfl
  | some j =>
    have : j ≠ i := fun he => h j rfl (he ▸ hi)
    simp only [S.put, getD_set, this, false_and, if_false]
 refine ⟨fun y hy => ?_, fun g b d hg' hd => hg d (by simp [looks, hg', hd])⟩
 cases y with
 | tmp i =>
   refine hg i ?_
   simp only [looks, List.mem_append, List.mem_filterMap]
   exact .inl ⟨.tmp i, by simpa using hy, rfl⟩
 | _ => rfl
theorem gT_putO {all : List Oper} {o : Oper} {s : S} {dst : Option Tmp} {v : D} (hl : ∀ d, dst = some d → d ∉ looks all o) (hd : ∀ d, dst = some d → o.dst ≠ some d) (K : S → T) :
  gT E all o (s.put dst v) K = gT E all o s fun s' => K (s'.put dst v) := by
 cases dst with
 | none => rfl
 | some d => exact gT_put (hl d rfl) (hd d rfl) K
theorem swap1 {all : List Oper} {x y : Oper} (hx : tempOp x.op = true) (h1 : ∀ d, x.dst = some d → d ∉ looks all y) (h2 : ∀ d, x.dst = some d → y.dst ≠ some d) (h3 : ∀ d, y.dst = some d → d ∉ looks all x) {s : S} {K : S → T}
  (hT : runT E rec (gT E all x s fun s' => gT E all y s' K) = some r) : runT E rec (gT E all y s fun s' => gT E all x s' K) = some r := by
 obtain ⟨V, hV, hv⟩ := g_valT (E := E) (rec := rec) (all := all) hx s
 rw [hv s (fun _ _ => rfl) (fun _ _ _ _ _ => rfl)] at hT
 obtain ⟨d, hd, hd'⟩ := hV _ _ hT
 rw [gT_putO h1 h2] at hd
 obtain ⟨s', ⟨e, he⟩, hs, hs'⟩ := gT_par all y s _ _ hd
 refine hs' _ _ ?_
 obtain ⟨a1, a2⟩ := agree_par h3 he
 rw [hv s' a1 a2]
 exact hd' _ _ hs
theorem swap2 {all : List Oper} {x y : Oper} (hy : tempOp y.op = true) (h1 : ∀ d, x.dst = some d → d ∉ looks all y) (h2 : ∀ d, x.dst = some d → y.dst ≠ some d) (h3 : ∀ d, y.dst = some d → d ∉ looks all x) {s : S} {K : S → T}
  (hT : runT E rec (gT E all x s fun s' => gT E all y s' K) = some r) : runT E rec (gT E all y s fun s' => gT E all x s' K) = some r := by
 obtain ⟨s', ⟨e, he⟩, hs, hs'⟩ := gT_par all x s _ _ hT
 obtain ⟨V, hV, hv⟩ := g_valT (E := E) (rec := rec) (all := all) hy s
 obtain ⟨a1, a2⟩ := agree_par h1 he
 rw [hv s' a1 a2] at hs
 obtain ⟨d, hd, hd'⟩ := hV _ _ hs
 rw [hv s (fun _ _ => rfl) (fun _ _ _ _ _ => rfl)]
 refine hd' _ _ ?_
 rw [gT_putO h3 (fun d hd he => h2 d he hd)]
 exact hs' _ _ hd
theorem g_val1 {all : List Oper} {o : Oper} (hc : cls E o.op ≤ 1) (s : S) :
  ∃ V : (D × List Nat → T) → T, Par E rec V ∧ ∀ s2, AgreeG all o s s2 → s2.tk = s.tk → ∀ K, gT E all o s2 K = V (fun p => K ((s2.wtk p.2).put o.dst p.1)) := by
 by_cases h0 : cls E o.op = 0
 · obtain ⟨V, hV, h⟩ := g_val (rec := rec) (all := all) h0 s
   refine ⟨fun k => V fun d => k (d, s.tk), fun k r hr => ?_, fun s2 h2 ht K => ?_⟩
   · obtain ⟨d, h1, h2⟩ := hV _ r hr
     exact ⟨(d, s.tk), h1, fun k2 r2 hk => h2 _ r2 hk⟩
   · rw [h s2 h2 K, ← ht]; rfl
 have h1 : cls E o.op = 1 := by omega
 obtain ⟨V, hV, h⟩ := op_val1 (rec := rec) h1 s
 cases hg : o.guard with
 | none => exact ⟨V, hV, fun s2 h2 ht K => by simp only [gT, hg]; exact h s2 h2.1 ht K⟩
 | some p =>
   obtain ⟨j, want⟩ := p
   cases hd : (all[j]?).bind (·.dst) with
   | none => exact ⟨fun _ => .fail, Par.fail, fun s2 h2 ht K => by simp only [gT, hg, hd]⟩
   | some d =>
     by_cases hsk : s.t.getD d .junk = .tup []
     · exact ⟨fun k => k (.tup [], s.tk), fun k r hr => ⟨_, hr, fun k2 r2 hk => hk⟩, fun s2 h2 ht K => by simp only [gT, hg, hd, h2.2 j want d hg hd, hsk, D.skipped, if_true]; rw [← ht]; rfl⟩
     cases hv : s.t.getD d .junk with
     | bool v =>
       refine ⟨fun k => .test (v == want) (fun _ => V k) (fun _ => k (.tup [], s.tk)), ?_, fun s2 h2 ht K => ?_⟩
       · intro k r hr
         simp only [runT] at hr
         cases hb : (v == want)
         · rw [hb] at hr
           exact ⟨(.tup [], s.tk), by simpa using hr, fun k2 r2 hk => by simpa [runT] using hk⟩
         · rw [hb] at hr
           obtain ⟨d', h1, h2⟩ := hV k r (by simpa using hr)
           exact ⟨d', h1, fun k2 r2 hk => by simp only [runT, if_true]; exact h2 k2 r2 hk⟩
       · simp only [gT, hg, hd, h2.2 j want d hg hd, hv, h s2 h2.1 ht]
         rw [← ht]; rfl
     | tup vs => cases vs with
       | nil => exact absurd hv hsk
       | cons x vs => exact ⟨fun _ => .fail, Par.fail, fun s2 h2 ht K => by simp only [gT, hg, hd, h2.2 j want d hg hd, hv, D.skipped, Bool.false_eq_true, if_false]⟩
     | _ => exact ⟨fun _ => .fail, Par.fail, fun s2 h2 ht K => by simp only [gT, hg, hd, h2.2 j want d hg hd, hv, D.skipped, Bool.false_eq_true, if_false]⟩
theorem AgreeG.put {all : List Oper} {y : Oper} {dst : Option Tmp} (h : ∀ d, dst = some d → d ∉ looks all y) (s : S) (d : D) (tk : List Nat) : AgreeG all y s ((s.wtk tk).put dst d) := by
 have hg : ∀ i, i ∈ looks all y → ((s.wtk tk).put dst d).t.getD i .junk = s.t.getD i .junk := fun i hi => by
  cases dst with
  | none => rfl
  | some j =>
    have : j ≠ i := fun he => h j rfl (he ▸ hi)
    simp only [S.put, S.wtk, getD_set, this, false_and, if_false]
 refine ⟨⟨fun x hx => ?_, fun r => by cases dst <;> cases r <;> rfl⟩, fun g b d hg' hd => hg d (by simp [looks, hg', hd])⟩
 cases x with
 | tmp i =>
   refine hg i ?_
   simp only [looks, List.mem_append, List.mem_filterMap]
   exact .inl ⟨.tmp i, by simpa using hx, rfl⟩
 | _ => cases dst <;> rfl
theorem AgreeG.refl {all : List Oper} {y : Oper} (s : S) : AgreeG all y s s := ⟨⟨fun _ _ => rfl, fun _ => rfl⟩, fun _ _ _ _ _ => rfl⟩
theorem apart_spec {all : List Oper} {x y : Oper} (h : apart E all x y = true) : (cls E x.op + cls E y.op ≤ 1 ∨ tempOp x.op = true ∨ tempOp y.op = true) ∧ (∀ d, x.dst = some d → d ∉ looks all y) ∧ (∀ d, x.dst = some d → y.dst ≠ some d) ∧ (∀ d, y.dst = some d → d ∉ looks all x) := by
 unfold apart at h
 simp only [Bool.and_eq_true, Bool.or_eq_true, decide_eq_true_eq] at h
 obtain ⟨⟨h1, h2⟩, h3⟩ := h
 refine ⟨h1, fun d hd => ?_, fun d hd => ?_, fun d hd => ?_⟩
 · rw [hd] at h2; simp at h2; exact h2.1
 · rw [hd] at h2; simp at h2; exact h2.2
 · rw [hd] at h3; simp at h3; exact h3
theorem swap {all : List Oper} {x y : Oper} (h : apart E all x y = true) {s : S} {K : S → T} (hT : runT E rec (gT E all x s fun s' => gT E all y s' K) = some r) :
  runT E rec (gT E all y s fun s' => gT E all x s' K) = some r := by
 obtain ⟨hc, h1, h2, h3⟩ := apart_spec h
 rcases hc with hc | hc | hc
 rotate_left
 · exact swap1 hc h1 h2 h3 hT
 · exact swap2 hc h1 h2 h3 hT
 by_cases h0 : cls E x.op = 0
 · obtain ⟨V, hV, hv⟩ := g_val (rec := rec) (all := all) h0 s
   obtain ⟨W, hW, hw⟩ := g_val1 (E := E) (rec := rec) (all := all) (o := y) (by omega) s
   rw [hv s (.refl s)] at hT
   obtain ⟨d, hd, hd'⟩ := hV _ _ hT
   have := hw (s.put x.dst d) (AgreeG.put h1 s d s.tk) (put_tk _ _ _)
   rw [this] at hd
   obtain ⟨⟨e, tk⟩, he, he'⟩ := hW _ _ hd
   rw [hw s (.refl s) rfl]
   refine he' _ _ ?_
   try dsimp only at he
   rw [hv _ (AgreeG.put h3 s e tk)]
   refine hd' _ _ ?_
   try dsimp only
   rw [wtk_put, put_comm _ h2] at he
   exact he
 · have h0y : cls E y.op = 0 := by omega
   obtain ⟨V, hV, hv⟩ := g_val1 (E := E) (rec := rec) (all := all) (o := x) (by omega) s
   obtain ⟨W, hW, hw⟩ := g_val (rec := rec) (all := all) h0y s
   rw [hv s (.refl s) rfl] at hT
   obtain ⟨⟨d, tk⟩, hd, hd'⟩ := hV _ _ hT
   try dsimp only at hd
   rw [hw _ (AgreeG.put h1 s d tk)] at hd
   obtain ⟨e, he, he'⟩ := hW _ _ hd
   rw [hw s (.refl s)]
   refine he' _ _ ?_
   have := hv (s.put y.dst e) (AgreeG.put h3 s e s.tk) (put_tk _ _ _)
   rw [this]
   refine hd' _ _ ?_
   dsimp only
   rw [wtk_put]
   rw [put_comm _ h2] at he
   exact he
theorem gT_congr {all : List Oper} {o : Oper} {s : S} {K K' : S → T} (hK : ∀ s', runT E rec (K s') = some r → runT E rec (K' s') = some r)
  (hT : runT E rec (gT E all o s K) = some r) : runT E rec (gT E all o s K') = some r := by
 obtain ⟨s', -, hs, hs'⟩ := gT_par all o s _ _ hT
 exact hs' _ _ (hK _ hs)
theorem bring {all : List Oper} {o : Oper} {R2 : List Oper} {K : S → T} : ∀ (R1 : List Oper) (s : S), (∀ x ∈ R1, apart E all x o = true) → runT E rec (opsT E all (R1 ++ o :: R2) s K) = some r →
  runT E rec (opsT E all (o :: (R1 ++ R2)) s K) = some r
 | [], s, _, hT => hT
 | x :: R1, s, h, hT => by
   have hx := h x List.mem_cons_self
   rw [List.cons_append, opsT_cons] at hT
   have h1 := gT_congr (K' := fun s' => opsT E all (o :: (R1 ++ R2)) s' K) (fun s' hs' => bring R1 s' (fun y hy => h y (List.mem_cons_of_mem _ hy)) hs') hT
   rw [show (fun s' => opsT E all (o :: (R1 ++ R2)) s' K) = fun s' => gT E all o s' fun s2 => opsT E all (R1 ++ R2) s2 K from funext fun s' => opsT_cons ..] at h1
   have h2 := swap hx h1
   rw [opsT_cons]
   rw [show (fun s' => opsT E all (x :: R1 ++ R2) s' K) = fun s' => gT E all x s' fun s2 => opsT E all (R1 ++ R2) s2 K from funext fun s' => by rw [List.cons_append, opsT_cons]]
   exact h2
end
section
variable {P : Program} {E : Env} {F : Fx} {G : Gh} {s : S} {a : Act} {w : World} {o : Oper} {Q : Exit → Act → World → Prop} {rec : T → Option (X × S)} {r : X × S} {K : S → T}
theorem op_sound (hE : EnvOk P E) (hrec : Sound P E rec) (hdone : ∀ x s r, rec (.done x s) = some r → r = (x, s)) (hs : Sim F G s a w)
  (hT : runT E rec (opT E o s K) = some r) : o.wp P a w (After F G s w fun s' => runT E rec (K s') = some r) Q := by
 cases ho : o.op with
 | move x => exact move_sound hs (.inl ho) hT
 | assign x => exact move_sound hs (.inr ho) hT
 | pick c x y => exact pick_sound hs ho hT
 | alloc t => exact alloc_sound hE.ty hs ho hT
 | box t x => exact box_sound hs ho hT
 | build t ps => exact build_sound hE.ty hs ho hT
 | buildSlice t n ps => exact buildSlice_sound hE.ty hs ho hT
 | load t x => exact load_sound hE.ty hs ho hT
 | store t x y => exact store_sound hE.ty hs ho hT
 | nilCheck x => exact nilCheck_sound hs ho hT
 | binOp op t x y t' => exact binop_sound hE hs ho hT
 | unOp op t x => exact unop_sound hs ho hT
 | convert src dst x => exact convert_sound hE.ty hs ho hT
 | makeFunc fn fst cap => exact makeFunc_sound hs ho hT
 | makeSlice t l c => exact makeSlice_sound hE.ty hs ho hT
 | slice t x lo hi mx => exact slice_sound hE.ty hs ho hT
 | fieldAddr t x f => exact fieldAddr_sound hE.ty hs ho hT
 | field t x f => exact field_sound hE.ty hs ho hT
 | indexAddr t x i => exact indexAddr_sound hE.ty hs ho hT
 | index t x i => exact index_sound hE.ty hs ho hT
 | extract x i => exact extract_sound hs ho hT
 | call c =>
   cases hc : c.callee with
   | value g => exact call_sound hE hrec hdone hs ho hc hT
   | invoke rv m => simp [opT, ho, hc, runT] at hT
   | builtin b =>
     cases b with
     | len => exact len_sound hE.ty hs ho hc hT
     | append => exact append_sound hE.ty hs ho hc hT
     | _ => simp [opT, ho, hc, runT] at hT
 | _ => simp [opT, ho, runT] at hT
theorem yielded_eq {all : Array Oper} {tmps : Array Value} {j : Nat} {d : Tmp} {v : Bool} (hj : (all[j]?).bind (·.dst) = some d) (hv : tmps.getD d undef = .bool v) : yielded all tmps j = some v := by
 have h : tmps[d]? = some (.bool v) := by
  rw [Array.getD_eq_getD_getElem?] at hv
  cases hq : tmps[d]? with
  | none => rw [hq] at hv; simp [undef] at hv
  | some x => rw [hq] at hv; simp at hv; rw [hv]
 simp [yielded, hj, h]
theorem yielded_none {all : Array Oper} {tmps : Array Value} {j : Nat} {d : Tmp} (hj : (all[j]?).bind (·.dst) = some d) (hv : tmps.getD d undef = .tuple #[]) : yielded all tmps j = none := by
 rw [Array.getD_eq_getD_getElem?] at hv
 cases hq : tmps[d]? with
 | none => simp [yielded, hj, hq]
 | some x => rw [hq] at hv; simp at hv; simp [yielded, hj, hq, hv]
theorem skipped_eq : ∀ {d : D}, d.skipped = true → d = .tup []
 | .tup [], _ => rfl
 | .tup (_ :: _), h => by simp [D.skipped] at h
 | .int .., h | .bool _, h | .str _, h | .agg _, h | .sl .., h | .pel .., h | .asl .., h | .pba .., h | .pbx .., h | .pnil, h | .fn .., h | .junk, h => by simp [D.skipped] at h
theorem Rep.skip {F : Fx} {G : Gh} {tk : List Nat} {w : World} : Rep F G tk w (.tup []) undef := .dat (.tup [] #[] rfl (by simp) (by simp)) (.of_free rfl)
theorem Rep.skip_inv {F : Fx} {G : Gh} {tk : List Nat} {w : World} {v : Value} (h : Rep F G tk w (.tup []) v) : v = .tuple #[] := by
 cases h with
 | dat h _ =>
   cases h with
   | tup _ vs hl _ _ =>
     have : vs = #[] := Array.eq_empty_of_size_eq_zero (by simpa using hl)
     rw [this]
theorem ops_sound (hE : EnvOk P E) (hrec : Sound P E rec) (hdone : ∀ x s r, rec (.done x s) = some r → r = (x, s)) (all : List Oper) {C : S → Prop} : ∀ (l : List Oper) (s : S) (G : Gh) (a : Act) (w : World), Sim F G s a w →
  runT E rec (opsT E all l s K) = some r → (∀ G' s' a' w', runT E rec (K s') = some r → Sim F G' s' a' w' → Q .normal a' w') → wpList P all.toArray Q l a w
 | [], s, G, a, w, hs, hT, hQ => wpList_nil (hQ G s a w hT hs)
 | o :: l, s, G, a, w, hs, hT, hQ => by
   refine wpList_step fun Kc hK => ?_
   simp only [opsT] at hT
   have hgo : ∀ s0, Sim F G s0 a w → runT E rec (opT E o s0 fun s' => opsT E all l s' K) = some r → o.wp P a w Kc Q := fun s0 hs0 h => by
    refine Oper.wp_mono ?_ (op_sound (Q := Q) hE hrec hdone hs0 h)
    rintro a' w' ⟨G', s', h1, h2⟩
    exact hK _ _ (ops_sound hE hrec hdone all (C := C) l s' G' a' w' h2 h1 hQ)
   split at hT
   · rename_i hg
     rw [if_pos (by simp [Region.wanted, hg])]
     exact hgo s hs hT
   · rename_i j want hg
     split at hT
     · rename_i d hd
       split at hT
       · rename_i v hv
         have hev := hs.ev (.tmp d)
         simp only [S.ev, hv] at hev
         have hb := hev.bool_inv
         have hy : yielded all.toArray a.tmps j = some v := yielded_eq (by simpa using hd) hb
         have hw : Region.wanted o (yielded all.toArray a.tmps) = (v == want) := by
          simp only [Region.wanted, hg, hy]
          cases v <;> cases want <;> rfl
         rw [hw]
         simp only [runT] at hT
         split at hT
         · rename_i hvw
           rw [if_pos hvw]
           exact hgo s hs hT
         · rename_i hvw
           rw [if_neg hvw]
           exact hK _ _ (ops_sound hE hrec hdone all (C := C) l _ G _ w (hs.put o.dst .skip) hT hQ)
       · split at hT
         · rename_i hsk
           have hev := hs.ev (.tmp d)
           simp only [S.ev, skipped_eq hsk] at hev
           have hy : yielded all.toArray a.tmps j = none := yielded_none (by simpa using hd) hev.skip_inv
           rw [if_neg (by simp [Region.wanted, hg, hy])]
           exact hK _ _ (ops_sound hE hrec hdone all (C := C) l _ G _ w (hs.put o.dst .skip) hT hQ)
         · simp [runT] at hT
     · simp [runT] at hT
end
section
variable {P : Program} {E : Env} {F : Fx} {G : Gh} {s : S} {a : Act} {w : World} {Q : Exit → Act → World → Prop} {rec : T → Option (X × S)} {r : X × S} {K : S → T}
def left (n : Nat) (listed : Array Bool) : List Nat := (List.range n).filter fun i => !listed.getD i true
theorem range_ops (all : List Oper) : ∀ k, (List.range k).filterMap (all[·]?) = all.take k
 | 0 => by simp
 | k + 1 => by
   rw [List.range_succ, List.filterMap_append, range_ops all k, List.take_add_one]
   congr 1
theorem mem_left {n i : Nat} {listed : Array Bool} : i ∈ left n listed ↔ i < n ∧ listed.getD i true = false := by
 simp [left]
theorem gT_sound (hE : EnvOk P E) (hrec : Sound P E rec) (hdone : ∀ x s r, rec (.done x s) = some r → r = (x, s)) {all : Array Oper} {i : Nat} {o : Oper} (ho : all[i]? = some o) (hs : Sim F G s a w)
  (hT : runT E rec (gT E all.toList o s K) = some r) {Kc : Act → World → Prop} (hK : ∀ G' s' a' w', Sim F G' s' a' w' → runT E rec (K s') = some r → Kc a' w') : wpOp P all Q i Kc a w := by
 unfold wpOp
 simp only [ho]
 have hgo : ∀ s0, Sim F G s0 a w → runT E rec (opT E o s0 K) = some r → o.wp P a w Kc Q := fun s0 hs0 h => by
  refine Oper.wp_mono ?_ (op_sound (Q := Q) hE hrec hdone hs0 h)
  rintro a' w' ⟨G', s', h1, h2⟩
  exact hK G' s' a' w' h2 h1
 unfold gT at hT
 split at hT
 · rename_i hg
   rw [if_pos (by simp [Region.wanted, hg])]
   exact .inl (hgo s hs hT)
 · rename_i j want hg
   split at hT
   · rename_i d hd
     split at hT
     · rename_i v hv
       have hev := hs.ev (.tmp d)
       simp only [S.ev, hv] at hev
       have hb := hev.bool_inv
       have hy : yielded all a.tmps j = some v := yielded_eq (by simpa using hd) hb
       have hw : Region.wanted o (yielded all a.tmps) = (v == want) := by
        simp only [Region.wanted, hg, hy]
        cases v <;> cases want <;> rfl
       rw [hw]
       simp only [runT] at hT
       split at hT
       · rename_i hvw
         rw [if_pos hvw]
         exact .inl (hgo s hs hT)
       · rename_i hvw
         rw [if_neg hvw]
         exact hK G _ _ _ (hs.put o.dst .skip) hT
     · split at hT
       · rename_i hsk
         have hev := hs.ev (.tmp d)
         simp only [S.ev, skipped_eq hsk] at hev
         have hy : yielded all a.tmps j = none := yielded_none (by simpa using hd) hev.skip_inv
         rw [if_neg (by simp [Region.wanted, hg, hy])]
         exact hK G _ _ _ (hs.put o.dst .skip) hT
       · simp [runT] at hT
   · simp [runT] at hT
structure Drawable (E : Env) (ops : List Oper) (ah : List (List Nat)) : Prop where
 low : ∀ i o, ops[i]? = some o → ∀ e ∈ o.after, Region.binds .any e = true → e.on < i
 why : ∀ i o, ops[i]? = some o → ∀ j ∈ ah.getD i [], ∃ e ∈ o.after, Region.binds .any e = true ∧ (e.on = j ∨ j ∈ ah.getD e.on [])
 pair : ∀ i o, ops[i]? = some o → ∀ j x, j < i → ops[j]? = some x → j ∈ ah.getD i [] ∨ apart E ops x o = true
def ahL (ops : List Oper) : List (List Nat) := (aheadB ops).map fun m => (List.range ops.length).filter fun j => Nat.testBit m j
theorem mem_ahL {ops : List Oper} {i j : Nat} : j ∈ (ahL ops).getD i [] ↔ j < ops.length ∧ Nat.testBit ((aheadB ops).getD i 0) j = true := by
 unfold ahL
 rw [List.getD_eq_getElem?_getD, List.getD_eq_getElem?_getD, List.getElem?_map]
 cases (aheadB ops)[i]? with
 | none => simp
 | some m => simp
theorem drawOk_spec {ops : List Oper} (h : drawOk0 E ops = true) : Drawable E ops (ahL ops) := by
 unfold drawOk0 at h
 have hall : ∀ i o, ops[i]? = some o → _ := fun i o ho => List.all_eq_true.1 h (o, i) (by
  rw [List.mem_zipIdx_iff_getElem?]; exact ho)
 refine ⟨fun i o ho e he hb => ?_, fun i o ho j hj => ?_, fun i o ho j x hj hx => ?_⟩
 · have := hall i o ho
   simp only [Bool.and_eq_true] at this
   have := List.all_eq_true.1 this.1.1 e (by simpa using he)
   simpa [hb] using this
 · have := hall i o ho
   simp only [Bool.and_eq_true] at this
   obtain ⟨h1, h2⟩ := mem_ahL.1 hj
   have := List.all_eq_true.1 this.1.2 j (List.mem_range.2 h1)
   rw [h2, Bool.not_true, Bool.false_or] at this
   obtain ⟨e, he, hb⟩ := List.any_eq_true.1 this
   simp only [Bool.and_eq_true, Bool.or_eq_true, beq_iff_eq] at hb
   exact ⟨e, by simpa using he, hb.1, hb.2.imp id fun q => mem_ahL.2 ⟨h1, q⟩⟩
 · have := hall i o ho
   simp only [Bool.and_eq_true] at this
   have := List.all_eq_true.1 this.2 j (by simpa using hj)
   rw [hx, Bool.or_eq_true] at this
   exact this.imp (fun q => mem_ahL.2 ⟨(List.getElem?_eq_some_iff.1 hx).1, q⟩) id
theorem drawn_sound (hE : EnvOk P E) (hrec : Sound P E rec) (hdone : ∀ x s r, rec (.done x s) = some r → r = (x, s)) (all : Array Oper) {ah : List (List Nat)} (hd : Drawable E all.toList ah)
  (hQ : ∀ G' s' a' w', runT E rec (K s') = some r → Sim F G' s' a' w' → Q .normal a' w') : ∀ (fuel : Nat) (listed : Array Bool) (s : S) (G : Gh) (a : Act) (w : World),
  listed.size = all.size → (∀ i, listed.getD i false = true → ∀ j ∈ ah.getD i [], listed.getD j false = true) → fuel = (left all.size listed).length → Sim F G s a w →
  runT E rec (opsT E all.toList ((left all.size listed).filterMap (all.toList[·]?)) s K) = some r → wpAny P .any all Q fuel listed a w := by
 have hor : ∀ (listed : Array Bool) i, i < listed.size → listed.getD i true = listed.getD i false := fun l i hi => by
  simp [Array.getD_eq_getD_getElem?, Array.getElem?_eq_getElem hi]
 have hleft : ∀ listed : Array Bool, ∀ i ∈ Region.ready .any all listed, i ∈ left all.size listed := fun listed i hi => by
  obtain ⟨h1, o, ho, _⟩ := mem_ready.1 hi
  exact mem_left.2 ⟨(Array.getElem?_eq_some_iff.1 ho).1, h1⟩
 intro fuel
 induction fuel with
 | zero =>
   intro listed s G a w hsz hcl hf hs hT
   have h0 : left all.size listed = [] := List.length_eq_zero_iff.1 hf.symm
   refine ⟨List.eq_nil_iff_forall_not_mem.2 fun i hi => ?_, ?_⟩
   · have := hleft listed i hi
     rw [h0] at this
     cases this
   · rw [h0] at hT
     exact hQ G s a w hT hs
 | succ fuel ih =>
   intro listed s G a w hsz hcl hf hs hT
   have hsort : (left all.size listed).Pairwise (· < ·) := List.Pairwise.filter _ List.pairwise_lt_range
   refine ⟨fun h0 => ?_, fun i hi => ?_⟩
   · exfalso
     cases hl : left all.size listed with
     | nil => rw [hl] at hf; simp at hf
     | cons i R =>
       have him : i ∈ left all.size listed := by rw [hl]; exact List.mem_cons_self
       obtain ⟨hin, hi0⟩ := mem_left.1 him
       have hmem : i ∈ Region.ready .any all listed := by
        refine mem_ready.2 ⟨hi0, all[i], Array.getElem?_eq_getElem hin, fun e he hb => ?_⟩
        have hlt := hd.low i all[i] (by simp) e he hb
        have hnot : e.on ∉ left all.size listed := fun hm => by
         rw [hl] at hm hsort
         rcases List.mem_cons.1 hm with h | h
         · omega
         · have := (List.pairwise_cons.1 hsort).1 _ h; omega
        have : ¬(listed.getD e.on true = false) := fun h => hnot (mem_left.2 ⟨by omega, h⟩)
        rw [hor listed e.on (by omega)] at this
        simpa using this
       rw [h0] at hmem
       cases hmem
   · have him := hleft listed i hi
     obtain ⟨h1, o, ho, hedge⟩ := mem_ready.1 hi
     obtain ⟨R1, R2, hR⟩ := List.append_of_mem him
     have hin := (mem_left.1 him).1
     have hoL : all.toList[i]? = some o := by simpa using ho
     have hlt : ∀ j ∈ R1, j < i := fun j hj => by
      rw [hR] at hsort
      exact (List.pairwise_append.1 hsort).2.2 j hj i List.mem_cons_self
     have hap : ∀ x ∈ R1.filterMap (all.toList[·]?), apart E all.toList x o = true := fun x hx => by
      obtain ⟨j, hj, hjx⟩ := List.mem_filterMap.1 hx
      rcases hd.pair i o hoL j x (hlt j hj) hjx with h | h
      · exfalso
        obtain ⟨e, he, hb, h⟩ := hd.why i o hoL j h
        have hlisted := hedge e he hb
        have hjl : listed.getD j false = true := by
         rcases h with h | h
         · rw [← h]; exact hlisted
         · exact hcl _ hlisted _ h
        have hjm : j ∈ left all.size listed := by rw [hR]; exact List.mem_append_left _ hj
        have := (mem_left.1 hjm)
        rw [hor listed j (by omega)] at this
        rw [this.2] at hjl
        cases hjl
      · exact h
     rw [hR, List.filterMap_append, List.filterMap_cons_some hoL] at hT
     have hT2 := bring _ s hap hT
     rw [opsT_cons] at hT2
     refine gT_sound hE hrec hdone ho hs hT2 fun G' s' a' w' hs' hT' => ?_
     have hnew : left all.size (listed.setIfInBounds i true) = R1 ++ R2 := by
      have : left all.size (listed.setIfInBounds i true) = (left all.size listed).filter fun j => j != i := by
       simp only [left, List.filter_filter]
       refine List.filter_congr fun j hj => ?_
       by_cases hji : j = i
       · subst hji
         simp only [Array.getD_eq_getD_getElem?, Array.getElem?_setIfInBounds]
         have : j < listed.size := by rw [hsz]; exact hin
         simp [this]
       · simp only [Array.getD_eq_getD_getElem?, Array.getElem?_setIfInBounds, Ne.symm hji, if_false]
         simp [hji]
      rw [this, hR]
      have hnd := hsort
      rw [hR] at hnd
      have h1 : ∀ j ∈ R1, (j != i) = true := fun j hj => by have := hlt j hj; simp; omega
      have h2 : ∀ j ∈ R2, (j != i) = true := fun j hj => by
       have := (List.pairwise_cons.1 (List.pairwise_append.1 hnd).2.1).1 j hj
       simp; omega
      rw [List.filter_append, List.filter_cons_of_neg (by simp), List.filter_eq_self.2 h1, List.filter_eq_self.2 h2]
     refine ih _ s' G' a' w' (by simpa using hsz) ?_ ?_ hs' ?_
     · intro k hk j hj
       have hget : ∀ m, listed.getD m false = true → (listed.setIfInBounds i true).getD m false = true := fun m hm => getD_set_true hm
       by_cases hki : k = i
       · subst hki
         obtain ⟨e, he, hb, h⟩ := hd.why k o hoL j hj
         refine hget _ ?_
         rcases h with h | h
         · rw [← h]; exact hedge e he hb
         · exact hcl _ (hedge e he hb) _ h
       · refine hget _ (hcl k ?_ j hj)
         rw [getD_set_ne false (Ne.symm hki)] at hk
         exact hk
     · rw [hnew]
       rw [hR] at hf
       simp at hf ⊢
       omega
     · rw [hnew, List.filterMap_append]; exact hT'
theorem left_start (n : Nat) : left n (Array.replicate n false) = List.range n := by
 refine List.filter_eq_self.2 fun i hi => ?_
 have : i < n := by simpa using hi
 simp [Array.getD_eq_getD_getElem?, this]
end
section
variable {P : Program} {E : Env} {F : Fx} {G : Gh} {s : S} {a : Act} {w : World} {tk : List Nat}
def D.noref : D → Bool
 | .pbx .. | .pba .. | .asl .. | .fn .. | .pel .. => false
 | _ => true
inductive NF (n : Nat) : D → Prop
 | dat (d) (h : d.noref = true) : NF n d
 | pel (cs off) (h : ∀ c ∈ cs, D.noref c = true) : NF n (.pel cs off)
 | pbx (r off) (h : ∀ i, r = .loc i → i < n) : NF n (.pbx r off)
 | pba (r z j off) (h : ∀ i, r = .loc i → i < n) : NF n (.pba r z j off)
 | asl (r z m) (h : ∀ i, r = .loc i → i < n) : NF n (.asl r z m)
 | fn (f cap) (h : ∀ i, i < cap.length → NF n (cap.getD i .junk)) : NF n (.fn f cap)
theorem cell_noref {d : D} (h : d.cell = true) : d.noref = true := by
 cases d <;> first | rfl | simp [D.cell] at h
theorem place_lt {r : Ref} {p : Pl} (h : place F G r = some p) : ∀ i, r = .loc i → i < G.loc.length := by
 rintro i rfl
 exact (List.getElem?_eq_some_iff.1 h).1
theorem Rep.nf {d : D} {v : Value} (h : Rep F G tk w d v) : NF G.loc.length d := by
 induction h with
 | junk v => exact .dat _ rfl
 | dat hd _ => cases hd <;> exact .dat _ rfl
 | pel cs off b p f hs hc hw hh => exact .pel _ _ fun c hcm => cell_noref (hc c hcm)
 | asl r z n cap b o hp hn => exact .asl _ _ _ (place_lt hp)
 | pba r z i off b o n hp hi => exact .pba _ _ _ _ (place_lt hp)
 | pbx r off b o z n hp => exact .pbx _ _ (place_lt hp)
 | fn f cap vs hl _ ih => exact .fn f cap ih
theorem atom_noref {d : D} (h : d.atom = true) : d.noref = true := by
 cases d <;> first | rfl | simp [D.atom] at h
theorem Rep.reloc {n : Nat} {l : List Pl} (hl : ∀ i p, i < n → G.loc[i]? = some p → l[i]? = some p) {d : D} {v : Value} (h : Rep F G tk w d v) : NF n d → Rep F ⟨l, G.tkb, G.ice⟩ tk w d v := by
 have hp : ∀ {r : Ref} {p : Pl}, (∀ i, r = .loc i → i < n) → place F G r = some p → place F ⟨l, G.tkb, G.ice⟩ r = some p := fun {r p} h1 h2 => by
  cases r with
  | loc i => exact hl i p (h1 i rfl) h2
  | out i => exact h2
 induction h with
 | junk v => exact fun _ => .junk v
 | dat hd ht => rename_i d v; exact fun _ => .dat hd (by cases d <;> exact ht)
 | pel cs off b p f h1 h2 h3 h4 => exact fun _ => .pel cs off b p f h1 h2 h3 h4
 | asl r z m cap b o h1 h2 =>
   intro hn
   cases hn with
   | dat _ h => simp [D.noref] at h
   | asl _ _ _ h => exact .asl _ z m cap b o (hp h h1) h2
 | pba r z i off b o m h1 h2 =>
   intro hn
   cases hn with
   | dat _ h => simp [D.noref] at h
   | pba _ _ _ _ h => exact .pba _ z i off b o m (hp h h1) h2
 | pbx r off b o z m h1 =>
   intro hn
   cases hn with
   | dat _ h => simp [D.noref] at h
   | pbx _ _ h => exact .pbx _ off b o z m (hp h h1)
 | fn f cap vs hl' hh ih =>
   intro hn
   cases hn with
   | dat _ h => simp [D.noref] at h
   | fn _ _ h => exact .fn f cap vs hl' fun i hi => ih i hi (h i hi)
theorem BoxR.reloc {n : Nat} {l : List Pl} (hl : ∀ i p, i < n → G.loc[i]? = some p → l[i]? = some p) {es : Box} {p : Pl} (h : BoxR F G tk w es p) : BoxR F ⟨l, G.tkb, G.ice⟩ tk w es p := by
 obtain ⟨h1, h2, h3, h4, h5⟩ := h
 refine ⟨h1, h2, h3, h4, fun i j hi hj => ?_⟩
 obtain ⟨v, e1, e2, e3⟩ := h5 i j hi hj
 refine ⟨v, e1, e2, e3.reloc hl (.dat _ (atom_noref ?_))⟩
 have hm : es.getD i [] ∈ es := by rw [List.getD_eq_getElem?_getD, List.getElem?_eq_getElem hi]; exact List.getElem_mem hi
 exact h4 _ hm _ (mem_getD (by rw [h3 _ hm]; exact hj))
theorem two_of_len {α : Type} : ∀ {l : List α} {n : Nat}, l.length = n + 2 → ∃ m p q, l = m ++ [p, q] ∧ m.length = n := fun {l n} h => by
 refine ⟨l.take n, l[n]'(by omega), l[n+1]'(by omega), ?_, by simp; omega⟩
 apply List.ext_getElem
 · simp; omega
 · intro i h1 h2
   by_cases hi : i < n
   · rw [List.getElem_append_left (by simp; omega)]; simp
   · rw [List.getElem_append_right (by simp; omega)]
     have : i = n ∨ i = n + 1 := by omega
     rcases this with rfl | rfl
     · simp [Nat.min_eq_left (by omega : i ≤ l.length)]
     · simp [Nat.min_eq_left (by omega : n ≤ l.length)]
theorem Sim.flip {L : List Box} {b1 b2 : Box} (hs : Sim F G s a w) (hl : s.loc = L ++ [b1, b2]) (t' : List D) (ht : t'.length = s.t.length)
  (htr : ∀ i, i < s.t.length → (NF L.length (s.t.getD i .junk) ∧ t'.getD i .junk = s.t.getD i .junk) ∨ (s.t.getD i .junk = .pbx (.loc L.length) 0 ∧ t'.getD i .junk = .pbx (.loc (L.length + 1)) 0) ∨
   (s.t.getD i .junk = .pbx (.loc (L.length + 1)) 0 ∧ t'.getD i .junk = .pbx (.loc L.length) 0)) :
  ∃ G', Sim F G' { s with loc := L ++ [b2, b1], t := t' } a w := by
 have hi := hs.inv
 have hf := hi.fr
 obtain ⟨GL, p1, p2, hG, hGL⟩ := two_of_len (l := G.loc) (n := L.length) (by rw [hi.locLen, hl]; simp)
 have h1 : ∀ {α : Type} (l : List α) (x y : α), (l ++ [x, y])[l.length]? = some x := fun l x y => by simp
 have h2 : ∀ {α : Type} (l : List α) (x y : α), (l ++ [x, y])[l.length + 1]? = some y := fun l x y => by
  rw [List.getElem?_append_right (by omega)]; simp
 have hlt : ∀ {α : Type} (l : List α) (x y x' y' : α) (i : Nat), i < l.length → (l ++ [x, y])[i]? = (l ++ [x', y'])[i]? := fun l x y x' y' i hi => by
  rw [List.getElem?_append_left hi, List.getElem?_append_left hi]
 have hold : ∀ i p, i < L.length → G.loc[i]? = some p → (GL ++ [p2, p1])[i]? = some p := fun i p hi h => by
  rw [hG] at h
  rw [hlt GL p2 p1 p1 p2 i (by omega)]; exact h
 have hperm : (GL ++ [p2, p1]).Perm G.loc := by rw [hG]; exact List.Perm.append_left _ (List.Perm.swap _ _ _)
 have hbl : (blocks F ⟨GL ++ [p2, p1], G.tkb, G.ice⟩).Perm (blocks F G) := by
  simp only [blocks]
  exact List.Perm.append_left _ (List.Perm.append_right _ (hperm.map _))
 have hb1 := hi.boxL L.length b1 p1 (by rw [hl]; exact h1 _ _ _) (by rw [hG, ← hGL]; exact h1 _ _ _)
 have hb2 := hi.boxL (L.length + 1) b2 p2 (by rw [hl]; exact h2 _ _ _) (by rw [hG, ← hGL]; exact h2 _ _ _)
 refine ⟨⟨GL ++ [p2, p1], G.tkb, G.ice⟩, ⟨by simp [hGL], hi.outLen, fun i es p e1 e2 => ?_, fun i es p e1 e2 => (hi.boxO i es p e1 e2).reloc hold, hbl.nodup_iff.2 hi.nd, fun b hb => hi.live b (hbl.mem_iff.1 hb), fun p hp => hi.locNew p (hperm.mem_iff.1 hp), hi.tkLen, hi.tkNew, hi.tkOld,
  fun p hp => hi.iceBox p ?_, hi.iceBig, ⟨hf.os, hf.tape, hf.output, hf.size, hf.same, hf.ext0, hf.ice⟩⟩, ⟨by simp only [ht]; exact hs.tmp.1, fun i hi' => ?_⟩, hs.def0⟩
 · simp only at e1 e2
   by_cases h : i < L.length
   · rw [hlt L b2 b1 b1 b2 i h, ← hl] at e1
     rw [hlt GL p2 p1 p1 p2 i (by omega), ← hG] at e2
     exact (hi.boxL i es p e1 e2).reloc hold
   · have hlen : i < L.length + 2 := by
       have := (List.getElem?_eq_some_iff.1 e1).1
       simpa using this
     have : i = L.length ∨ i = L.length + 1 := by omega
     rcases this with rfl | rfl
     · rw [h1] at e1
       rw [← hGL, h1] at e2
       cases e1; cases e2
       exact hb2.reloc hold
     · rw [h2] at e1
       rw [← hGL, h2] at e2
       cases e1; cases e2
       exact hb1.reloc hold
 · rcases List.mem_append.1 hp with hp | hp
   · exact List.mem_append_left _ hp
   · exact List.mem_append_right _ (hperm.mem_iff.1 hp)
 · simp only [ht] at hi'
   simp only
   have hr := hs.tmp.2 i hi'
   rcases htr i hi' with ⟨e1, e2⟩ | ⟨e1, e2⟩ | ⟨e1, e2⟩
   · rw [e2]; exact hr.reloc hold e1
   · rw [e2]
     rw [e1] at hr
     revert hr
     generalize a.tmps.getD i undef = vv
     intro hr
     cases hr with
     | dat h _ => cases h
     | pbx _ _ b o z m hp =>
       have : place F ⟨GL ++ [p2, p1], G.tkb, G.ice⟩ (.loc (L.length + 1)) = some ⟨b, o, z, m⟩ := by
        simp only [place] at hp ⊢
        rw [hG, ← hGL, h1] at hp
        rw [← hGL, h2]; exact hp
       exact .pbx _ _ b o z m this
   · rw [e2]
     rw [e1] at hr
     revert hr
     generalize a.tmps.getD i undef = vv
     intro hr
     cases hr with
     | dat h _ => cases h
     | pbx _ _ b o z m hp =>
       have : place F ⟨GL ++ [p2, p1], G.tkb, G.ice⟩ (.loc L.length) = some ⟨b, o, z, m⟩ := by
        simp only [place] at hp ⊢
        rw [hG, ← hGL, h2] at hp
        rw [← hGL, h1]; exact hp
       exact .pbx _ _ b o z m this
end
end Go.Mach
