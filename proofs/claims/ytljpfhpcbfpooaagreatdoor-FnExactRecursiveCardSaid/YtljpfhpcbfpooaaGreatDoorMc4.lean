/- What the statements share: part 4 of a proof by an executable machine over the program's code. -/
import Derived.Test.YtljpfhpcbfpooaaGreatDoorMc3
set_option linter.unusedVariables false
set_option linter.unusedSimpArgs false
namespace Go.Mach
open Go Go.RowKit
section
variable {P : Program} {E : Env} {F : Fx} {G : Gh} {s : S} {a : Act} {w : World} {o : Oper} {Q : Exit → Act → World → Prop} {rec : T → Option (X × S)} {r : X × S} {K : S → T}
theorem run_app_fit {t tx ty e e' : TypeId} {ie : TypeInfo} (ht : P.underlying t = some (.slice e)) (htx : P.underlying tx = some (.slice e')) (hi : P.info? e = some ie) (bad xad : Option Addr) (sLen sCap n xc : Nat) (news : List Value)
  (hx : (Builtin.firstCells ie.size n (.slice xad n xc)).run P w = .ok news.toArray w) (hfit : sLen + n ≤ sCap) (w' : World)
  (hst : ∀ ad, bad = some ad → (storeCells (ad.add (sLen * ie.size)) news).run P w = .ok () w') (hno : bad = none → w' = w) :
  (Builtin.append_ #[t, tx] ty #[.slice bad sLen sCap, .slice xad n xc]).run P w = .ok (.slice bad (sLen + n) sCap) w' := by
 cases bad with
 | none =>
   have := hno rfl
   subst this
   simp [Builtin.append_, run_underlying ht, run_underlying htx, sizeOf, typeInfo, hi, Builtin.lenOf, hfit, hx]
 | some ad =>
   have := hst ad rfl
   simp [Builtin.append_, run_underlying ht, run_underlying htx, sizeOf, typeInfo, hi, Builtin.lenOf, hfit, hx, this]
theorem run_app_grow {t tx ty e e' : TypeId} {ie : TypeInfo} {zv : Value} (ht : P.underlying t = some (.slice e)) (htx : P.underlying tx = some (.slice e')) (hi : P.info? e = some ie) (hz : ie.zero = some zv) (bad xad : Option Addr) (sLen sCap n xc : Nat) (olds news : List Value)
  (hx : ∀ w', w'.heap = w.heap → (Builtin.firstCells ie.size n (.slice xad n xc)).run P w' = .ok news.toArray w') (ho : ∀ w', w'.heap = w.heap → (Builtin.firstCells ie.size sLen (.slice bad sLen sCap)).run P w' = .ok olds.toArray w')
  (hg : sCap < sLen + n) (h63 : sLen + n ≤ 2 ^ 62) (hfit : Builtin.nextslicecap (sLen + n) sCap * ie.bytes ≤ 281474976710656) :
  (Builtin.append_ #[t, tx] ty #[.slice bad sLen sCap, .slice xad n xc]).run P w =
   .ok (.slice (some ⟨w.heap.size, 0, none⟩) (sLen + n) (grownCap w (sLen + n) sCap e)) (w.drew.alloc (.cells (olds.toArray ++ news.toArray ++ Builtin.zeroCells zv.cells (grownCap w (sLen + n) sCap e - (sLen + n))) e)) := by
 have hn : ¬ (sLen + n ≤ sCap) := by omega
 have h63' : ¬ (9223372036854775807 < ((sLen : Int) + (n : Int))) := by omega
 have h48' : ¬ (281474976710656 < Builtin.nextslicecap (sLen + n) sCap * ie.bytes) := by omega
 have hf := hx w.drew rfl
 have hfo := ho w.drew rfl
 simp [Builtin.append_, run_underlying ht, run_underlying htx, sizeOf, typeInfo, zeroValue, hi, hz, Builtin.lenOf, hn, h63', h48', Question.forced, hf, hfo, newRow, grownCap]
 congr 2
 apply Array.ext'
 simp [List.append_assoc]
theorem grown_ge {w : World} {need old : Nat} {e : TypeId} : need ≤ grownCap w need old e := by
 unfold grownCap Question.cut
 simp only
 omega
theorem row_read {σ : Nat → Nat} {t : Tok} {z z' : Nat} {es : Box} {v : Value} (hr : RD σ w (.sl t z' es) v) (hz : 0 < z) (hzz : z' = z ∨ es = []) : ∃ (ad : Option Addr) (cap : Nat) (news : List Value), v = .slice ad es.length cap ∧ es.length ≤ cap ∧ news.length = es.length * z ∧
  (∀ w' : World, w'.heap = w.heap → (Builtin.firstCells z es.length v).run P w' = .ok news.toArray w') ∧ (ad = none → cap = 0) ∧
  (∀ i j, i < es.length → j < z → RD σ w ((es.getD i []).getD j .junk) (news.getD (i * z + j) undef)) ∧ (∀ e ∈ es, e.length = z) ∧ (∀ e ∈ es, ∀ c ∈ e, D.cell c = true) ∧ (∀ b o : Nat, ad = some ⟨b, o, none⟩ → ∀ k, k < es.length * z → w.cell? ⟨b, o + k, none⟩ = some (news.getD k undef)) := by
 cases hr with
 | slN => exact ⟨none, 0, [], rfl, by simp, by simp, fun w' _ => run_firstCells_none w' _ _ _ _, fun _ => rfl, fun i j hi => by simp at hi, by simp, by simp, by simp⟩
 | sl _ _ _ b o cap f ht hz' hl hc hcap hs hw hh =>
   by_cases he : es = []
   · subst he
     refine ⟨_, cap, [], rfl, by simp, by simp, fun w' _ => ?_, by simp, fun i j hi => by simp at hi, by simp, by simp, by simp⟩
     exact run_firstCells_some w' z 0 _ _ _ [] (by simp) (by simp)
   · have hzz' : z' = z := hzz.resolve_right he
     subst hzz'
     have hidx : ∀ k, k < es.length * z' → k / z' < es.length ∧ k % z' < z' ∧ k / z' * z' + k % z' = k := fun k hk =>
      ⟨(Nat.div_lt_iff_lt_mul hz').2 hk, Nat.mod_lt _ hz', by rw [Nat.mul_comm]; exact Nat.div_add_mod k z'⟩
     refine ⟨_, cap, (List.range (es.length * z')).map (fun k => f (k / z') (k % z')), rfl, hcap, by simp, fun w' hh' => ?_, by simp, fun i j hi hj => ?_, hl, hc, fun b1 o1 hbo k hk => ?_⟩
     · refine run_firstCells_some w' z' es.length _ _ _ _ (by simp) (fun j v hv => ?_)
       rw [List.getElem?_map] at hv
       have hj : j < es.length * z' := by
        rcases Nat.lt_or_ge j (es.length * z') with h | h
        · exact h
        · rw [List.getElem?_eq_none (by simpa using h)] at hv; cases hv
       rw [List.getElem?_range hj] at hv
       injection hv with hv
       obtain ⟨h1, h2, h3⟩ := hidx j hj
       have hv' : f (j / z') (j % z') = v := hv
       have := hw _ _ h1 h2
       rw [Nat.add_assoc, h3, hv'] at this
       rw [Addr.add_mid]
       unfold World.cell? at this ⊢
       rw [hh']; exact this
     · have hlt : i * z' + j < es.length * z' := by
         have : (i + 1) * z' ≤ es.length * z' := Nat.mul_le_mul_right _ hi
         rw [Nat.succ_mul] at this; omega
       have e1 : (i * z' + j) / z' = i := by
        rw [Nat.mul_comm, Nat.mul_add_div hz', Nat.div_eq_of_lt hj]; omega
       have e2 : (i * z' + j) % z' = j := by
        rw [Nat.mul_comm, Nat.mul_add_mod]; exact Nat.mod_eq_of_lt hj
       have : ((List.range (es.length * z')).map (fun k => f (k / z') (k % z'))).getD (i * z' + j) undef = f i j := by
        simp [List.getD_eq_getElem?_getD, hlt, e1, e2]
       rw [this]
       exact hh i j hi hj
     · injection hbo with hbo
       injection hbo with q1 q2
       subst q1 q2
       obtain ⟨h1, h2, h3⟩ := hidx k hk
       have := hw _ _ h1 h2
       rw [Nat.add_assoc, h3] at this
       rw [this]
       simp [List.getD_eq_getElem?_getD, hk]
theorem drew_heap (w : World) : w.drew.heap = w.heap := rfl
theorem RD.heap {σ : Nat → Nat} {w w' : World} (h : w'.heap = w.heap) {d v} (hr : RD σ w d v) : RD σ w' d v :=
 hr.mono (fun _ => Nat.le_refl _) (fun b o _ => by unfold World.cell?; rw [h])
theorem ext_heap {tk} (G : Gh) {w w' : World} (h : w'.heap = w.heap) : Ext G tk w G tk w' :=
 ⟨fun _ _ h => h, fun _ => Nat.le_refl _, fun b o _ => by unfold World.cell?; rw [h], fun b o _ hz => by unfold World.frozen? at *; rw [h]; exact hz, fun i n hn => ⟨n, hn, Nat.le_refl _, fun _ b hb => ⟨hb, rfl, fun c e hc => ⟨c, by rw [h]; exact hc, rfl⟩⟩⟩⟩
theorem Sim.drew (hs : Sim F G s a w) : Sim F G s a w.drew := by
 have hx := fun G : Gh => ext_heap (tk := s.tk) G (drew_heap w)
 have hi := hs.inv
 have hf := hi.fr
 refine ⟨⟨hi.locLen, hi.outLen, fun i es p h1 h2 => (hi.boxL i es p h1 h2).ext (hx G) fun _ _ _ _ => ⟨rfl, rfl⟩, fun i es p h1 h2 => (hi.boxO i es p h1 h2).ext (hx G) fun _ _ _ _ => ⟨rfl, rfl⟩, hi.nd, hi.live, hi.locNew, hi.tkLen, hi.tkNew, hi.tkOld, hi.iceBox, hi.iceBig,
  ⟨hf.os, hf.tape, ⟨hf.output.1, Nat.le_succ_of_le hf.output.2⟩, hf.size, hf.same, hf.ext0.trans (hx _), hf.ice⟩⟩, hs.tmp.ext (hx G), hs.def0⟩
def Gh.tok (G : Gh) (l : List Nat) : Gh := { G with tkb := l }
theorem Sim.addTok (hs : Sim F G s a w) (b n : Nat) (hnew : ∀ k ∈ blocks F G, k ≠ b) (hlt : b < w.heap.size) (hbase : F.base ≤ b) : Sim F (G.tok (G.tkb ++ [b])) { s with tk := s.tk ++ [n] } a w := by
 have hi := hs.inv
 have hx : ∀ l, Ext ⟨l, G.tkb, G.ice⟩ s.tk w ⟨l, G.tkb ++ [b], G.ice⟩ (s.tk ++ [n]) w := fun l =>
  ⟨fun _ _ h => h, fun _ => Nat.le_refl _, fun _ _ _ => rfl, fun _ _ _ h => h, fun i m hm => ⟨m, by rw [List.getElem?_append_left (List.getElem?_eq_some_iff.1 hm).1]; exact hm, Nat.le_refl _, fun _ k hk =>
   ⟨by show (G.tkb ++ [b])[i]? = some k; rw [List.getElem?_append_left (List.getElem?_eq_some_iff.1 hk).1]; exact hk, rfl, fun c e hc => ⟨c, hc, rfl⟩⟩⟩⟩
 have hxG : Ext G s.tk w (G.tok (G.tkb ++ [b])) (s.tk ++ [n]) w := hx G.loc
 have hf := hi.fr
 refine ⟨⟨hi.locLen, hi.outLen, fun i es p h1 h2 => (hi.boxL i es p h1 h2).ext hxG fun _ _ _ _ => ⟨rfl, rfl⟩, fun i es p h1 h2 => (hi.boxO i es p h1 h2).ext hxG fun _ _ _ _ => ⟨rfl, rfl⟩, ?_, fun k hk => ?_, hi.locNew, ?_, fun i k h1 h2 => ?_, fun i k h1 h2 => ?_, hi.iceBox, hi.iceBig,
  ⟨hf.os, hf.tape, hf.output, hf.size, hf.same, hf.ext0.trans (hx []), hf.ice⟩⟩, hs.tmp.ext hxG, hs.def0⟩
 · have hnd := hi.nd
   have e : blocks F (G.tok (G.tkb ++ [b])) = blocks F G ++ [b] := by simp [blocks, Gh.tok]
   rw [e, List.nodup_append]
   exact ⟨hnd, by simp, fun x hxm y hy => by simp only [List.mem_singleton] at hy; subst hy; exact hnew x hxm⟩
 · have e : blocks F (G.tok (G.tkb ++ [b])) = blocks F G ++ [b] := by simp [blocks, Gh.tok]
   rw [e, List.mem_append, List.mem_singleton] at hk
   rcases hk with hk | hk
   · exact hi.live k hk
   · subst hk; exact hlt
 · simp [Gh.tok, hi.tkLen]
 · simp only [Gh.tok] at h2
   by_cases hlt' : i < G.tkb.length
   · rw [List.getElem?_append_left hlt'] at h2; exact hi.tkNew i k h1 h2
   · have := List.mem_of_getElem? h2
     rw [List.getElem?_append_right (by omega)] at h2
     have := List.mem_of_getElem? h2
     simp only [List.mem_singleton] at this
     subst this; exact hbase
 · simp only [Gh.tok] at h2
   by_cases hlt' : i < G.tkb.length
   · rw [List.getElem?_append_left hlt'] at h2; exact hi.tkOld i k h1 h2
   · rw [List.getElem?_append_right (by omega)] at h2
     have := List.mem_of_getElem? h2
     simp only [List.mem_singleton] at this
     subst this; exact .inr hbase
theorem Sim.setTok (hs : Sim F G s a w) (i0 b n m : Nat) (hi0 : s.tk[i0]? = some n) (hm : n < m) (hnew : ∀ k ∈ blocks F G, k ≠ b) (hlt : b < w.heap.size) (hbase : F.base ≤ b) : Sim F (G.tok (G.tkb.set i0 b)) { s with tk := s.tk.set i0 m } a w := by
 have hi := hs.inv
 have hlen : i0 < s.tk.length := (List.getElem?_eq_some_iff.1 hi0).1
 have hx : ∀ l, Ext ⟨l, G.tkb, G.ice⟩ s.tk w ⟨l, G.tkb.set i0 b, G.ice⟩ (s.tk.set i0 m) w := fun l =>
  ⟨fun _ _ h => h, fun _ => Nat.le_refl _, fun _ _ _ => rfl, fun _ _ _ h => h, fun i q hq => by
   by_cases he : i0 = i
   · subst he
     rw [hi0] at hq
     injection hq with hq
     subst hq
     exact ⟨m, by rw [List.getElem?_set]; simp [hlen], by omega, fun h => by omega⟩
   · refine ⟨q, by rw [List.getElem?_set_ne he]; exact hq, Nat.le_refl _, fun _ k hk => ⟨by show (G.tkb.set i0 b)[i]? = some k; rw [List.getElem?_set_ne he]; exact hk, rfl, fun c e hc => ⟨c, hc, rfl⟩⟩⟩⟩
 have hxG : Ext G s.tk w (G.tok (G.tkb.set i0 b)) (s.tk.set i0 m) w := hx G.loc
 have hf := hi.fr
 have hsub : ∀ k ∈ blocks F (G.tok (G.tkb.set i0 b)), k ∈ blocks F G ∨ k = b := fun k hk => by
  simp only [blocks, Gh.tok, List.mem_append] at hk ⊢
  rcases hk with hk | hk | hk
  · exact .inl (.inl hk)
  · exact .inl (.inr (.inl hk))
  · rcases List.mem_or_eq_of_mem_set hk with hk | hk
    · exact .inl (.inr (.inr hk))
    · exact .inr hk
 refine ⟨⟨hi.locLen, hi.outLen, fun i es p h1 h2 => (hi.boxL i es p h1 h2).ext hxG fun _ _ _ _ => ⟨rfl, rfl⟩, fun i es p h1 h2 => (hi.boxO i es p h1 h2).ext hxG fun _ _ _ _ => ⟨rfl, rfl⟩, ?_, fun k hk => ?_, hi.locNew, by simp [Gh.tok, hi.tkLen], fun i k h1 h2 => ?_, fun i k h1 h2 => ?_, hi.iceBox, hi.iceBig,
  ⟨hf.os, hf.tape, hf.output, hf.size, hf.same, hf.ext0.trans (hx []), hf.ice⟩⟩, hs.tmp.ext hxG, hs.def0⟩
 · have hnd := hi.nd
   have e : blocks F (G.tok (G.tkb.set i0 b)) = (blocks F G).set (F.out.length + (G.loc.length + i0)) b := by
    simp only [blocks, Gh.tok]
    rw [List.set_append_right _ _ (by simp), List.set_append_right _ _ (by simp)]
    simp
   rw [e]
   have hnd' := List.pairwise_iff_getElem.1 hnd
   refine List.pairwise_iff_getElem.2 (fun i j h1 h2 hij => ?_)
   simp only [List.length_set] at h1 h2
   rw [List.getElem_set, List.getElem_set]
   split
   · split
     · omega
     · exact fun e => hnew _ (List.getElem_mem h2) e.symm
   · split
     · exact hnew _ (List.getElem_mem h1)
     · exact hnd' i j h1 h2 hij
 · rcases hsub k hk with hk | hk
   · exact hi.live k hk
   · subst hk; exact hlt
 · simp only [Gh.tok, List.getElem?_set] at h2
   split at h2
   · split at h2
     · injection h2 with h2; subst h2; exact hbase
     · cases h2
   · exact hi.tkNew i k h1 h2
 · simp only [Gh.tok, List.getElem?_set] at h2
   split at h2
   · split at h2
     · injection h2 with h2; subst h2; exact .inr hbase
     · cases h2
   · exact hi.tkOld i k h1 h2
theorem tkb_inj (hn : (blocks F G).Nodup) {i j b : Nat} (h1 : G.tkb[i]? = some b) (h2 : G.tkb[j]? = some b) : i = j := by
 have e1 := tkb_block (F := F) h1
 have e2 := tkb_block (F := F) h2
 have := (List.getElem?_inj (List.getElem?_eq_some_iff.1 e1).1 hn).1 (e1.trans e2.symm)
 omega
theorem Sim.growTok (hs : Sim F G s a w) (i0 b n m : Nat) (hi0 : s.tk[i0]? = some n) (hm : n < m) (hb : G.tkb[i0]? = some b) (news : List Value)
  (hin : ∀ j, j < news.length → (w.cell? ⟨b, G.ice b + j, none⟩).isSome = true) :
  Ext G s.tk w (G.ice1 b (G.ice b + news.length)) (s.tk.set i0 m) (w.setCells b (G.ice b) news) ∧ Sim F (G.ice1 b (G.ice b + news.length)) { s with tk := s.tk.set i0 m } a (w.setCells b (G.ice b) news) := by
 have hi := hs.inv
 have hlen : i0 < s.tk.length := (List.getElem?_eq_some_iff.1 hi0).1
 have hbl : b < w.heap.size := hi.tkLive b (List.mem_of_getElem? hb)
 have hcell : ∀ k o', k ≠ b ∨ o' < G.ice b → (w.setCells b (G.ice b) news).cell? ⟨k, o', none⟩ = w.cell? ⟨k, o', none⟩ := fun k o' h => by
  by_cases hk : k = b
  · subst hk
    rw [cell_setCells k news _ w o' hin, if_neg]
    omega
  · exact World.cell?_of_block (a := ⟨k, o', none⟩) (heap_setCells _ _ _ _ _ hk)
 have hx : ∀ l, Ext ⟨l, G.tkb, G.ice⟩ s.tk w ⟨l, G.tkb, (G.ice1 b (G.ice b + news.length)).ice⟩ (s.tk.set i0 m) (w.setCells b (G.ice b) news) := fun l =>
  ⟨fun _ _ h => h, fun k => by simp only [Gh.ice1]; split <;> rename_i h <;> first | (subst h; omega) | exact Nat.le_refl _, fun k o' ho => hcell k o' (by
    by_cases hk : k = b
    · subst hk; exact .inr ho
    · exact .inl hk), fun k o' _ hz => by rw [World.frozen?_setCells]; exact hz, fun i q hq => by
   by_cases he : i0 = i
   · subst he
     rw [hi0] at hq
     injection hq with hq
     subst hq
     exact ⟨m, by rw [List.getElem?_set]; simp [hlen], by omega, fun h => by omega⟩
   · refine ⟨q, by rw [List.getElem?_set_ne he]; exact hq, Nat.le_refl _, fun _ k hk => ?_⟩
     have hkb : k ≠ b := fun e => he (tkb_inj hi.nd hb (by rw [← e]; exact hk))
     exact ⟨hk, by simp only [Gh.ice1]; rw [if_neg hkb], fun c e hc => ⟨c, by rw [heap_setCells _ _ _ _ _ hkb]; exact hc, rfl⟩⟩⟩
 have hxG : Ext G s.tk w (G.ice1 b (G.ice b + news.length)) (s.tk.set i0 m) (w.setCells b (G.ice b) news) := hx G.loc
 have hf := hi.fr
 have hold : b < F.base → b ∈ F.tkb0 := fun h => by
  rcases Nat.lt_or_ge i0 F.tk0.length with h0 | h0
  · rcases hi.tkOld i0 b h0 hb with h1 | h1
    · exact List.mem_of_getElem? h1
    · omega
  · have := hi.tkNew i0 b h0 hb; omega
 obtain ⟨e1, e2, e3, e4⟩ := rest_setCells b news (G.ice b) w
 refine ⟨hxG, ⟨hi.locLen, hi.outLen, fun i es p h1 h2 => (hi.boxL i es p h1 h2).ext hxG fun _ _ _ _ => ?_, fun i es p h1 h2 => (hi.boxO i es p h1 h2).ext hxG fun _ _ _ _ => ?_, hi.nd, fun k hk => by rw [size_setCells]; exact hi.live k hk, hi.locNew, by simp [Gh.ice1, hi.tkLen], hi.tkNew, hi.tkOld, fun p hp => ?_, fun k hk => ?_,
  ⟨by rw [e1]; exact hf.os, by rw [e2]; exact hf.tape, by rw [e3, e4]; exact hf.output, by rw [size_setCells]; exact hf.size, fun k hk h1 h2 => ?_, hf.ext0.trans (hx []), fun k hk h1 => ?_⟩⟩, hs.tmp.ext hxG, hs.def0⟩
 · have : p.b ≠ b := place_tkb hi.nd (r1 := .loc i) h2 hb
   exact ⟨hcell _ _ (.inl this), World.frozen?_setCells _ _ _ _ _⟩
 · have : p.b ≠ b := place_tkb hi.nd (r1 := .out i) h2 hb
   exact ⟨hcell _ _ (.inl this), World.frozen?_setCells _ _ _ _ _⟩
 · have : p.b ≠ b := by
     rcases List.mem_append.1 hp with hp | hp
     · obtain ⟨k, hk, rfl⟩ := List.getElem_of_mem hp
       exact place_tkb hi.nd (r1 := .out k) (List.getElem?_eq_getElem hk) hb
     · obtain ⟨k, hk, rfl⟩ := List.getElem_of_mem hp
       exact place_tkb hi.nd (r1 := .loc k) (List.getElem?_eq_getElem hk) hb
   simp only [Gh.ice1]; rw [if_neg this]; exact hi.iceBox p hp
 · rw [size_setCells] at hk
   simp only [Gh.ice1]; rw [if_neg (by omega)]; exact hi.iceBig k hk
 · rw [heap_setCells _ _ _ _ _ (fun e => h2 (by rw [e]; exact hold (by rw [← e]; exact hk)))]; exact hf.same k hk h1 h2
 · simp only [Gh.ice1]; rw [if_neg (fun e => h1 (by rw [e]; exact hold (by rw [← e]; exact hk)))]; exact hf.ice k hk h1
theorem getD_append (l m : List Value) (j : Nat) : (l ++ m).getD j undef = if j < l.length then l.getD j undef else m.getD (j - l.length) undef := by
 simp only [List.getD_eq_getElem?_getD]
 split
 · rw [List.getElem?_append_left (by assumption)]
 · rw [List.getElem?_append_right (by omega)]
theorem getD_appendB (l m : Box) (j : Nat) : (l ++ m).getD j [] = if j < l.length then l.getD j [] else m.getD (j - l.length) [] := by
 simp only [List.getD_eq_getElem?_getD]
 split
 · rw [List.getElem?_append_left (by assumption)]
 · rw [List.getElem?_append_right (by omega)]
theorem two_rows {σ : Nat → Nat} {z : Nat} {es new : Box} {olds news : List Value} (hlo : olds.length = es.length * z) (ho : ∀ i j, i < es.length → j < z → RD σ w ((es.getD i []).getD j .junk) (olds.getD (i * z + j) undef))
  (hn : ∀ i j, i < new.length → j < z → RD σ w ((new.getD i []).getD j .junk) (news.getD (i * z + j) undef)) (rest : List Value) (hln : news.length = new.length * z) :
  ∀ i j, i < (es ++ new).length → j < z → RD σ w (((es ++ new).getD i []).getD j .junk) ((olds ++ (news ++ rest)).getD (i * z + j) undef) := by
 intro i j hi hj
 rw [getD_appendB, getD_append]
 by_cases h : i < es.length
 · have : (i + 1) * z ≤ es.length * z := Nat.mul_le_mul_right _ h
   rw [Nat.succ_mul] at this
   rw [if_pos h, if_pos (by omega)]
   exact ho i j h hj
 · have h2 : i - es.length < new.length := by simp at hi; omega
   have h3 : es.length * z ≤ i * z := Nat.mul_le_mul_right _ (by omega)
   have h4 : (i - es.length + 1) * z ≤ new.length * z := Nat.mul_le_mul_right _ h2
   rw [Nat.succ_mul] at h4
   have h5 : i * z + j - olds.length = (i - es.length) * z + j := by
    rw [hlo]
    have : i * z = (i - es.length) * z + es.length * z := by rw [← Nat.add_mul]; congr 1; omega
    omega
   rw [if_neg h, if_neg (by omega), h5, getD_append, if_pos (by omega)]
   exact hn _ j h2 hj
end
section
variable {P : Program} {E : Env} {F : Fx} {G : Gh} {s : S} {a : Act} {w : World} {o : Oper} {Q : Exit → Act → World → Prop} {rec : T → Option (X × S)} {r : X × S} {K : S → T}
theorem tk_same {s : S} : ({ s with tk := s.tk } : S) = s := rfl
theorem Sim.grown (hs : Sim F G s a w) {e : TypeId} {z : Nat} {es new : Box} {olds news : List Value} {zc : Array Value} (hz : 0 < z) (hzc : zc.size = z) (hlo : olds.length = es.length * z) (hln : news.length = new.length * z)
  (ho : ∀ i j, i < es.length → j < z → RD G.ice w ((es.getD i []).getD j .junk) (olds.getD (i * z + j) undef)) (hn : ∀ i j, i < new.length → j < z → RD G.ice w ((new.getD i []).getD j .junk) (news.getD (i * z + j) undef))
  (hl : ∀ x ∈ es ++ new, x.length = z) (hc : ∀ x ∈ es ++ new, ∀ d ∈ x, D.cell d = true) (cap : Nat) (hcap : (es ++ new).length ≤ cap) (i : Nat) :
  let ar := olds.toArray ++ news.toArray ++ Builtin.zeroCells zc (cap - (es.length + new.length))
  let w1 := w.drew.alloc (.cells ar e)
  Sim F (G.ice1 w.heap.size ((es ++ new).length * z)) s a w1 ∧ RD (G.ice1 w.heap.size ((es ++ new).length * z)).ice w1 (.sl (.own i) z (es ++ new)) (.slice (some ⟨w.heap.size, 0, none⟩) (es ++ new).length cap) ∧
   (∀ k ∈ blocks F (G.ice1 w.heap.size ((es ++ new).length * z)), k ≠ w.heap.size) ∧ w.heap.size < w1.heap.size ∧ w1.heap[w.heap.size]? = some (.cells ar e (0, 0)) ∧ cap * z ≤ ar.size := by
 intro ar w1
 have hsz : ar.size = cap * z := by
  have h1 : (cap - (es.length + new.length)) * z = cap * z - (es.length + new.length) * z := Nat.sub_mul _ _ _
  have h2 : (es.length + new.length) * z = es.length * z + new.length * z := Nat.add_mul _ _ _
  have h3 : (es.length + new.length) * z ≤ cap * z := Nat.mul_le_mul_right _ (by simpa using hcap)
  simp only [ar, Array.size_append, List.size_toArray, size_zeroCells, hzc]
  omega
 have hd := hs.drew
 have hdat := hd.newData (.own i) z (es ++ new) ar e cap ((es ++ new).length * z) (by simp) hz hl hc (by rw [hsz]; exact Nat.mul_le_mul_right _ hcap) (Nat.le_refl _) hcap (fun i j hi hj => by
  have h0 := two_rows (w := w) hlo ho hn (Builtin.zeroCells zc (cap - (es.length + new.length))).toList hln i j hi hj
  have e1 : ar.getD (i * z + j) undef = (olds ++ (news ++ (Builtin.zeroCells zc (cap - (es.length + new.length))).toList)).getD (i * z + j) undef := by
   rw [← getD_toList]; simp [ar]
  rw [e1]
  exact RD.heap (w := w) (w' := w.drew) rfl h0)
 refine ⟨hd.alloc (.cells ar e) _, hdat, fun k hk => ?_, by rw [size_alloc]; exact Nat.lt_succ_self _, heap_alloc_new _ _, by omega⟩
 have := hs.inv.live k hk
 omega
theorem block_setCells (b : Nat) (e : TypeId) : ∀ (vs : List Value) (q : Nat) (w : World) (cs : Array Value), w.heap[b]? = some (.cells cs e (0, 0)) → ∃ c', (w.setCells b q vs).heap[b]? = some (.cells c' e (0, 0)) ∧ c'.size = cs.size
 | [], _, _, cs, h => ⟨cs, h, rfl⟩
 | v :: l, q, w, cs, h => by
   rw [World.setCells]
   have h1 : (w.setCell ⟨b, q, none⟩ v).heap[b]? = some (.cells (cs.setIfInBounds q v) e (0, 0)) := by
    simp [World.setCell, Array.getElem?_modify, h]
   obtain ⟨c', e1, e2⟩ := block_setCells b e l (q + 1) _ _ h1
   exact ⟨c', e1, by rw [e2]; simp⟩
theorem append_sound (hE : ∀ t, TyOk P t (E.ty t)) (hs : Sim F G s a w) {c : Call} (ho : o.op = .call c) (hc : c.callee = .builtin .append)
  (hT : runT E rec (opT E o s K) = some r) : o.wp P a w (After F G s w fun s' => runT E rec (K s') = some r) Q := by
 simp only [opT, ho, hc] at hT
 have harr : ∀ {α : Type} (x : Array α) (p q : α), x.toList = [p, q] → x = #[p, q] := fun x p q hx => by
  apply Array.toList_inj.1; simpa using hx
 split at hT
 · rename_i e z b e2 z2 b2 tok z' es tok2 z'' new h1 h2
   have hm : ∀ {α β : Type} (f : α → β) (l : List α) (p q : β), l.map f = [p, q] → ∃ x y, l = [x, y] ∧ f x = p ∧ f y = q := fun f l p q h => by
    match l, h with
    | [x, y], h => simp at h; exact ⟨x, y, rfl, h.1, h.2⟩
   obtain ⟨t, tx, htl, ht, htx⟩ := hm _ _ _ _ h1
   obtain ⟨x, y, hal, hx, hy⟩ := hm _ _ _ _ h2
   have htl' := harr _ _ _ htl
   have hal' := harr _ _ _ hal
   split at hT
   · rename_i hcond
     simp only [Bool.and_eq_true, Bool.or_eq_true, decide_eq_true_eq, List.isEmpty_iff] at hcond
     obtain ⟨hz1, hz2⟩ := hcond
     simp only [runT, Bool.and_eq_true, decide_eq_true_eq] at hT
     split at hT
     · rename_i hbound
       obtain ⟨hbound, hbound2⟩ := hbound
       split at hT
       · rename_i tok' tk' happ
         obtain ⟨hu, hz, ie, zv, hie, hsz, hby, hzv, hzs⟩ := (hE t).sl e z b ht
         have hu2 := ((hE tx).sl e2 z2 b2 htx).1
         have hrx := hs.ev x
         have hry := hs.ev y
         rw [hx] at hrx
         rw [hy] at hry
         obtain ⟨rx, tokx⟩ := hrx.sl_inv
         obtain ⟨ry, _⟩ := hry.sl_inv
         have hnil : tok = .nil → es = [] ∧ a.eval x = .slice none 0 0 := fun h => by
          subst h
          generalize a.eval x = v at rx
          cases rx with
          | slN => exact ⟨rfl, rfl⟩
          | sl _ _ _ _ _ _ _ ht => exact absurd rfl ht
         have hzx : z' = z ∨ es = [] := hz1.imp id (fun h => (hnil h).1)
         obtain ⟨adx, capx, olds, hvx, hcx, hlo, hfx, hax, hrdx, hlx, hcellx, hreadx⟩ := row_read rx hz hzx
         obtain ⟨ady, capy, news, hvy, hcy, hln, hfy, hay, hrdy, hly, hcelly, _⟩ := row_read ry hz (hz2.imp id id)
         have hl : ∀ q ∈ es ++ new, q.length = z := fun q hq => by
          rcases List.mem_append.1 hq with h | h
          · exact hlx q h
          · exact hly q h
         have hcl : ∀ q ∈ es ++ new, ∀ d ∈ q, D.cell d = true := fun q hq => by
          rcases List.mem_append.1 hq with h | h
          · exact hcellx q h
          · exact hcelly q h
         have hexec : ∀ v w', (Builtin.append_ #[t, tx] o.type #[.slice adx es.length capx, .slice ady new.length capy]).run P w = .ok v w' → (execOp a.eval o).run P w = .ok (.value v) w' := fun v w' h => by
          have hv1 : a.eval x = .slice adx es.length capx := hvx
          have hv2 : a.eval y = .slice ady new.length capy := hvy
          simp [execOp, ho, resolve, hc, invoke, builtin, htl', hal', hv1, hv2, h]
         rw [hvx] at hfx
         rw [hvy] at hfy
         have hb62 : es.length + new.length ≤ 2 ^ 62 := by omega
         have hzero : new.length = 0 → new = [] := fun h => List.length_eq_zero_iff.1 h
         have hsame : new.length = 0 → (Builtin.append_ #[t, tx] o.type #[.slice adx es.length capx, .slice ady new.length capy]).run P w = .ok (.slice adx (es.length + new.length) capx) w := fun h0 => by
          refine run_app_fit hu hu2 hie adx ady es.length capx new.length capy news (by rw [hsz]; exact hfy w rfl) (by omega) w (fun ad _ => ?_) (fun _ => rfl)
          have : news = [] := by rw [hzero h0] at hln; exact List.length_eq_zero_iff.1 (by simpa using hln)
          rw [this]; rfl
         have hgrow : capx < es.length + new.length → ∃ cap', (Builtin.append_ #[t, tx] o.type #[.slice adx es.length capx, .slice ady new.length capy]).run P w =
           .ok (.slice (some ⟨w.heap.size, 0, none⟩) (es.length + new.length) cap') (w.drew.alloc (.cells (olds.toArray ++ news.toArray ++ Builtin.zeroCells zv.cells (cap' - (es.length + new.length))) e)) ∧ (es ++ new).length ≤ cap' := fun hg => by
          refine ⟨_, run_app_grow hu hu2 hie hzv adx ady es.length capx new.length capy olds news (by rw [hsz]; exact hfy) (by rw [hsz]; exact hfx) hg hb62 (growslice_fits hg (by rw [hby]; omega)), ?_⟩
          rw [List.length_append]; exact grown_ge
         have hnewtok : capx < es.length + new.length → tok' = .own s.tk.length → tk' = s.tk ++ [es.length + new.length] → o.wp P a w (After F G s w fun s' => runT E rec (K s') = some r) Q := fun hg e1 e2 => by
          obtain ⟨cap', hrun, hcap'⟩ := hgrow hg
          obtain ⟨g1, g2, g3, g4, g5, g6⟩ := hs.grown (e := e) hz hzs hlo hln hrdx hrdy hl hcl cap' hcap' s.tk.length
          have g7 := g1.addTok w.heap.size (es.length + new.length) g3 g4 hs.inv.fr.size
          subst e1 e2
          refine wp_value (hexec _ _ hrun) ⟨_, _, hT, g7.put o.dst ?_⟩
          have hvv : Value.slice (some ⟨w.heap.size, 0, none⟩) (es ++ new).length cap' = .slice (some ⟨w.heap.size, 0, none⟩) (es.length + new.length) cap' := by rw [List.length_append]
          refine .dat (hvv ▸ g2) ⟨es.length + new.length, by simp, by simp, fun b o' l c h => ?_, fun _ => ⟨_, cap', by simp, .inr ⟨w.heap.size, 0, rfl, ?_, ?_, _, _, g5, by omega⟩⟩⟩
          · injection h with h _ _
            injection h with h
            injection h with hb ho _
            subst hb
            subst ho
            refine ⟨Nat.le_trans (F.low_le _) hs.inv.fr.size, fun j hj => ⟨?_, ?_⟩⟩
            · show 0 + j < (if w.heap.size = w.heap.size then (es ++ new).length * z else _)
              rw [if_pos rfl]; omega
            · show (match (w.drew.alloc _).heap[w.heap.size]? with | some (.cells _ _ (lo, hi)) => decide (lo ≤ 0 + j) && decide (0 + j < hi) | _ => false) = false
              rw [g5]; simp
          · simp [Gh.tok, Gh.ice1, hs.inv.tkLen]
          · simp [Gh.tok, Gh.ice1]
         have hown : ∀ (i0 off : Nat) (t2 : Tok), t2 ≠ .nil → LiveOk F G s.tk w i0 off z' es (a.eval x) → (∀ {es' : Box} {v' : Value} {G' : Gh} {tk' : List Nat} {w' : World}, LiveOk F G' tk' w' i0 off z' es' v' → TokOk F G' tk' w' (.sl t2 z' es') v') → Rep F G s.tk w (.sl t2 z' es) (a.eval x) → z' = z →
           s.tk[i0]? = some (off + es.length) → tok' = t2 → tk' = s.tk.set i0 (off + es.length + new.length) → o.wp P a w (After F G s w fun s' => runT E rec (K s') = some r) Q := fun i0 off t2 ht2 htok htok2 hrx hzz hi0 e1 e2 => by
          subst e1 e2
          subst hzz
          obtain ⟨n0, hn0, hle, hfresh, halive⟩ := htok
          have hn0' : n0 = off + es.length := by rw [hi0] at hn0; injection hn0 with h; exact h.symm
          obtain ⟨ad', cap', hv1, hsp⟩ := halive hn0'
          rw [hvx] at hv1
          injection hv1 with q1 q2 q3
          subst q1 q3
          by_cases hm0 : new.length = 0
          ·
           have htk : s.tk.set i0 (off + es.length + new.length) = s.tk := by
            rw [hm0, Nat.add_zero]
            obtain ⟨hlt, he⟩ := List.getElem?_eq_some_iff.1 hi0
            rw [← he]; exact List.set_getElem_self hlt
           rw [htk] at hT
           refine wp_value (hexec _ _ (hsame hm0)) ⟨G, _, hT, hs.put o.dst ?_⟩
           rw [hzero hm0, List.append_nil]
           simp only [List.length_nil, Nat.add_zero]
           rw [← hvx]
           exact hrx
          · by_cases hfit : es.length + new.length ≤ capx
            ·
             have hsp' := hsp.resolve_left (fun h => by omega)
             obtain ⟨b0, o0, hab, hb0, hice, cs, e0, hblk, hroom⟩ := hsp'
             subst hab
             have hle2 : (es.length + new.length) * z' ≤ capx * z' := Nat.mul_le_mul_right _ hfit
             rw [Nat.add_mul] at hle2
             have hin : ∀ j, j < news.length → (w.cell? ⟨b0, G.ice b0 + j, none⟩).isSome = true ∧ w.frozen? ⟨b0, G.ice b0 + j, none⟩ = false := fun j hj => by
              have h5 : G.ice b0 + j < cs.size := by omega
              unfold World.cell? World.frozen?
              rw [hblk]
              simp [h5]
             have hone : ∀ v ∈ news, v.oneCell' = true := fun v hv => by
              obtain ⟨k, hk, rfl⟩ := List.getElem_of_mem hv
              have hk2 : k / z' < new.length := (Nat.div_lt_iff_lt_mul hz).2 (by omega)
              have hk3 : k % z' < z' := Nat.mod_lt _ hz
              have h6 := hrdy (k / z') (k % z') hk2 hk3
              have h7 : k / z' * z' + k % z' = k := by rw [Nat.mul_comm]; exact Nat.div_add_mod k z'
              have h8 : news.getD k undef = news[k] := by simp [List.getD_eq_getElem?_getD, hk]
              rw [h7, h8] at h6
              refine h6.one (hcelly (new.getD (k / z') []) ?_ _ (mem_getD ?_))
              · rw [List.getD_eq_getElem?_getD, List.getElem?_eq_getElem hk2]; exact List.getElem_mem hk2
              · rw [hly _ (by rw [List.getD_eq_getElem?_getD, List.getElem?_eq_getElem hk2]; exact List.getElem_mem hk2)]; exact hk3
             have hst := run_storeCells_cells (P := P) b0 (G.ice b0) news 0 w (fun j hj => by simpa using (hin j hj).1) (fun j hj => by simpa using (hin j hj).2) hone
             simp only [Nat.add_zero] at hst
             have hrun := run_app_fit (P := P) (w := w) (ty := o.type) hu hu2 hie (some ⟨b0, o0, none⟩) ady es.length capx new.length capy news (by rw [hsz]; exact hfy w rfl) hfit (w.setCells b0 (G.ice b0) news)
              (fun ad h => by injection h with h; subst h; rw [Addr.add_mid, hsz, hice]; exact hst) (fun h => by cases h)
             obtain ⟨hx1, hs1⟩ := hs.growTok i0 b0 (off + es.length) (off + es.length + new.length) hi0 (Nat.lt_add_of_pos_right (Nat.pos_of_ne_zero hm0)) hb0 news (fun j hj => (hin j hj).1)
             refine wp_value (hexec _ _ hrun) ⟨_, _, hT, hs1.put o.dst ?_⟩
             have hlen : i0 < s.tk.length := (List.getElem?_eq_some_iff.1 hi0).1
             have hcells : ∀ k, k < (es ++ new).length * z' → (w.setCells b0 (G.ice b0) news).cell? ⟨b0, o0 + k, none⟩ = some ((olds ++ (news ++ [])).getD k undef) := fun k hk => by
              rw [List.length_append, Nat.add_mul] at hk
              rw [cell_setCells b0 news _ w _ (fun j hj => (hin j hj).1), getD_append, List.append_nil]
              by_cases hko : k < olds.length
              · rw [if_neg (by omega), if_pos hko]
                exact hreadx b0 o0 rfl k (by omega)
              · rw [if_pos (by omega), if_neg hko]
                rw [show o0 + k - G.ice b0 = k - olds.length by omega, List.getD_eq_getElem?_getD, List.getElem?_eq_getElem (by omega)]
                rfl
             have hrd2 : RD (G.ice1 b0 (G.ice b0 + news.length)).ice (w.setCells b0 (G.ice b0) news) (.sl tok' z' (es ++ new)) (.slice (some ⟨b0, o0, none⟩) (es ++ new).length capx) := by
              refine .sl _ z' (es ++ new) b0 o0 capx (fun i j => (olds ++ (news ++ [])).getD (i * z' + j) undef) ht2 hz hl hcl (by rw [List.length_append]; exact hfit) (fun _ => ?_) (fun i j hi hj => ?_) (fun i j hi hj => ?_)
              · rw [List.length_append, Nat.add_mul]
                simp only [Gh.ice1, if_true]
                omega
              · have h9 : (i + 1) * z' ≤ (es ++ new).length * z' := Nat.mul_le_mul_right _ hi
                rw [Nat.succ_mul] at h9
                have := hcells (i * z' + j) (by omega)
                rwa [← Nat.add_assoc] at this
              · exact (two_rows hlo hrdx hrdy [] hln i j hi hj).mono hx1.ice hx1.cell
             have hvv : Value.slice (some ⟨b0, o0, none⟩) (es ++ new).length capx = .slice (some ⟨b0, o0, none⟩) (es.length + new.length) capx := by rw [List.length_append]
             refine .dat (hvv ▸ hrd2) (htok2 ⟨off + es.length + new.length, by simp [hlen], by rw [List.length_append]; omega, fun b1 o1 l c h1 => ?_, fun _ => ⟨_, capx, by simp, .inr ⟨b0, o0, rfl, hb0, ?_, ?_⟩⟩⟩)
             · injection h1 with h1 _ _
               injection h1 with h1
               injection h1 with q1 q2 _
               subst q1
               subst q2
               refine ⟨(hfresh b0 o0 _ _ hvx).1, fun j hj => ⟨?_, ?_⟩⟩
               · rw [List.length_append, Nat.add_mul] at hj
                 simp only [Gh.ice1, if_true]
                 omega
               · rw [World.frozen?_setCells]; simp [World.frozen?, hblk]
             · rw [List.length_append, Nat.add_mul]
               simp only [Gh.ice1, if_true]
               omega
             · obtain ⟨c', hc'⟩ : ∃ c' : Array Value, (w.setCells b0 (G.ice b0) news).heap[b0]? = some (.cells c' e0 (0, 0)) ∧ c'.size = cs.size := block_setCells b0 e0 news (G.ice b0) w cs hblk
               exact ⟨c', e0, hc'.1, by omega⟩
            ·
             obtain ⟨cap', hrun, hcap'⟩ := hgrow (by omega)
             obtain ⟨g1, g2, g3, g4, g5, g6⟩ := hs.grown (e := e) hz hzs hlo hln hrdx hrdy hl hcl cap' hcap' i0
             have g7 := g1.setTok i0 w.heap.size (off + es.length) (off + es.length + new.length) hi0 (Nat.lt_add_of_pos_right (Nat.pos_of_ne_zero hm0)) g3 g4 hs.inv.fr.size
             have hlen : i0 < s.tk.length := (List.getElem?_eq_some_iff.1 hi0).1
             have hlen2 : i0 < G.tkb.length := by rw [hs.inv.tkLen]; exact hlen
             refine wp_value (hexec _ _ hrun) ⟨_, _, hT, g7.put o.dst ?_⟩
             have hvv : Value.slice (some ⟨w.heap.size, 0, none⟩) (es ++ new).length cap' = .slice (some ⟨w.heap.size, 0, none⟩) (es.length + new.length) cap' := by rw [List.length_append]
             refine .dat (hvv ▸ g2.tok tok' ht2) (htok2 ⟨off + es.length + new.length, by simp [hlen], by rw [List.length_append]; omega, fun b o' l c h => ?_, fun _ => ⟨_, cap', by simp, .inr ⟨w.heap.size, 0, rfl, ?_, ?_, _, _, g5, by omega⟩⟩⟩)
             · injection h with h _ _
               injection h with h
               injection h with hb ho _
               subst hb
               subst ho
               refine ⟨Nat.le_trans (F.low_le _) hs.inv.fr.size, fun j hj => ⟨?_, ?_⟩⟩
               · show 0 + j < (if w.heap.size = w.heap.size then (es ++ new).length * z' else _)
                 rw [if_pos rfl]; omega
               · show (match (w.drew.alloc _).heap[w.heap.size]? with | some (.cells _ _ (lo, hi)) => decide (lo ≤ 0 + j) && decide (0 + j < hi) | _ => false) = false
                 rw [g5]; simp
             · simp [Gh.tok, Gh.ice1, hlen2]
             · simp [Gh.tok, Gh.ice1]
         unfold appTok at happ
         split at happ
         ·
          obtain ⟨hes, hev⟩ := hnil rfl
          split at happ
          · rename_i h0
            injection happ with happ
            injection happ with e1 e2
            subst e1 e2
            refine wp_value (hexec _ _ (hsame h0)) ⟨G, _, hT, hs.put o.dst ?_⟩
            have hv1 : Value.slice adx es.length capx = .slice none 0 0 := hvx.symm.trans hev
            injection hv1 with q1 q2 q3
            rw [hes, hzero h0, q1, q3]
            exact .dat (.slN _ _) trivial
          · rename_i h0
            injection happ with happ
            injection happ with e1 e2
            have hv1 : Value.slice adx es.length capx = .slice none 0 0 := hvx.symm.trans hev
            injection hv1 with q1 q2 q3
            exact hnewtok (by omega) e1.symm e2.symm
         ·
          obtain ⟨ad', hcp⟩ := tokx
          rw [hvx] at hcp
          injection hcp with q1 q2 q3
          split at happ
          · rename_i h0
            injection happ with happ
            injection happ with e1 e2
            subst e1 e2
            refine wp_value (hexec _ _ (hsame h0)) ⟨G, _, hT, hs.put o.dst ?_⟩
            have hzz : z' = z := hz1.resolve_right (by simp)
            rw [hzero h0, List.append_nil]
            simp only [List.length_nil, Nat.add_zero]
            rw [← hzz, ← hvx]
            exact hrx
          · rename_i h0
            injection happ with happ
            injection happ with e1 e2
            exact hnewtok (by omega) e1.symm e2.symm
         ·
          rename_i i0
          split at happ
          · rename_i hi0
            injection happ with happ
            injection happ with e1 e2
            exact hown i0 0 (.own i0) (by simp) tokx (fun h => h) hrx (hz1.resolve_right (by simp)) (by rw [Nat.zero_add]; exact hi0) e1.symm (by rw [Nat.zero_add]; exact e2.symm)
          · cases happ
         ·
          rename_i i0 off
          split at happ
          · rename_i hi0
            injection happ with happ
            injection happ with e1 e2
            exact hown i0 off (.ofs i0 off) (by simp) tokx (fun h => h) hrx (hz1.resolve_right (by simp)) hi0 e1.symm e2.symm
          · cases happ
         · cases happ
         · cases happ
       · cases hT
     · cases hT
   · simp [runT] at hT
 · simp [runT] at hT
end
end Go.Mach
