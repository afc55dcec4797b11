/- What the statements share: part 25 of a proof by an executable machine over the program's code. -/
import Derived.Test.YtljpfhpcbfpooaaGreatDoorMc24
import Derived.Sort.OwnSorted
import Derived.Shelf.Slices.In.SortNone2
import Derived.Shelf.SlSortCmp.KitK
import Derived.Shelf.SlicesE.Kit
import Derived.Shelf.RegionOpenPlain
import Derived.WalkKit
import Derived.Deep.LoopGhost
import Derived.Deep.Draws
import Derived.Lib.Walk
import Derived.Sort.WalkB12
import Derived.Lib.SliceRun
import Derived.Lib.SlicesCompact
import Derived.Shelf.SlicesQ.Reverse
set_option linter.unusedVariables false
set_option linter.unusedSimpArgs false
set_option maxRecDepth 100000
set_option maxHeartbeats 2000000
namespace Go.Mach
open Go Go.RowKit Go.Proofs
def headC : Nat → Code → Code
 | 0, .seq a _ => a
 | n + 1, .seq _ b => headC n b
 | _, _ => .skip
theorem sorted_calls {v : Value} {w : World} {ls : List ByteArray} (hlen : ls.length ≤ 1048576) {Post : World → Prop} {σ : Nat → Nat}
  (hC : Calls Tryz.prog 117 #[v] w fun e w' => e = .returned (.tuple #[]) ∧ Post w')
  (hP : ∀ w', Post w' → RD σ w' (.sl .ro 1 (eB ls)) v ∧ ∀ b, w'.heap.size ≤ b → σ b = 0) :
  Calls Tryz.prog 69 #[v] w fun e w'' => ∃ v' σ' w', e = .returned v' ∧ Post w' ∧ RD σ' w'' (.sl .ro 1 (eB (dedN ls ls.length))) v' ∧ (Below w'.heap.size w' w'' ∧ w'.drawn ≤ w''.drawn) ∧ (∀ b, b < w'.heap.size → σ' b = σ b) ∧ ∀ b, w''.heap.size ≤ b → σ' b = 0 := by
 have e219 : ∀ args w, (callFunc 117 args).run Tryz.prog w = .ok (.enter 117 args) w := enters_of Tryz.func117 (by kernel_rfl) rfl
 have hn : Tryz.f69.ntmps = 32 := by kernel_rfl
 refine calls_of_wp Tryz.func69 (c := bodyOf Tryz.f69) (by kernel_rfl) ?_
 simp only [hn, List.size_toArray, List.length_cons, List.length_nil, Nat.reduceAdd, Nat.reduceSub, Array.replicate_succ, Array.replicate_zero, List.push_toArray, List.append_toArray, List.nil_append, List.cons_append]
 have hb : bodyOf Tryz.f69 = .seq (headC 0 (bodyOf Tryz.f69)) (.seq (headC 1 (bodyOf Tryz.f69)) impl_sorted_rest.fi.body) := by kernel_rfl
 rw [hb]
 obtain ⟨c, hc⟩ : ∃ c, c = impl_sorted_rest.fi.body := ⟨_, rfl⟩
 rw [← hc]
 simp only [headC, bodyOf, Tryz.f69, Option.getD]
 go_wp2_with (go_at_fn 117; refine hC.mono ?_; rintro e w' ⟨rfl, hw⟩)
 obtain ⟨hrd, hbig⟩ := hP _ hw
 rw [hc]
 refine wp_rest env_ok0 (.inr rfl) (impl_sorted_rest.part std rfl ls (by omega)) rfl (σ := σ) rfl rfl ?_ hbig ?_
 · intro i hi
   match i, hi with
   | 0, _ => exact .inr (.inl ⟨rfl, hrd⟩)
   | 1, _ => exact .inl rfl
   | 2, _ => exact .inr (.inl ⟨rfl, .slN _ _⟩)
 · rintro v' d tk σ' w'' ⟨rfl, _⟩ h1 h2 h3 h3d h4 h5
   exact ⟨v', σ', w', rfl, hw, h1, ⟨h3, h3d⟩, h4, h5⟩
end Go.Mach
namespace Go.Mach
open Go Go.RowKit Go.Proofs
open Go.Sort hiding Below
section
variable {α : Type} [Inhabited α]
def srtS (l : List ByteArray) : List ByteArray := ((l.map fun b => b.data.toList).mergeSort fun x y => decide (x ≤ y)).map fun b => (⟨b.toArray⟩ : ByteArray)
theorem len_srtS (l : List ByteArray) : (srtS l).length = l.length := by simp [srtS]
theorem heap_sorted {enc : α → Value} {w : World} {g o n : Nat} {os : Array Obj} (d : Array α) {k : Nat} (hk : k < w.heap.size) (hne : k ≠ g) : (grow (putRow enc (Sort.ahead w n) g o d) os).heap[k]? = w.heap[k]? := by
 rw [heap_grow_old _ _ (by simpa using hk)]
 have : g ≠ k := fun e => hne e.symm
 simp [putRow, mapBlock, Sort.ahead, Array.getElem?_modify, this]
theorem size_sorted {enc : α → Value} {w : World} {g o n : Nat} {os : Array Obj} (d : Array α) : w.heap.size ≤ (grow (putRow enc (Sort.ahead w n) g o d) os).heap.size := by simp
theorem below_sorted {enc : α → Value} {w : World} {g o n B : Nat} {os : Array Obj} (d : Array α) (hB : B ≤ g) (hg : g < w.heap.size) : Below B w (grow (putRow enc (Sort.ahead w n) g o d) os) :=
 ⟨rfl, rfl, rfl, size_sorted d, fun k hk => heap_sorted d (by omega) (by omega)⟩
theorem holds_ahead {enc : α → Value} {w : World} {b o n : Nat} {d : Array α} (h : Holds enc w b o d) : Holds enc (Sort.ahead w n) b o d := h
theorem cell_sorted {enc : α → Value} {w : World} {g o n : Nat} {os : Array Obj} {d0 d : Array α} (h0 : Holds enc w g o d0) (hs : d.size = d0.size) (hg : g < w.heap.size) {j : Nat} (hj : j < d.size) :
  (grow (putRow enc (Sort.ahead w n) g o d) os).cell? ⟨g, o + j, none⟩ = some (enc d[j]!) := by
 rw [cell?_grow _ _ _ (by simpa using hg)]
 exact cell?_putRow enc _ g o d0 d (holds_ahead h0) hs j hj
theorem sortS_calls {σ : Nat → Nat} {w : World} {ls : List ByteArray} {v : Value} {B : Nat} {t : Tok} (hr : RD σ w (.sl t 1 (eB ls)) v) (hlen : ls.length < 4611686018427387904) (hbig : ∀ b, w.heap.size ≤ b → σ b = 0) (hBw : B ≤ w.heap.size)
  (hown : ∀ b o l c, v = .slice (some ⟨b, o, none⟩) l c → B ≤ b ∧ ∃ c e, w.heap[b]? = some (.cells c e (0, 0))) :
  ∃ σ', (∀ b, b < B → σ' b = σ b) ∧ Calls Tryz.prog 117 #[v] w fun e w' => e = .returned (.tuple #[]) ∧ ((Below B w w' ∧ w.drawn ≤ w'.drawn) ∧ RD σ' w' (.sl .ro 1 (eB (srtS ls))) v ∧ ∀ b, w'.heap.size ≤ b → σ' b = 0) := by
 generalize hes : eB ls = es at hr
 cases hr with
 | slN =>
   have hl : ls = [] := by cases ls with
    | nil => rfl
    | cons x l => simp [eB] at hes
   subst hl
   refine ⟨σ, fun _ _ => rfl, (Any.sort_Strings_none Tryz.lays192 none 0 w).mono ?_⟩
   rintro e w' ⟨rfl, rfl⟩
   have h0 : eB (srtS []) = [] := by simp [srtS, eB]
   exact ⟨rfl, ⟨Below.refl _ _, Nat.le_refl _⟩, by rw [h0]; exact .slN _ _, hbig⟩
 | sl _ _ _ b o cap f ht hz hl hc hcap hs hw h =>
   subst hes
   obtain ⟨hb, c, e, hblk⟩ := hown b o _ _ rfl
   have hbs : b < w.heap.size := by
    rcases Nat.lt_or_ge b w.heap.size with h | h
    · exact h
    · rw [Array.getElem?_eq_none h] at hblk; cases hblk
   have hkl : (eB ls).length = ls.length := by simp [eB]
   have hH : Holds encStr w b o (ls.map fun x => x.data.toList).toArray := by
    intro j hj
    have hj' : j < ls.length := by simpa using hj
    refine ⟨?_, by simp [World.frozen?, hblk]⟩
    have h1 := hw j 0 (by rw [hkl]; exact hj') hz
    have h2 := h j 0 (by rw [hkl]; exact hj') hz
    have h3 : (eB ls).getD j [] = [.str ls[j]] := by simp [eB, hj']
    rw [h3] at h2
    have h4 : f j 0 = .string ls[j] := by
     generalize f j 0 = y at h2
     cases h2; rfl
    rw [Nat.mul_one, Nat.add_zero] at h1
    rw [h1, h4]
    simp [hj', encStr]
   refine ⟨fun k => if k = b then o + ls.length else if k < B then σ k else 0, fun k hk => by dsimp only; rw [if_neg (by omega), if_pos hk], ?_⟩
   have hc2 := Any.sort_Strings Tryz.lays192 b o cap (ls.map fun x => x.data.toList) w hH hbs (by simpa using hlen)
   rw [List.length_map] at hc2
   rw [hkl]
   refine hc2.mono ?_
   rintro e w' ⟨rfl, n, os, rfl⟩
   refine ⟨rfl, ⟨below_sorted _ hb hbs, Nat.le_add_right _ _⟩, ?_, fun k hk => ?_⟩
   · have hk2 : (eB (srtS ls)).length = ls.length := by simp [eB, len_srtS]
     rw [← hk2]
     refine .sl _ _ (eB (srtS ls)) b o cap (fun i j => .string ((srtS ls).getD i ⟨#[]⟩)) (by decide) (by decide) ?_ ?_ (by omega) (fun _ => by show _ ≤ (if b = b then _ else _); rw [if_pos rfl]; omega) (fun i j hi hj => ?_) (fun i j hi hj => ?_)
     · intro e he; simp only [eB, List.mem_map] at he; obtain ⟨x, _, rfl⟩ := he; rfl
     · intro e he; simp only [eB, List.mem_map] at he; obtain ⟨x, _, rfl⟩ := he
       intro c hc; simp only [List.mem_singleton] at hc; subst hc; rfl
     · obtain rfl : j = 0 := by omega
       rw [Nat.mul_one, Nat.add_zero]
       have hi2 : i < ((ls.map fun x => x.data.toList).mergeSort fun x y => decide (x ≤ y)).toArray.size := by simp; omega
       rw [cell_sorted hH (by simp) hbs hi2]
       have hi3 : i < ls.length := by omega
       simp only [srtS, encStr]
       congr 2
       simp [hi3]
     · obtain rfl : j = 0 := by omega
       have hi3 : i < (srtS ls).length := by rw [len_srtS]; omega
       have : (eB (srtS ls)).getD i [] = [.str ((srtS ls).getD i ⟨#[]⟩)] := by simp [eB, hi3]
       rw [this]; exact .str _
   · have := size_sorted (enc := encStr) (w := w) (g := b) (o := o) (n := n) (os := os) (((ls.map fun x => x.data.toList).mergeSort fun x y => decide (x ≤ y)).toArray)
     dsimp only
     rw [if_neg (by omega), if_neg (by omega)]
end
def encF (f : Fc) : List Value := [.int .i64 f.k, .int .i64 f.n, .int .i64 f.c, .int .i64 f.v.k, .int .i64 f.v.n, .int .i64 f.v.c]
instance : Inhabited Fc := ⟨zF⟩
theorem encF_len (f : Fc) : (encF f).length = 6 := rfl
theorem encF_one (f : Fc) : ∀ v ∈ encF f, v.oneCell' = true := fun v hv => by
 simp only [encF, List.mem_cons, List.not_mem_nil, or_false] at hv
 rcases hv with rfl | rfl | rfl | rfl | rfl | rfl <;> rfl
theorem ordF_swo : SWO (ltOf ordF) where
 irrefl x := decide_eq_false fun h => ltF_irrefl x ((ordF_lt x x).1 h)
 trans x y z h k := decide_eq_true ((ordF_lt x z).2 (ltF_trans ((ordF_lt x y).1 (of_decide_eq_true h)) ((ordF_lt y z).1 (of_decide_eq_true k))))
 ntrans x y z h k := decide_eq_false fun hh => by
  have h1 : ¬ ltF x y := fun q => of_decide_eq_false h ((ordF_lt x y).2 q)
  have h2 : ¬ ltF y z := fun q => of_decide_eq_false k ((ordF_lt y z).2 q)
  have h3 := (ordF_lt x z).1 hh
  by_cases e : ltF y x
  · exact h2 (ltF_trans e h3)
  · have := ltF_total h1 e; subst this; exact h2 h3
theorem ordF_tot (x y : Fc) (h : (ltOf ordF) x y = false) (k : (ltOf ordF) y x = false) : x = y :=
 ltF_total (fun q => of_decide_eq_false h ((ordF_lt x y).2 q)) (fun q => of_decide_eq_false k ((ordF_lt y x).2 q))
theorem world_grow {W w' : World} (h : Below W.heap.size W w') (hd : W.drawn ≤ w'.drawn) : ∃ q os, w' = grow (W.drewN q) os := by
 refine ⟨w'.drawn - W.drawn, w'.heap.extract W.heap.size w'.heap.size, ?_⟩
 have hh : w'.heap = W.heap ++ w'.heap.extract W.heap.size w'.heap.size := by
  refine Array.ext_getElem? fun i => ?_
  by_cases hi : i < W.heap.size
  · rw [h.block i hi, Array.getElem?_append_left hi]
  · rw [Array.getElem?_append_right (by omega), Array.getElem?_extract]
    split
    · congr 1; omega
    · rw [Array.getElem?_eq_none (by omega)]
 have h1 := h.os; have h2 := h.tape; have h3 := h.output
 have h4 : W.drawn + (w'.drawn - W.drawn) = w'.drawn := by omega
 obtain ⟨a, b, c, d, e⟩ := w'
 simp only [grow, World.drewN] at *
 rw [h4, ← hh, ← h1, ← h2, ← h3]
theorem aggF_rd {σ : Nat → Nat} {w : World} (x : Fc) : RD σ w (.agg [.int .i64 x.k, .int .i64 x.n, .int .i64 x.c, .int .i64 x.v.k, .int .i64 x.v.n, .int .i64 x.v.c]) (.agg (encF x).toArray) := by
 refine .agg _ _ rfl (by intro c hc; simp only [List.mem_cons, List.not_mem_nil, or_false] at hc; rcases hc with rfl | rfl | rfl | rfl | rfl | rfl <;> rfl) fun i hi => ?_
 match i, hi with
 | 0, _ => exact .int _ _
 | 1, _ => exact .int _ _
 | 2, _ => exact .int _ _
 | 3, _ => exact .int _ _
 | 4, _ => exact .int _ _
 | 5, _ => exact .int _ _
theorem order_calls (x y : Fc) (W : World) : Calls Tryz.prog 157 #[.agg (encF x).toArray, .agg (encF y).toArray] W fun e w' => e = .returned (.int .i64 (ordF x y)) ∧ ∃ q os, w' = grow (W.drewN q) os := by
 refine (ans_calls env_ok0 (impl_order.ans std rfl x.k x.n x.c x.v.k x.v.n x.v.c y.k y.n y.c y.v.k y.v.n y.v.c) (W := W) (σ := fun _ => 0) rfl ?_ (fun _ _ => rfl)).mono ?_
 · intro i hi
   match i, hi with
   | 0, _ => exact .inl ⟨rfl, aggF_rd x⟩
   | 1, _ => exact .inl ⟨rfl, aggF_rd y⟩
 · rintro e w' ⟨v, σ', rfl, hr, _, ⟨hb, hd⟩, _⟩
   cases hr
   exact ⟨rfl, world_grow hb hd⟩
theorem order_lays (blk off size : Nat) (w : World) : CmpLays Tryz.prog 157 #[] encF 6 ordF blk off size w := fun m os dk _ x y => order_calls x y _
def OwnF (w : World) (B : Nat) (fs : List Fc) (v : Value) : Prop :=
 (fs = [] ∧ v = .slice none 0 0) ∨ ∃ b o cap, v = .slice (some ⟨b, o, none⟩) fs.length cap ∧ B ≤ b ∧ b < w.heap.size ∧ fs.length ≤ cap ∧ HoldsK encF 6 w b o fs.toArray
def srtF (l : List Fc) : List Fc := l.mergeSort fun x y => !(ltOf ordF) y x
theorem len_srtF (l : List Fc) : (srtF l).length = l.length := by simp [srtF]
theorem sortF_calls {w : World} {fs : List Fc} {v : Value} {B : Nat} (h : OwnF w B fs v) (hlen : fs.length < 4611686018427387904) :
  Calls Tryz.prog 156 #[v, .func (.func 157) #[] #[]] w fun e w' => e = .returned (.tuple #[]) ∧ (Below B w w' ∧ w.drawn ≤ w'.drawn) ∧ OwnF w' B (srtF fs) v := by
 rcases h with ⟨rfl, rfl⟩ | ⟨b, o, cap, rfl, hB, hb, hcap, hH⟩
 · refine Calls.mono (P := Tryz.prog) (f := 156) (AnyF.slices_SortFunc_none Tryz.sortFc none 0 _ w) ?_
   rintro e w' ⟨rfl, rfl⟩
   exact ⟨rfl, ⟨Below.refl _ _, Nat.le_refl _⟩, .inl ⟨by simp [srtF], rfl⟩⟩
 · have eg : ∀ args w, (callFunc 157 args).run Tryz.prog w = .ok (.enter 157 args) w := enters_of Tryz.func157 (by kernel_rfl) rfl
   have hc := AnyQ.slices_SortFunc_total Tryz.sortFc 6 Tryz.isAgg34 Tryz.sizeOf34 encF encF_len encF_one ordF ordF_swo 157 #[] b o cap fs.toArray w eg (order_lays _ _ _ _) hH hb (by simpa using hlen) ordF_tot
   have hsz : fs.toArray.size = fs.length := by simp
   rw [hsz] at hc
   refine Calls.mono (P := Tryz.prog) (f := 156) hc ?_
   rintro e w' ⟨rfl, n, os, rfl⟩
   refine ⟨rfl, ⟨?_, Nat.le_add_right _ _⟩, .inr ⟨b, o, cap, by rw [len_srtF], hB, ?_, by rw [len_srtF]; exact hcap, ?_⟩⟩
   · exact below_sorted (enc := id) _ hB hb
   · exact Nat.lt_of_lt_of_le hb (size_sortWorldK_c encF 6 w b o n _ os)
   · exact holdsK_sortWorldK_c encF 6 w b o fs.toArray _ n os hH hb (by simp)
end Go.Mach
namespace Go.Mach
open Go Go.RowKit Go.Proofs Go.Lib Go.Shelf
open Go.Sort hiding Below
section
variable {enc : Fc → List Value} {k : Nat} {w W : World} {b o : Nat} {dk d : Array Fc}
structure WF (enc : Fc → List Value) (k : Nat) (w W : World) (b o : Nat) (dk : Array Fc) : Prop where
 hold : HoldsK enc k W b o dk
 size : W.heap.size = w.heap.size
 other : ∀ i, i ≠ b → W.heap[i]? = w.heap[i]?
 os : W.os = w.os
 tape : W.tape = w.tape
 output : W.output = w.output
 drawn : w.drawn ≤ W.drawn
theorem WF.start (h : HoldsK enc k w b o d) : WF enc k w w b o d := ⟨h, rfl, fun _ _ => rfl, rfl, rfl, rfl, Nat.le_refl _⟩
theorem WF.drewN (h : WF enc k w W b o dk) (q : Nat) : WF enc k w (W.drewN q) b o dk := ⟨h.hold, h.size, h.other, h.os, h.tape, h.output, Nat.le_trans h.drawn (Nat.le_add_right _ _)⟩
theorem WF.load (h : WF enc k w W b o dk) (hk : ∀ x, (enc x).length = k) (P : Program) (i : Nat) (hi : i < dk.size) : Sem.run P (loadCellsFrom ⟨b, o + i * k, none⟩ 0 k #[]) W = .ok (enc dk[i]!).toArray W :=
 run_loadCellsFrom_list P _ _ _ k (hk _) (HoldsK.cells h.hold hk hi)
theorem WF.st (h : WF enc k w W b o dk) (hk : ∀ x, (enc x).length = k) (h1 : ∀ x, ∀ v ∈ enc x, v.oneCell' = true) (P : Program) (i : Nat) (hi : i < dk.size) (y : Fc) :
  Sem.run P (storeCells ⟨b, o + i * k, none⟩ (enc y) 0) W = .ok () (W.setCells b (o + i * k) (enc y)) :=
 stores_of_holds P h.hold (i * k) _ (by rw [hk, size_flatK]; exact rowK_bnd dk k i hi) (h1 _)
theorem flat_set (hk : ∀ x, (enc x).length = k) (i : Nat) (hi : i < dk.size) (x : Fc) : setMany (flatK enc k dk) (i * k) (enc x) = flatK enc k (dk.setIfInBounds i x) := by
 refine ext_get! (by simp) fun t ht => ?_
 have ht' : t < dk.size * k := by simpa using ht
 have k0 : 0 < k := by rcases Nat.eq_zero_or_pos k with h | h; · subst h; simp at ht'
                       · exact h
 rw [get_setMany _ _ _ _ (by simpa using ht'), get_flatK _ _ _ _ (by simpa using ht'), hk]
 by_cases e : t / k = i
 · have h1 := (blk_iff k i t k0).2 e
   rw [if_pos h1, get_flatK enc k (dk.setIfInBounds i x) t (by simpa using ht'), e, getElem!_set_same dk i x hi]
   congr 1
   have := Nat.div_add_mod t k
   rw [e, Nat.mul_comm] at this; omega
 · have h1 : ¬ (i * k ≤ t ∧ t < i * k + k) := fun q => e ((blk_iff k i t k0).1 q)
   rw [if_neg h1, get_flatK enc k (dk.setIfInBounds i x) t (by simpa using ht'), getElem!_set_other dk i (t / k) x e]
theorem WF.set (h : WF enc k w W b o dk) (hk : ∀ x, (enc x).length = k) (i : Nat) (hi : i < dk.size) (x : Fc) : WF enc k w (W.setCells b (o + i * k) (enc x)) b o (dk.setIfInBounds i x) := by
 obtain ⟨e1, e2, e3, e4⟩ := rest_setCells b (enc x) (o + i * k) W
 refine ⟨?_, by rw [size_setCells]; exact h.size, fun j hj => ?_, by rw [e1]; exact h.os, by rw [e2]; exact h.tape, by rw [e3]; exact h.output, by rw [e4]; exact h.drawn⟩
 · have := holds_setCells_c h.hold (i * k) (enc x) (by rw [hk, size_flatK]; exact rowK_bnd dk k i hi)
   rw [flat_set hk i hi x] at this
   exact this
 · rw [heap_setCells b _ _ _ _ hj]; exact h.other j hj
theorem WF.zero (h : WF enc k w W b o dk) (vs : List Value) (kk : Nat) (hkk : kk ≤ dk.size) (hvs : vs.length ≤ (dk.size - kk) * k) (r : List Fc) (hr : r.length = kk) (hl : ∀ j, j < kk → r[j]? = some dk[j]!) :
  WF enc k w (W.setCells b (o + kk * k) vs) b o r.toArray := by
 obtain ⟨e1, e2, e3, e4⟩ := rest_setCells b vs (o + kk * k) W
 refine ⟨fun t ht => ?_, by rw [size_setCells]; exact h.size, fun j hj => ?_, by rw [e1]; exact h.os, by rw [e2]; exact h.tape, by rw [e3]; exact h.output, by rw [e4]; exact h.drawn⟩
 · have ht' : t < kk * k := by have := ht; simp only [size_flatK, List.size_toArray, hr] at this; exact this
   have hle : kk * k ≤ dk.size * k := Nat.mul_le_mul_right _ hkk
   obtain ⟨h1, h2⟩ := h.hold t (by rw [size_flatK]; omega)
   have k0 : 0 < k := by rcases Nat.eq_zero_or_pos k with h | h; · subst h; simp at ht'
                         · exact h
   have hj : t / k < kk := (Nat.div_lt_iff_lt_mul k0).2 ht'
   rw [World.cell?_setCells_out b vs _ _ _ (fun _ _ => by left; show o + t < o + kk * k; omega), World.frozen?_setCells]
   refine ⟨?_, h2⟩
   rw [h1, get_flatK _ _ _ _ (by omega), get_flatK _ _ _ _ (by simpa [hr] using ht')]
   have h3 := hl _ hj
   have h4 : r.toArray[t / k]! = dk[t / k]! := by
    rw [getElem!_pos r.toArray (t / k) (by simpa [hr] using hj)]
    have h5 : r[t / k]? = some r[t / k] := List.getElem?_eq_getElem (by omega)
    rw [h5] at h3
    simpa using Option.some.inj h3
   rw [h4]
 · rw [heap_setCells b _ _ _ _ hj]; exact h.other j hj
theorem run_clear_k {P : Program} {t e : TypeId} {z : Value} (ht : P.underlying t = some (.slice e)) (hv : ∀ w, (zeroValue e).run P w = .ok z w) (h1 : ∀ v ∈ z.cells, v.oneCell' = true) (hz : z.cells.size = k) (h : WF enc k w W b o dk) (kk n c : Nat) (hn : 0 < n) (hkn : kk + n = dk.size) :
  (∀ ty, (Builtin.clear_ #[t] ty #[.slice (some ⟨b, o + kk * k, none⟩) n c]).run P W = .ok (.tuple #[]) (W.setCells b (o + kk * k) (Builtin.zeroCells z.cells n).toList)) ∧ (Builtin.zeroCells z.cells n).toList.length ≤ n * k := by
 refine ⟨fun ty => ?_, by simp [Builtin.zeroCells, hz]⟩
 have hlen : (Builtin.zeroCells z.cells n).toList.length = n * k := by simp [Builtin.zeroCells, hz]
 have hbnd : kk * k + n * k = dk.size * k := by rw [← Nat.add_mul, hkn]
 have hst := stores_of_holds P h.hold (kk * k) (Builtin.zeroCells z.cells n).toList (by rw [hlen, size_flatK]; omega) (fun v hv' => ?_)
 · obtain ⟨m, rfl⟩ : ∃ m, n = m + 1 := ⟨n - 1, by omega⟩
   simp [Builtin.clear_, run_underlying ht, hv, hst]
 · obtain ⟨i, hi, rfl⟩ := List.getElem_of_mem hv'
   refine h1 _ ?_
   have hi' : i < n * z.cells.size := by simpa [Builtin.zeroCells] using hi
   have h0 : 0 < z.cells.size := by rcases Nat.eq_zero_or_pos z.cells.size with h | h; · rw [h] at hi'; simp at hi'
                                    · exact h
   have hm := Nat.mod_lt i h0
   simp only [Builtin.zeroCells, Array.getElem_toList, Array.getElem_map, Array.getElem_range]
   rw [getElem!_pos z.cells _ hm]
   exact Array.getElem_mem hm
end
def Good (enc : Fc → List Value) (k : Nat) (w : World) (b o : Nat) (d : Array Fc) (w' : World) : Prop := WF enc k w w' b o (compactUpTo d d.size).toArray
set_option maxHeartbeats 8000000 in
set_option maxRecDepth 1000000 in
theorem compact_core (enc : Fc → List Value) (k : Nat) (z55 : ∀ w, (Go.sizeOf 34).run Tryz.prog w = .ok k w) (hk : ∀ x, (enc x).length = k) (h1 : ∀ x, ∀ v ∈ enc x, v.oneCell' = true)
  (heq : ∀ (x y : Fc) (w : World), Sem.run Tryz.prog (binOp .eql 34 (.agg (enc x).toArray) (.agg (enc y).toArray)) w = .ok (.bool (decide (x = y))) w)
  (hne : ∀ (x y : Fc) (w : World), Sem.run Tryz.prog (binOp .neq 34 (.agg (enc x).toArray) (.agg (enc y).toArray)) w = .ok (.bool (!decide (x = y))) w)
  (hgd : ∀ (op : BinOp) (a b : Operand) (x y : Fc) (w : World), Sem.run Tryz.prog (eqGuard op 34 a b (.agg (enc x).toArray) (.agg (enc y).toArray)) w = .ok () w)
  (zr : Fc) (v55 : ∀ w, (zeroValue 34).run Tryz.prog w = .ok (.agg (enc zr).toArray) w) (blk off cap : Nat) (d : Array Fc) (w : World) (hH : HoldsK enc k w blk off d) (hsz : d.size ≤ 9223372036854775807) (hcap : d.size ≤ cap) :
  Calls Tryz.prog 158 #[.slice (some ⟨blk, off, none⟩) d.size cap] w fun e w' => e = .returned (.slice (some ⟨blk, off, none⟩) (compactUpTo d d.size).length cap) ∧ Good enc k w blk off d w' := by
 have mixed := mixed_ok
 have t3 := Tryz.underlying3; have a3 := Tryz.isAgg3; have z3 := Tryz.sizeOf3; have v3 := Tryz.zeroValue3
 have t36 := Tryz.underlying28; have a36 := Tryz.isAgg28; have z36 := Tryz.sizeOf28; have v36 := Tryz.zeroValue28
 have a55 := Tryz.isAgg34
 have same : ∀ W, WF enc k w W blk off d → (∀ j, j < d.size → keeps d j = true) → (compactUpTo d d.size).length = d.size ∧ Good enc k w blk off d W := by
  intro W hW hall
  have e : compactUpTo d d.size = d.toList := by rw [compactUpTo_all d _ hall, range_map_get]
  refine ⟨by rw [e]; simp, ?_⟩
  unfold Good; rw [e, Array.toArray_toList]; exact hW
 have HS : Aside (∀ W, WF enc k w W blk off d → (∀ j, j < d.size → keeps d j = true) → (compactUpTo d d.size).length = d.size ∧ Good enc k w blk off d W) := same
 have HK : Aside (∀ x, (enc x).length = k) := hk
 have H1 : Aside (∀ x, ∀ v ∈ enc x, v.oneCell' = true) := h1
 have HW : Aside (WF enc k w w blk off d) := WF.start hH
 have hn : Tryz.f158.ntmps = 61 := by kernel_rfl
 clear same hk h1 hH
 by_cases h2 : d.size < 2
 · go_enter Tryz.func158, hn
   go_wp2
   go_ret
   obtain ⟨e1, e2⟩ := HS.out w HW.out (fun j hj => keeps_lt_one d j (by omega))
   exact ⟨by rw [e1]; rfl, e2⟩
 · go_enter Tryz.func158, hn
   go_wp2
   go_loopg [3] d.size (fun g s3 wr => ∃ kk : Nat, 1 ≤ kk ∧ kk ≤ d.size ∧ d.size - kk ≤ g ∧ s3 = .int .i64 kk ∧ Aside (WF enc k w wr blk off d) ∧ Aside (∀ j, j < kk → keeps d j = true))
   case atStart => exact ⟨1, Nat.le_refl _, by omega, by omega, rfl, HW, keeps_lt_one d⟩
   case round =>
    obtain ⟨kk, hk1, hkd, hg, rfl, HR, A⟩ := hrel
    by_cases hlt : kk < d.size
    · obtain ⟨kp, rfl⟩ : ∃ kp, kk = kp + 1 := ⟨kk - 1, by omega⟩
      have hwp : IntKind.i64.wrap (kp : Int) = (kp : Int) := by rw [IntKind.wrap_i64]; omega
      have jz : (kp : Int) + 1 < (d.size : Int) := by omega
      have jz1 : (kp : Int) < (d.size : Int) := by omega
      have p0 : (0 : Int) ≤ (kp : Int) + 1 := by omega
      have e0 : ((kp : Int) + 1).toNat = kp + 1 := by omega
      have g1 : ∀ m, Sem.run Tryz.prog (loadCellsFrom ⟨blk, off + (kp + 1) * k, none⟩ 0 k #[]) (wr.drewN m) = .ok (enc d[kp + 1]!).toArray (wr.drewN m) := fun m => (HR.out.drewN m).load HK.out _ (kp + 1) hlt
      have g2 : ∀ m, Sem.run Tryz.prog (loadCellsFrom ⟨blk, off + kp * k, none⟩ 0 k #[]) (wr.drewN m) = .ok (enc d[kp]!).toArray (wr.drewN m) := fun m => (HR.out.drewN m).load HK.out _ kp (by omega)
      generalize hx : d[kp + 1]! = x at g1
      generalize hy : d[kp]! = y at g2
      have B : Aside (d[kp + 1]! = x ∧ d[kp]! = y) := ⟨hx, hy⟩
      clear hx hy
      by_cases hdup : x = y
      · subst hdup
        go_wp2_with fail
        go_quiet_o (fail)
        go_wp2
        clear g1 g2
        have hkc : kp + 1 < d.size := by omega
        go_loopg [3, 5] d.size (fun g s3 s5 wr2 => ∃ (k0 k2 : Nat) (dk : Array Fc), s3 = .int .i64 k0 ∧ s5 = .int .i64 k2 ∧ 1 ≤ k2 ∧ kp + 1 + k2 ≤ d.size ∧ d.size - (kp + 1 + k2) ≤ g ∧ Aside (WF enc k w wr2 blk off dk) ∧ Aside (CompInv d (kp + 1 + k2) k0 dk) ∧ k0 < kp + 1 + k2)
        case atStart => exact ⟨kp + 1, 1, d, by go_num, rfl, Nat.le_refl _, by omega, by omega, HR.out.drewN _, CompInv.start A.out (keeps_neg (by omega) (by rw [Nat.add_sub_cancel, B.out.1, B.out.2])), by omega⟩
        case round =>
         obtain ⟨k0, k2, dk, rfl, rfl, h1, hle, hg2, HR2, I2, hk0⟩ := hrel
         by_cases hlt2 : kp + 1 + k2 < d.size
         · obtain ⟨p2, rfl⟩ : ∃ p2, k2 = p2 + 1 := ⟨k2 - 1, by omega⟩
           have hds := I2.out.size
           have e1 : dk[kp + 1 + (p2 + 1)]! = d[kp + 1 + (p2 + 1)]! := I2.out.high _ (by omega)
           have e2 : dk[kp + 1 + p2]! = d[kp + 1 + p2]! := I2.out.high _ (by omega)
           have l1 : ∀ m, Sem.run Tryz.prog (loadCellsFrom ⟨blk, off + (kp + 1) * k + (p2 + 1) * k, none⟩ 0 k #[]) (wr.drewN m) = .ok (enc d[kp + 1 + (p2 + 1)]!).toArray (wr.drewN m) := fun m => by
            have := (HR2.out.drewN m).load HK.out Tryz.prog (kp + 1 + (p2 + 1)) (by omega)
            rw [e1, Nat.add_mul (kp + 1), ← Nat.add_assoc] at this; exact this
           have l2 : ∀ m, Sem.run Tryz.prog (loadCellsFrom ⟨blk, off + (kp + 1) * k + p2 * k, none⟩ 0 k #[]) (wr.drewN m) = .ok (enc d[kp + 1 + p2]!).toArray (wr.drewN m) := fun m => by
            have := (HR2.out.drewN m).load HK.out Tryz.prog (kp + 1 + p2) (by omega)
            rw [e2, Nat.add_mul (kp + 1), ← Nat.add_assoc] at this; exact this
           have hwp2 : IntKind.i64.wrap (p2 : Int) = (p2 : Int) := by rw [IntKind.wrap_i64]; omega
           have q0 : (0 : Int) ≤ (p2 : Int) + 1 := by omega
           have q1 : ((p2 : Int) + 1).toNat = p2 + 1 := by omega
           have q2 : (p2 : Int) + 1 < ((d.size - (kp + 1) : Nat) : Int) := by omega
           have q3 : (p2 : Int) < ((d.size - (kp + 1) : Nat) : Int) := by omega
           have b0 : (k0 : Int) < (d.size : Int) := by omega
           have b1 : k0 < d.size := by omega
           clear e1 e2
           generalize hu : d[kp + 1 + (p2 + 1)]! = u at l1
           generalize hv : d[kp + 1 + p2]! = v at l2
           have C : Aside (d[kp + 1 + (p2 + 1)]! = u ∧ d[kp + 1 + p2]! = v) := ⟨hu, hv⟩
           clear hu hv
           by_cases huv : u = v
           · subst huv
             go_wp2_with fail
             go_quiet_o (fail)
             go_wp2
             go_roundg (d.size - (kp + 1 + (p2 + 1 + 1)))
             case measure => omega
             case rel => exact ⟨k0, p2 + 1 + 1, dk, rfl, by go_num, by omega, by omega, Nat.le_refl _, (show Aside _ from HR2.out.drewN _), (show Aside _ from I2.out.skip (keeps_neg (by omega) (by rw [show kp + 1 + (p2 + 1) - 1 = kp + 1 + p2 by omega, C.out.1, C.out.2]))), by omega⟩
           · have hku : (enc u).length = k := HK.out u
             have s1 : ∀ m, Sem.run Tryz.prog (storeCells ⟨blk, off + k0 * k, none⟩ (enc u) 0) (wr.drewN m) = .ok () ((wr.drewN m).setCells blk (off + k0 * k) (enc u)) := fun m => (HR2.out.drewN m).st HK.out H1.out _ k0 (by omega) u
             go_wp2_with fail
             go_quiet_o (fail)
             go_wp2
             go_roundg (d.size - (kp + 1 + (p2 + 1 + 1)))
             case measure => omega
             case rel => exact ⟨k0 + 1, p2 + 1 + 1, dk.setIfInBounds k0 u, by go_num, by go_num, by omega, by omega, Nat.le_refl _, (show Aside _ from (HR2.out.drewN _).set HK.out k0 (by omega) u), (show Aside _ from by
              have h := I2.out.keep hlt2 (keeps_pos (by rw [show kp + 1 + (p2 + 1) - 1 = kp + 1 + p2 by omega, C.out.1, C.out.2]; exact huv))
              rw [C.out.1] at h; exact h), by omega⟩
         · have hend : kp + 1 + k2 = d.size := by omega
           have hds := I2.out.size
           have b0 : (k0 : Int) < (d.size : Int) := by omega
           have b1 : k0 < d.size := by omega
           have b2 : ¬ (k2 : Int) < ((d.size - (kp + 1) : Nat) : Int) := by omega
           obtain ⟨hcl, hcn⟩ := run_clear_k (P := Tryz.prog) (t := 28) (e := 34) (z := .agg (enc zr).toArray) t36 v55 (fun v hv => H1.out zr v (by simpa [Value.cells] using hv)) (by simp [Value.cells, HK.out]) HR2.out k0 (d.size - k0) (cap - k0) (by omega) (by omega)
           generalize hvs : (Builtin.zeroCells (Value.agg (enc zr).toArray).cells (d.size - k0)).toList = vs at hcl hcn
           go_wp2
           go_ret
           have hI := I2.out
           rw [hend] at hI
           refine ⟨by rw [hI.len]; rfl, ?_⟩
           exact HR2.out.zero vs k0 (by omega) (by rw [hds]; exact hcn) _ hI.len hI.low
      · go_wp2_with fail
        go_quiet_o (fail)
        go_wp2
        go_roundg (d.size - (kp + 1 + 1))
        case measure => omega
        case rel =>
         refine ⟨kp + 1 + 1, by omega, by omega, Nat.le_refl _, by go_num, (show Aside _ from HR.out.drewN _), (show Aside _ from fun j hj => ?_)⟩
         by_cases e : j = kp + 1
         · subst e
           exact keeps_pos (by rw [Nat.add_sub_cancel, B.out.1, B.out.2]; exact hdup)
         · exact A.out j (by omega)
    · have : kk = d.size := by omega
      subst this
      go_wp2
      go_ret
      obtain ⟨e1, e2⟩ := HS.out _ HR.out A.out
      exact ⟨by rw [e1]; rfl, e2⟩
end Go.Mach
namespace Go.Mach
open Go Go.RowKit Go.Proofs Go.Lib
def cmpF (l : List Fc) : List Fc := compactUpTo l.toArray l.toArray.size
theorem get_toArray (l : List Fc) {i : Nat} (h : i < l.length) : l.toArray[i]! = l[i] := by
 rw [getElem!_pos l.toArray i (by simpa using h)]; simp
theorem cmp_mem {d : Array Fc} : ∀ (m : Nat), m ≤ d.size → ∀ x, x ∈ compactUpTo d m ↔ ∃ j, j < m ∧ d[j]! = x
 | 0, _, x => by simp [compactUpTo]
 | m + 1, hm, x => by
   rw [compactUpTo_succ, List.mem_append, cmp_mem m (by omega) x]
   constructor
   · rintro (⟨j, h1, h2⟩ | h)
     · exact ⟨j, by omega, h2⟩
     · split at h
       · rw [List.mem_singleton] at h; exact ⟨m, by omega, h.symm⟩
       · cases h
   · rintro ⟨j, h1, h2⟩
     by_cases e : j = m
     · subst e
       by_cases hk : keeps d j = true
       · right; rw [if_pos hk, List.mem_singleton]; exact h2.symm
       · left
         have h3 : ¬ (j = 0 ∨ d[j]! ≠ d[j - 1]!) := fun q => hk (decide_eq_true q)
         have h4 : j ≠ 0 := fun q => h3 (.inl q)
         have h5 : d[j]! = d[j - 1]! := Classical.byContradiction fun q => h3 (.inr q)
         exact ⟨j - 1, by omega, by rw [← h5]; exact h2⟩
     · exact .inl ⟨j, by omega, h2⟩
theorem cmp_up {d : Array Fc} (hs : ∀ i j, i < j → j < d.size → ¬ ltF d[j]! d[i]!) : ∀ (m : Nat), m ≤ d.size → Up (compactUpTo d m)
 | 0, _ => by simp [compactUpTo, Up]
 | m + 1, hm => by
   rw [compactUpTo_succ]
   unfold Up
   rw [List.pairwise_append]
   refine ⟨cmp_up hs m (by omega), ?_, fun x hx y hy => ?_⟩
   · split <;> simp
   · split at hy
     · rename_i hk
       rw [List.mem_singleton] at hy; subst hy
       obtain ⟨j, h1, rfl⟩ := (cmp_mem m (by omega) x).1 hx
       have h2 : m = 0 ∨ d[m]! ≠ d[m - 1]! := of_decide_eq_true hk
       have h3 : d[m]! ≠ d[m - 1]! := h2.resolve_left (by omega)
       have h4 : ltF d[m - 1]! d[m]! := Classical.byContradiction fun q => h3 (ltF_total (hs (m - 1) m (by omega) (by omega)) q)
       by_cases e : j = m - 1
       · subst e; exact h4
       · have h5 := hs j (m - 1) (by omega) (by omega)
         by_cases h6 : ltF d[j]! d[m - 1]!
         · exact ltF_trans h6 h4
         · rw [ltF_total h6 h5]; exact h4
     · cases hy
theorem srt_sorted (l : List Fc) : (srtF l).Pairwise fun x y => ¬ ltF y x := by
 unfold srtF
 refine (List.pairwise_mergeSort (le := fun x y => !(ltOf ordF) y x) ?_ ?_ l).imp ?_
 · intro a b c h1 h2
   have q1 : ¬ ltF b a := fun q => by have := decide_eq_true ((ordF_lt b a).2 q); simp [ltOf, this] at h1
   have q2 : ¬ ltF c b := fun q => by have := decide_eq_true ((ordF_lt c b).2 q); simp [ltOf, this] at h2
   have q3 : ¬ ltF c a := fun q => by
    by_cases e : ltF a b
    · exact q2 (ltF_trans q e)
    · have := ltF_total e q1; subst this; exact q2 q
   have : decide (ordF c a < 0) = false := decide_eq_false fun q => q3 ((ordF_lt c a).1 q)
   simp [ltOf, this]
 · intro a b
   by_cases e : ltF a b
   · have : decide (ordF b a < 0) = false := decide_eq_false fun q => ltF_irrefl a (ltF_trans e ((ordF_lt b a).1 q))
     simp only [ltOf, this]; simp
   · have : decide (ordF a b < 0) = false := decide_eq_false fun q => e ((ordF_lt a b).1 q)
     simp only [ltOf, this]; simp
 · intro a b h q
   have := decide_eq_true ((ordF_lt b a).2 q)
   simp only [ltOf, this] at h
   cases h
theorem srt_mem (l : List Fc) (x : Fc) : x ∈ srtF l ↔ x ∈ l := by unfold srtF; exact List.mem_mergeSort
theorem cmpF_up (l : List Fc) : Up (cmpF (srtF l)) := by
 refine cmp_up (fun i j hij hj => ?_) _ (Nat.le_refl _)
 have hj' : j < (srtF l).length := by simpa using hj
 rw [get_toArray _ hj', get_toArray _ (by omega)]
 exact List.pairwise_iff_getElem.1 (srt_sorted l) i j (by omega) hj' hij
theorem cmpF_mem (l : List Fc) (x : Fc) : x ∈ cmpF (srtF l) ↔ x ∈ l := by
 unfold cmpF
 rw [cmp_mem _ (Nat.le_refl _), ← srt_mem l x, List.mem_iff_getElem]
 constructor
 · rintro ⟨j, h1, h2⟩
   have h1' : j < (srtF l).length := by simpa using h1
   exact ⟨j, h1', by rw [← h2, get_toArray _ h1']⟩
 · rintro ⟨j, h1, h2⟩
   exact ⟨j, by simpa using h1, by rw [get_toArray _ h1]; exact h2⟩
theorem cmpF_pass {l : List Nd} (hC : Clo l) {fs : List Fc} (h : Fit l fs) (dp : Int) : cmpF (srtF (moreI l (bindsM l) dp fs ++ fs)) = passM l dp fs :=
 pass_same hC h dp (cmpF_up _) fun x => by rw [cmpF_mem, List.mem_append]
end Go.Mach
namespace Go.Mach
open Go Go.RowKit Go.Proofs
theorem impl_factAt.ans {xa xb : Option (List D → Option D)} (o : Std) (ho : o = std) (l : List Fc) (f_k : Int) (f_n : Int) (f_c : Int) (f_v_k : Int) (f_v_n : Int) (f_v_c : Int) (h0 : Up l) (h1 : l.length ≤ 2900000000000) : Ans (env xa xb) 107 [rFc o l, .agg [iX f_k, iX f_n, iX f_c, iX f_v_k, iX f_v_n, iX f_v_c]] (iX (((posF l (⟨f_k, f_n, f_c, ⟨f_v_k, f_v_n, f_v_c⟩⟩ : Fc) : Nat) : Int))) := by
 refine Ans.mkA ho _ rfl rfl ?_
 repeat' (first
  | (refine .id ?_
     (try (conv => arg 2; cbv))
     first
      | (refine .indF (fun m_ s_ => ∃ (a5 : Int) (a6 : Int) (tk : List Nat), s_ = ⟨[rFc o l, Jk, Jk, .pbx (.loc 0) 0, Jk, iX a5, iX a6] ++ List.replicate 20 Jk, [[[iX f_k, iX f_n, iX f_c, iX f_v_k, iX f_v_n, iX f_v_c]]], [], tk⟩ ∧ (0 ≤ a5 ∧ a5 ≤ a6 ∧ a6 ≤ l.length ∧ (∀ j : Nat, (j : Int) < a5 → ltF (l.getD j zF) (⟨f_k, f_n, f_c, ⟨f_v_k, f_v_n, f_v_c⟩⟩ : Fc)) ∧ (∀ j : Nat, a6 ≤ j → j < l.length → ¬ ltF (l.getD j zF) (⟨f_k, f_n, f_c, ⟨f_v_k, f_v_n, f_v_c⟩⟩ : Fc))) ∧ (a6 - a5).toNat ≤ m_) _ _ ⟨_, _, _, by subst ho; rfl, ?_, Nat.le_refl _⟩ ?_
         rotate_right
         rintro m_ _ ⟨a5, a6, tk, rfl, hIa, hka⟩ iha
         obtain ⟨i1, i2, i3, i4, i5⟩ := hIa; refine .unloopA ho ?_
         repeat' (first
          | (refine .id ?_
             (try (conv => arg 2; cbv))
             first
              | refine .testT ?_
              | refine .testF ?_
              | (refine .test (fun hr => ?_) (fun hr => ?_) <;> (have hb := hr) <;> (try simp (disch := omega) only [ho, std, wI, lenE, nrm] at hb) <;> (try (exfalso; first | contradiction | omega | exact hb rfl)))
              | (refine .pE (β := Bool) .bool (as' := [.agg [iX _, iX _, iX _, iX _, iX _, iX _], .agg [iX _, iX _, iX _, iX _, iX _, iX _]]) (impl_FactLess.ans o ho _ _ _ _ _ _ _ _ _ _ _ _) ?_; rintro (_ | _) hv <;> (try simp only [dE] at hv) <;> (try first | contradiction | exact bX hv))
              | (refine .fetchXFc ho ?_ ?_ (fun y hy => ?_); rotate_left 2; rcases y with ⟨yk, yn, yc, yvk, yvn, yvc⟩)
              | (refine .needD ho (by kernel_rfl) ?_)
              | (refine .need ?_ ?_)
              | (refine iha _ _ ?_ ⟨_, _, _, by subst ho; rfl, ?_, Nat.le_refl _⟩)
              | (refine .fin ?_; (conv => lhs; cbv); refine congrArg some ?_))
          | ((fail_if_success (refine .id ?_))
             first
              | (refine dI (bs_end (by assumption) (by assumption) (by assumption) (by assumption) (by assumption) (by assumption)))
              | (refine ⟨Int.le_refl 0, ?_, ?_, fun j hj => absurd hj (by omega), fun j hj hl => absurd hj ?_⟩ <;> subst ho <;> simp only [std, len_eFc] <;> omega)
              | (clear iha; subst ho; simp (disch := omega) only [std, wI, tdiv2] at *; refine ⟨by omega, by omega, by omega, ?_, by assumption⟩; exact bs_lo h0 (by omega) (by omega) (by rw [hy]; exact ltB_iff.1 hv))
              | (clear iha; subst ho; simp (disch := omega) only [std, wI, tdiv2] at *; refine ⟨by omega, by omega, by omega, by assumption, ?_⟩; exact bs_hi h0 (by omega) (by omega) (fun h => by rw [hy] at h; rw [ltB_iff.2 h] at hv; cases hv))
              | (subst ho; rfl)
              | (subst ho; simp (disch := omega) only [std, wI, tdiv2, tdivN, lenE] <;> first | done | rfl | omega)))))
  | ((fail_if_success (refine .id ?_))
     first
      | fail))
theorem impl_has.ans {xa xb : Option (List D → Option D)} (o : Std) (ho : o = std) (l : List Fc) (f_k : Int) (f_n : Int) (f_c : Int) (f_v_k : Int) (f_v_n : Int) (f_v_c : Int) (h0 : Up l) (h1 : l.length ≤ 2900000000000) : Ans (env xa xb) 80 [rFc o l, .agg [iX f_k, iX f_n, iX f_c, iX f_v_k, iX f_v_n, iX f_v_c]] (.bool (decide ((⟨f_k, f_n, f_c, ⟨f_v_k, f_v_n, f_v_c⟩⟩ : Fc) ∈ l))) := by
 refine Ans.mkA ho _ rfl rfl ?_
 repeat' (first
  | (refine .id ?_
     (try (conv => arg 2; cbv))
     first
      | refine .t1 ?_
      | refine .t0 ?_
      | (refine .test (fun hr => ?_) (fun hr => ?_) <;> (have hb := hr) <;> (try simp (disch := omega) only [ho, std, wI, lenE, nrm] at hb) <;> (try (exfalso; first | contradiction | omega | exact hb rfl)))
      | (refine .pE (β := Int) (fun v => iX v) (as' := [rFc o _, .agg [iX _, iX _, iX _, iX _, iX _, iX _]]) (impl_factAt.ans o ho _ _ _ _ _ _ _ ?_ ?_) ?_; rotate_left 2; rintro v hv)
      | (refine .fetchXFc ho ?_ ?_ (fun y hy => ?_); rotate_left 2; rcases y with ⟨yk, yn, yc, yvk, yvn, yvc⟩)
      | (refine .needD ho (by kernel_rfl) ?_)
      | (refine .fin ?_; (conv => lhs; cbv); refine congrArg some ?_))
  | ((fail_if_success (refine .id ?_))
     first
      | (subst ho; refine dBt ?_; simp only [std, Bool.and_eq_true, beq_iff_eq, and_true]; rw [has_iff h0 hv (by assumption) hy]; simp only [Fc.mk.injEq, Ab.mk.injEq]; done)
      | (refine dB (decide_eq_false ?_).symm; rw [mem_posF h0]; omega)
      | assumption
      | omega))
theorem impl_absAt.ans {xa xb : Option (List D → Option D)} (o : Std) (ho : o = std) (l : List Fc) (k : Int) (n : Int) (c : Int) (h0 : Up l) (h1 : ∀ f ∈ l, 0 ≤ f.v.k ∧ 0 ≤ f.v.n) (h2 : l.length ≤ 2900000000000) : Ans (env xa xb) 62 [rFc o l, iX k, iX n, iX c] (rAb o (vals l k n c)) := by
 refine Ans.mkA ho _ rfl rfl ?_
 repeat' (first
  | (refine .id ?_
     (try (conv => arg 2; cbv))
     first
      | (refine .pE (β := Int) (fun v => iX v) (as' := [rFc o _, .agg [iX _, iX _, iX _, iX _, iX _, iX _]]) (impl_factAt.ans o ho _ _ _ _ _ _ _ ?_ ?_) ?_; rotate_left 2; rintro v hv)
      | (refine .indF (fun m_ s_ => ∃ (ea9 : Box) (a10 : Int) (ta9 : Tok) (tk : List Nat), s_ = ⟨[rFc o l, iX k, iX n, iX c, Jk, Jk, Jk, Jk, Jk, .sl ta9 3 ea9, iX a10] ++ List.replicate 40 Jk, [], [], tk⟩ ∧ Lv tk ta9 ea9.length ∧ ea9 = (o.bx fun _ => eAb (vals (l.take a10.toNat) k n c)) ∧ (0 ≤ a10 ∧ a10 ≤ l.length ∧ (∀ j : Nat, j < l.length → a10 ≤ j → ltF ⟨k, n, c, ⟨0, -22951, 0⟩⟩ (l.getD j zF))) ∧ (l.length - a10).toNat ≤ m_) _ _ ⟨_, _, _, _, by subst ho; rfl, ?_, ?_, ?_, Nat.le_refl _⟩ ?_
         rotate_right
         rintro m_ _ ⟨ea9, a10, ta9, tk, rfl, hla0, rfl, hIa, hka⟩ iha
         obtain ⟨i1, i2, i3⟩ := hIa; refine .unloopA ho ?_
         repeat' (first
          | (refine .id ?_
             (try (conv => arg 2; cbv))
             first
              | refine .testT ?_
              | refine .t1 ?_
              | refine .t0 ?_
              | (refine .test (fun hr => ?_) (fun hr => ?_) <;> (have hb := hr) <;> (try simp (disch := omega) only [ho, std, wI, lenE, nrm] at hb) <;> (try (exfalso; first | contradiction | omega | exact hb rfl)))
              | (refine .fetchXFc ho ?_ ?_ (fun y hy => ?_); rotate_left 2; rcases y with ⟨yk, yn, yc, yvk, yvn, yvc⟩)
              | (refine .need ?_ ?_)
              | (refine .app1 ?_ (fun t' tk' hl' => ?_))
              | (refine iha _ _ ?_ ⟨_, _, _, _, by subst ho; rfl, ?_, ?_, ?_, Nat.le_refl _⟩)
              | (refine .fin ?_; (conv => lhs; cbv); refine congrArg some ?_))
          | ((fail_if_success (refine .id ?_))
             first
              | (exact Lv.nil)
              | (subst ho; exact hla0)
              | (subst ho; refine congrArg (D.sl Tok.ro 3) (congrArg eAb ?_); first | exact vals_endG i1 i2 h0 i3 (.inl (by omega)) | exact vals_endG i1 i2 h0 i3 (.inr ⟨by omega, fun hh => by rw [hy] at hh; obtain ⟨q1, q2, q3⟩ := hh; dsimp only at q1 q2 q3; omega⟩))
              | (subst hv; subst ho; exact ⟨(vals_startG h0 (lowI h1)).1, (vals_startG h0 (lowI h1)).2.1, (vals_startG h0 (lowI h1)).2.2.2⟩)
              | (subst hv; subst ho; exact congrArg eAb (vals_startG h0 (lowI h1)).2.2.1)
              | (subst ho; have hl := len_vals (l.take a10.toNat) k n c; simp [std, len_eAb]; simp at hl; omega)
              | (subst ho; refine push_eAb (x := ⟨yvk, yvn, yvc⟩) ?_; simp (disch := omega) only [std, wI]; rw [vals_take_succ i1 (by omega), hy, if_pos (by simp_all [hasKey])])
              | (subst ho; simp (disch := omega) only [std, wI]; refine ⟨by omega, by omega, fun j hj hk => i3 j hj (by omega)⟩)
              | (subst ho; simpa [std, lenE] using hl')
              | (subst ho; simp (disch := omega) only [std, wI, tdiv2, tdivN, lenE] <;> first | done | rfl | omega)))))
  | ((fail_if_success (refine .id ?_))
     first
      | assumption))
theorem impl_startOf.ans {xa xb : Option (List D → Option D)} (o : Std) (ho : o = std) (l : List Nd) (i : Int) (h0 : Downs l) (h1 : 0 ≤ i ∧ i < l.length) : Ans (env xa xb) 73 [rNd o l, iX i] (iX (startM l i)) := by
 refine Ans.mkA ho _ rfl rfl ?_
 repeat' (first
  | (refine .id ?_
     (try (conv => arg 2; cbv))
     first
      | (refine .indF (fun m_ s_ => ∃ (a1 : Int) (tk : List Nat), s_ = ⟨[rNd o l, iX a1] ++ List.replicate 16 Jk, [], [], tk⟩ ∧ (0 ≤ a1 ∧ a1 < l.length ∧ startM l a1 = startM l i) ∧ a1.toNat ≤ m_) _ _ ⟨_, _, by subst ho; rfl, ?_, Nat.le_refl _⟩ ?_
         rotate_right
         rintro m_ _ ⟨a1, tk, rfl, hIa, hka⟩ iha
         obtain ⟨i1, i2, i3⟩ := hIa; refine .unloopA ho ?_
         repeat' (first
          | (refine .id ?_
             (try (conv => arg 2; cbv))
             first
              | (refine .test (fun hr => ?_) (fun hr => ?_) <;> (have hb := hr) <;> (try simp (disch := omega) only [ho, std, wI, lenE, nrm] at hb) <;> (try (exfalso; first | contradiction | omega | exact hb rfl)))
              | (refine .pE (β := Int) (fun v => iX v) (as' := [iX _]) (impl_Arity.ans o ho _) ?_; rintro v hv)
              | (refine .fetchYNd ho ?_ ?_ (by with_reducible assumption) ?_)
              | (refine .fetchXNd ho ?_ ?_ (fun y hy => ?_); rotate_left 2; rcases y with ⟨y0, y1, y2, y3, y4, y5, y6⟩; (have hd := h0 _ i1 i2); rw [hy] at hd; dsimp only at hd)
              | (refine iha _ _ ?_ ⟨_, _, by subst ho; rfl, ?_, Nat.le_refl _⟩)
              | (refine .fin ?_; (conv => lhs; cbv); refine congrArg some ?_))
          | ((fail_if_success (refine .id ?_))
             first
              | (refine dI ?_; rw [← i3, startM_base (by rw [hy]; dsimp only; omega)])
              | (have hd2 := hd (by omega); refine ⟨by omega, by omega, ?_⟩; rw [← i3]; exact (startM_step h0 i1 i2 hy (by dsimp only; omega)).symm)
              | assumption
              | omega))))
  | ((fail_if_success (refine .id ?_))
     first
      | fail))
theorem impl_bodyOf.ans {xa xb : Option (List D → Option D)} (o : Std) (ho : o = std) (l : List Nd) (f : Int) (h0 : Downs l) (h1 : 0 ≤ f ∧ f < l.length) (h2 : 0 < arityM (rN l f).f0) : Ans (env xa xb) 272 [rNd o l, iX f] (.tup [iX ((startM l (rN l f).f1, (rN l f).f1)).1, iX ((startM l (rN l f).f1, (rN l f).f1)).2]) := by
 refine Ans.mkA ho _ rfl rfl ?_
 repeat' (first
  | (refine .id ?_
     (try (conv => arg 2; cbv))
     first
      | (refine .pE (β := Int) (fun v => iX v) (as' := [rNd o _, iX _]) (impl_startOf.ans o ho _ _ ?_ ?_) ?_; rotate_left 2; rintro v hv)
      | (refine .fetchYNd ho ?_ ?_ (by with_reducible assumption) ?_)
      | (refine .fetchXNd ho ?_ ?_ (fun y hy => ?_); rotate_left 2; rcases y with ⟨y0, y1, y2, y3, y4, y5, y6⟩)
      | (refine .needD ho (by kernel_rfl) ?_)
      | (refine .fin ?_; (conv => lhs; cbv); refine congrArg some ?_))
  | ((fail_if_success (refine .id ?_))
     first
      | (have hd := h0 _ h1.1 h1.2 h2; rw [hy] at hd; dsimp only at hd; omega)
      | (subst hv; rw [hy])
      | omega))
end Go.Mach
