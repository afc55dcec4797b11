/- FnExactPrune returns what the reference returns: part 30 of a proof by an executable machine over the program's code. -/
import Derived.Test.YtbkpkchegopmiaaGreatDoorMc28
import Derived.Shelf.SlSortFuncK.WholeK
import Derived.Ground.GgsProg
import Derived.Test.YtbkpkchegopmiaaGreatDoorProg
import Derived.Deep.QuietTactic
import Derived.BigQuiet
import Derived.Shelf.GgSortFunc.Tiny
set_option linter.unusedVariables false
set_option linter.unusedSimpArgs false
set_option maxRecDepth 100000
namespace Go.Mach
open Go Go.RowKit
section
variable {E : Env} {Q : X → S → Prop} {o : Std}
theorem Den.pP2 {f : FuncId} {az as' : List D} {P : D → Prop} {k : D → T} (ha : AnsP E f as' P) (h : ∀ d, P d → Den E (k d) Q) (he : az = as' := by first | with_reducible rfl | (cases (‹_ = std› : _ = std); rfl)) : Den E (.pcall f az k) Q := .pcallP he ha h
theorem Den.pE2 {β : Type} (enc : β → D) {f : FuncId} {az as' : List D} {r : β} {k : D → T} (ha : Ans E f as' (enc r)) (h : ∀ v, r = v → Den E (k (enc v)) Q) (he : az = as' := by first | with_reducible rfl | (cases (‹_ = std› : _ = std); rfl)) : Den E (.pcall f az k) Q := .pcallE enc he ha h
end
def markG {α : Type} (f : Nat → α) (l : List α) (i : Int) : List α := (List.range i.toNat).map f ++ l.drop i.toNat
theorem markG_len {α : Type} {f : Nat → α} {l : List α} {i : Int} (h0 : 0 ≤ i) (h1 : i ≤ l.length) : (markG f l i).length = l.length := by
 unfold markG; rw [List.length_append, List.length_map, List.length_range, List.length_drop]; omega
theorem markG_set {α : Type} (c : α → List D) {f : Nat → α} {l : List α} {i : Int} {x : List D} (h0 : 0 ≤ i) (h1 : i < l.length) (hx : x = c (f i.toNat)) : (List.map c (markG f l i)).set i.toNat x = List.map c (markG f l (i + 1)) := by
 subst hx
 have h2 : i.toNat < l.length := by omega
 unfold markG
 rw [List.map_append, List.set_append, if_neg (by simp), List.drop_eq_getElem_cons h2]
 have h4 : (List.map c (List.map f (List.range i.toNat))).length = i.toNat := by simp
 rw [h4, Nat.sub_self, show (i + 1).toNat = i.toNat + 1 by omega, List.range_succ, List.map_append, List.map_append, List.map_append, List.append_assoc]
 rfl
theorem markG_end {α : Type} {f : Nat → α} {l : List α} {i : Int} (h : l.length ≤ i) (h1 : i ≤ l.length) : markG f l i = (List.range l.length).map f := by
 unfold markG; rw [List.drop_of_length_le (by omega), List.append_nil, show i.toNat = l.length by omega]
theorem markG_zero {α : Type} (f : Nat → α) (l : List α) : markG f l 0 = l := by simp [markG]
theorem range_at {α : Type} {z : α} {f : Nat → α} {n : Nat} {i : Int} (h0 : 0 ≤ i) (h1 : i < n) : rdG z ((List.range n).map f) i = f i.toNat := by
 have h2 : i.toNat < n := by omega
 simp only [rdG, List.getD_eq_getElem?_getD, List.getElem?_map, List.getElem?_range h2, Option.map_some, Option.getD_some]
def fF (k : Int) (j : Nat) : Fc := ⟨k + 6 * (j : Int), k + 6 * (j : Int) + 1, k + 6 * (j : Int) + 2, ⟨k + 6 * (j : Int) + 3, k + 6 * (j : Int) + 4, k + 6 * (j : Int) + 5⟩⟩
def rowF (k : Int) (n : Nat) : List Fc := (List.range n).map (fF k)
theorem rowF_len (k : Int) (n : Nat) : (rowF k n).length = n := by simp [rowF]
theorem markF_set {k : Int} {l : List Fc} {i x0 x1 x2 x3 x4 x5 : Int} (h0 : 0 ≤ i) (h1 : i < l.length) (e0 : x0 = k + 6 * i) (e1 : x1 = k + 6 * i + 1) (e2 : x2 = k + 6 * i + 2) (e3 : x3 = k + 6 * i + 3) (e4 : x4 = k + 6 * i + 4) (e5 : x5 = k + 6 * i + 5) :
  (eFc (markG (fF k) l i)).set i.toNat [.int .i64 x0, .int .i64 x1, .int .i64 x2, .int .i64 x3, .int .i64 x4, .int .i64 x5] = eFc (markG (fF k) l (i + 1)) := by
 refine markG_set cFc h0 h1 ?_
 subst e0 e1 e2 e3 e4 e5
 simp only [cFc, fF, Int.toNat_of_nonneg h0]
theorem rowF_at {k : Int} {n : Nat} {i a b c d e f : Int} (h0 : 0 ≤ i) (h1 : i < n) (h : rF (rowF k n) i = ⟨a, b, c, ⟨d, e, f⟩⟩) : a = k + 6 * i ∧ b = k + 6 * i + 1 ∧ c = k + 6 * i + 2 ∧ d = k + 6 * i + 3 ∧ e = k + 6 * i + 4 ∧ f = k + 6 * i + 5 := by
 have h2 : rF (rowF k n) i = fF k i.toNat := range_at (z := zF) h0 h1
 rw [h2, fF, Int.toNat_of_nonneg h0] at h
 injection h with q0 q1 q2 q3
 injection q3 with q3 q4 q5
 exact ⟨q0.symm, q1.symm, q2.symm, q3.symm, q4.symm, q5.symm⟩
def fE (k : Int) (j : Nat) : Ed := ⟨k + 2 * (j : Int), k + 2 * (j : Int) + 1⟩
def rowE (k : Int) (n : Nat) : List Ed := (List.range n).map (fE k)
theorem rowE_len (k : Int) (n : Nat) : (rowE k n).length = n := by simp [rowE]
noncomputable def txM (xa xb : Option (List D → Option D)) (k : Int) : ByteArray := by
 classical exact if h : ∃ r, Ans (env xa xb) 60 [.int .i64 k] (.str r) then h.choose else ⟨#[]⟩
theorem txM_ans {xa xb : Option (List D → Option D)} {k : Int} (h : AnsP (env xa xb) 60 [.int .i64 k] (fun d_ => ∃ r : ByteArray, d_ = .str r ∧ True)) : Ans (env xa xb) 60 [.int .i64 k] (.str (txM xa xb k)) := by
 obtain ⟨d, ⟨r, rfl, _⟩, ha⟩ := h.ex
 have hx : ∃ r, Ans (env xa xb) 60 [.int .i64 k] (.str r) := ⟨r, ha⟩
 unfold txM
 rw [dif_pos hx]
 exact hx.choose_spec
noncomputable def fN (xa xb : Option (List D → Option D)) (k : Int) (j : Nat) : Nd := ⟨k + 7 * (j : Int), k + 7 * (j : Int) + 1, k + 7 * (j : Int) + 2, k + 7 * (j : Int) + 3, k + 7 * (j : Int) + 4, txM xa xb (k + 7 * (j : Int) + 5), txM xa xb (k + 7 * (j : Int) + 6)⟩
noncomputable def rowN (xa xb : Option (List D → Option D)) (k : Int) (n : Nat) : List Nd := (List.range n).map (fN xa xb k)
theorem rowN_len (xa xb : Option (List D → Option D)) (k : Int) (n : Nat) : (rowN xa xb k n).length = n := by simp [rowN]
theorem markN_set {xa xb : Option (List D → Option D)} {k i x0 x1 x2 x3 x4 j5 j6 : Int} {x5 x6 : ByteArray} {l : List Nd} (h0 : 0 ≤ i) (h1 : i < l.length) (e0 : x0 = k + 7 * i) (e1 : x1 = k + 7 * i + 1) (e2 : x2 = k + 7 * i + 2) (e3 : x3 = k + 7 * i + 3) (e4 : x4 = k + 7 * i + 4)
  (e5 : txM xa xb j5 = x5) (e6 : txM xa xb j6 = x6) (f5 : j5 = k + 7 * i + 5) (f6 : j6 = k + 7 * i + 6) :
  (eNd (markG (fN xa xb k) l i)).set i.toNat [.int .i64 x0, .int .i64 x1, .int .i64 x2, .int .i64 x3, .int .i64 x4, .str x5, .str x6] = eNd (markG (fN xa xb k) l (i + 1)) := by
 refine markG_set cNd h0 h1 ?_
 subst e0 e1 e2 e3 e4 f5 f6 e5 e6
 simp only [cNd, fN, Int.toNat_of_nonneg h0]
theorem rowN_at {xa xb : Option (List D → Option D)} {k i : Int} {n : Nat} {y0 y1 y2 y3 y4 : Int} {y5 y6 : ByteArray} (h0 : 0 ≤ i) (h1 : i < n) (h : rN (rowN xa xb k n) i = ⟨y0, y1, y2, y3, y4, y5, y6⟩) :
  y0 = k + 7 * i ∧ y1 = k + 7 * i + 1 ∧ y2 = k + 7 * i + 2 ∧ y3 = k + 7 * i + 3 ∧ y4 = k + 7 * i + 4 ∧ y5 = txM xa xb (k + 7 * i + 5) ∧ y6 = txM xa xb (k + 7 * i + 6) := by
 have h2 : rN (rowN xa xb k n) i = fN xa xb k i.toNat := range_at (z := zNd) h0 h1
 rw [h2, fN, Int.toNat_of_nonneg h0] at h
 injection h with a b c d e f g
 exact ⟨a.symm, b.symm, c.symm, d.symm, e.symm, f.symm, g.symm⟩
theorem laws_markText_t.ans {xa xb : Option (List D → Option D)} (o : Std) (ho : o = std) (k : Int) (h0 : 0 ≤ k ∧ k ≤ 100000000) : Ans (env xa xb) 60 [.int .i64 k] (.str (txM xa xb k)) := txM_ans (laws_markText.ans o ho k h0)
inductive Tr where
 | mk (n : Nd) (kids : List Tr)
def setK (n : Nd) (k : Nat) (v : Int) : Nd := match k with
 | 0 => { n with f1 := v }
 | 1 => { n with f2 := v }
 | 2 => { n with f3 := v }
 | _ => n
def zeroK (n : Nd) : Nd := { n with f1 := 0, f2 := 0, f3 := 0 }
def shiftN (d : Int) (n : Nd) : Nd := { n with f1 := if 0 < arityM n.f0 then n.f1 + d else n.f1, f2 := if 1 < arityM n.f0 then n.f2 + d else n.f2, f3 := if 2 < arityM n.f0 then n.f3 + d else n.f3 }
def shiftL (d : Int) (l : List Nd) : List Nd := l.map (shiftN d)
def makeL : Nat → Nd → List Nd → List (List Nd) → List Nd
 | _, n, out, [] => out ++ [n]
 | k, n, out, p :: ps => makeL (k + 1) (setK n k (((out ++ shiftL out.length p).length : Int) - 1)) (out ++ shiftL out.length p) ps
mutual
def flatT : Tr → List Nd → List Nd
 | .mk n ks, out => flatK ks 0 n out
def flatK : List Tr → Nat → Nd → List Nd → List Nd
 | [], _, n, out => out ++ [n]
 | t :: ts, k, n, out => flatK ts (k + 1) (setK n k (((flatT t out).length : Int) - 1)) (flatT t out)
end
mutual
def partT : Tr → List Nd
 | .mk n ks => makeL 0 (zeroK n) [] (partsT ks)
def partsT : List Tr → List (List Nd)
 | [] => []
 | t :: ts => partT t :: partsT ts
end
inductive WfT : Tr → Prop
 | mk {n ks} (h : ks.length = arityM n.f0) (hz : (arityM n.f0 < 1 → n.f1 = 0) ∧ (arityM n.f0 < 2 → n.f2 = 0) ∧ (arityM n.f0 < 3 → n.f3 = 0)) (hk : ∀ t ∈ ks, WfT t) : WfT (.mk n ks)
theorem shiftL_len (d : Int) (l : List Nd) : (shiftL d l).length = l.length := by simp [shiftL]
theorem setK_kind (n : Nd) (k : Nat) (v : Int) : (setK n k v).f0 = n.f0 := by unfold setK; split <;> rfl
theorem shiftN_shift (d e : Int) (n : Nd) : shiftN d (shiftN e n) = shiftN (d + e) n := by
 simp only [shiftN]
 (repeat' split) <;> simp <;> omega
theorem shiftL_shift (d e : Int) (l : List Nd) : shiftL d (shiftL e l) = shiftL (d + e) l := by
 simp [shiftL, shiftN_shift, Function.comp_def]
theorem shiftL_app (d : Int) (l m : List Nd) : shiftL d (l ++ m) = shiftL d l ++ shiftL d m := by simp [shiftL]
structure RelN (d : Int) (k : Nat) (n m : Nd) : Prop where
 h0 : n.f0 = m.f0
 h4 : n.f4 = m.f4
 h5 : n.f5 = m.f5
 h6 : n.f6 = m.f6
 a1 : (0 < k → n.f1 = m.f1 + d) ∧ (arityM m.f0 < 1 → n.f1 = m.f1)
 a2 : (1 < k → n.f2 = m.f2 + d) ∧ (arityM m.f0 < 2 → n.f2 = m.f2)
 a3 : (2 < k → n.f3 = m.f3 + d) ∧ (arityM m.f0 < 3 → n.f3 = m.f3)
theorem RelN.step {d : Int} {k : Nat} {n m : Nd} (h : RelN d k n m) (hk : k < arityM m.f0) (h3 : arityM m.f0 ≤ 3) (v : Int) : RelN d (k + 1) (setK n k (v + d)) (setK m k v) := by
 obtain ⟨h0, h4, h5, h6, a1, a2, a3⟩ := h
 match k, hk with
 | 0, hk => exact ⟨h0, h4, h5, h6, ⟨fun _ => rfl, fun h => absurd h (by simp only [setK]; omega)⟩, ⟨fun h => by omega, a2.2⟩, ⟨fun h => by omega, a3.2⟩⟩
 | 1, hk => exact ⟨h0, h4, h5, h6, ⟨fun _ => a1.1 (by omega), a1.2⟩, ⟨fun _ => rfl, fun h => absurd h (by simp only [setK]; omega)⟩, ⟨fun h => by omega, a3.2⟩⟩
 | 2, hk => exact ⟨h0, h4, h5, h6, ⟨fun _ => a1.1 (by omega), a1.2⟩, ⟨fun _ => a2.1 (by omega), a2.2⟩, ⟨fun _ => rfl, fun h => absurd h (by simp only [setK]; omega)⟩⟩
 | k + 3, hk => omega
theorem RelN.fin {d : Int} {n m : Nd} (h : RelN d (arityM m.f0) n m) : n = shiftN d m := by
 obtain ⟨h0, h4, h5, h6, a1, a2, a3⟩ := h
 have e1 : n.f1 = if 0 < arityM m.f0 then m.f1 + d else m.f1 := by split; exact a1.1 (by assumption); exact a1.2 (by omega)
 have e2 : n.f2 = if 1 < arityM m.f0 then m.f2 + d else m.f2 := by split; exact a2.1 (by assumption); exact a2.2 (by omega)
 have e3 : n.f3 = if 2 < arityM m.f0 then m.f3 + d else m.f3 := by split; exact a3.1 (by assumption); exact a3.2 (by omega)
 cases n; cases m
 simp only [shiftN] at *
 simp only [h0, h4, h5, h6, e1, e2, e3]
mutual
theorem flatT_part : ∀ (t : Tr), WfT t → ∀ out : List Nd, flatT t out = out ++ shiftL out.length (partT t)
 | .mk n ks, h, out => by
   cases h with
   | mk hl hz hk =>
     have := flatK_part ks hk 0 n (zeroK n) out [] (by simp only [zeroK]; omega) ⟨rfl, rfl, rfl, rfl, ⟨fun h => by omega, fun h => hz.1 h⟩, ⟨fun h => by omega, fun h => hz.2.1 h⟩, ⟨fun h => by omega, fun h => hz.2.2 h⟩⟩
     rw [flatT, partT, ← this]
     simp [shiftL]
theorem flatK_part : ∀ (ts : List Tr), (∀ t ∈ ts, WfT t) → ∀ (k : Nat) (n m : Nd) (out P : List Nd), k + ts.length = arityM m.f0 → RelN out.length k n m → flatK ts k n (out ++ shiftL out.length P) = out ++ shiftL out.length (makeL k m P (partsT ts))
 | [], _, k, n, m, out, P, hl, hr => by
   simp only [List.length_nil, Nat.add_zero] at hl
   subst hl
   rw [flatK, partsT, makeL, hr.fin, shiftL_app, List.append_assoc]; rfl
 | t :: ts, hw, k, n, m, out, P, hl, hr => by
   rw [List.length_cons] at hl
   have ht := flatT_part t (hw t List.mem_cons_self) (out ++ shiftL out.length P)
   have e : flatT t (out ++ shiftL out.length P) = out ++ shiftL out.length (P ++ shiftL P.length (partT t)) := by
    rw [ht, shiftL_app, shiftL_shift, List.append_assoc, List.length_append, shiftL_len]; push_cast; rfl
   rw [flatK, partsT, makeL, e]
   have e2 : (((out ++ shiftL out.length (P ++ shiftL P.length (partT t))).length : Int) - 1) = (((P ++ shiftL P.length (partT t)).length : Int) - 1) + (out.length : Int) := by
    rw [List.length_append, shiftL_len]; push_cast; omega
   rw [e2]
   have h3 : arityM m.f0 ≤ 3 := arityM_le m.f0
   exact flatK_part ts (fun t h => hw t (List.mem_cons_of_mem _ h)) (k + 1) _ _ out _ (by rw [setK_kind]; omega) (hr.step (by omega) h3 _)
end
theorem makeL_len : ∀ (ps : List (List Nd)) (k : Nat) (n : Nd) (out : List Nd), (makeL k n out ps).length = out.length + (ps.map List.length).sum + 1
 | [], k, n, out => by simp [makeL]
 | p :: ps, k, n, out => by
   rw [makeL, makeL_len ps, List.length_append, shiftL_len, List.map_cons, List.sum_cons]; omega
def spanK (st K : List Int) : Int := (K.map fun x => x - rI st x + 1).sum
theorem spanK_snoc (st K : List Int) (x : Int) : spanK st (K ++ [x]) = spanK st K + (x - rI st x + 1) := by
 simp [spanK]
theorem walkK_span {st K : List Int} : ∀ (k : Nat) (a r : Int), k ≤ K.length → walkK st K k a = some r → spanK st (K.take k) = a - r
 | 0, a, r, _, h => by
   simp only [walkK, Option.some.injEq] at h
   subst h; simp [spanK]
 | k + 1, a, r, hk, h => by
   rw [walkK] at h
   split at h
   · rename_i hc
     have ih := walkK_span k _ r (by omega) h
     have e : K.take (k + 1) = K.take k ++ [rI K k] := by
      rw [List.take_succ_eq_append_getElem (by omega)]
      congr 1
      simp [rI, rdG, show k < K.length by omega]
     rw [e, spanK_snoc, ih]; omega
   · cases h
theorem walkK_append {st K : List Int} (b : List Int) (hlow : ∀ x : Int, 0 ≤ x → x < st.length → rI st x ≤ x) : ∀ (k : Nat) (a : Int), a ≤ st.length → walkK (st ++ b) K k a = walkK st K k a
 | 0, a, _ => rfl
 | k + 1, a, ha => by
   rw [walkK, walkK]
   split
   · rename_i hc
     rw [rI_left _ _ hc.2 (by omega)]
     exact walkK_append b hlow k _ (by have := hlow _ hc.2 (by omega); omega)
   · rfl
theorem startsO_walk {l : List Nd} : ∀ (n : Nat) (st : List Int), startsO l n = some st → ∀ j : Nat, j < n → walkK st (kidsM (rN l j)) (kidsM (rN l j)).length j = some (rI st j)
 | 0, st, _, j, hj => by omega
 | n + 1, st, h, j, hj => by
   rw [startsO] at h
   obtain ⟨s, h1, h2⟩ := Option.bind_eq_some_iff.1 h
   obtain ⟨hl, hlow, _⟩ := startsO_tile n s h1
   have hlow' : ∀ x : Int, 0 ≤ x → x < s.length → rI s x ≤ x := fun x h0 h1 => by
    have := hlow x.toNat (by omega)
    rw [Int.toNat_of_nonneg h0] at this; exact this.2
   split at h2
   · obtain ⟨a, h3, rfl⟩ := Option.map_eq_some_iff.1 h2
     rw [walkK_append [a] hlow' _ _ (by omega)]
     by_cases c : j < n
     · rw [rI_left _ _ (by omega) (by omega)]; exact startsO_walk n s h1 j c
     · have : j = n := by omega
       subst this
       rw [rI_last _ _ _ (by omega)]; exact h3
   · cases h2
def zNint : Nd := ⟨2, 0, 0, 0, 0, ⟨#[]⟩, ⟨#[]⟩⟩
def treeF (l : List Nd) (dead : List Int) : Nat → Int → Tr
 | 0, i => .mk zNint []
 | m + 1, i => if i ∈ dead then .mk zNint [] else .mk (rN l i) ((kidsM (rN l i)).map (treeF l dead m))
def treeM (l : List Nd) (dead : List Int) (i : Int) : Tr := treeF l dead (i.toNat + 1) i
theorem OkT.kid {l : List Nd} (hT : OkT l) {i : Int} (h0 : 0 ≤ i) (h1 : i < l.length) {x : Int} (hx : x ∈ kidsM (rN l i)) : 0 ≤ x ∧ x < i := by
 obtain ⟨st, _, _, ht, _⟩ := hT.tiled
 have h := ht.tile i.toNat (by omega)
 rw [Int.toNat_of_nonneg h0] at h
 have := h.1 x hx
 exact ⟨this.1, this.2.1⟩
theorem treeF_eq {l : List Nd} {dead : List Int} (hT : OkT l) : ∀ (n m : Nat) (i : Int), 0 ≤ i → i < l.length → i.toNat < n → i.toNat < m → treeF l dead n i = treeF l dead m i
 | 0, _, i, _, _, h, _ => by omega
 | n + 1, 0, i, _, _, _, h => by omega
 | n + 1, m + 1, i, h0, h1, h2, h3 => by
   rw [treeF, treeF]
   split
   · rfl
   · congr 1
     refine List.map_congr_left fun x hx => ?_
     have := hT.kid h0 h1 hx
     exact treeF_eq hT n m x this.1 (by omega) (by omega) (by omega)
theorem treeM_dead {l : List Nd} {dead : List Int} {i : Int} (h : i ∈ dead) : treeM l dead i = .mk zNint [] := by
 rw [treeM, treeF, if_pos h]
theorem treeM_live {l : List Nd} {dead : List Int} (hT : OkT l) {i : Int} (h0 : 0 ≤ i) (h1 : i < l.length) (h : i ∉ dead) : treeM l dead i = .mk (rN l i) ((kidsM (rN l i)).map (treeM l dead)) := by
 rw [treeM, treeF, if_neg h]
 congr 1
 refine List.map_congr_left fun x hx => ?_
 have := hT.kid h0 h1 hx
 exact treeF_eq hT _ _ x this.1 (by omega) (by omega) (by omega)
def partM (l : List Nd) (dead : List Int) (i : Int) : List Nd := partT (treeM l dead i)
theorem partsT_map (f : Int → Tr) : ∀ K : List Int, partsT (K.map f) = K.map fun x => partT (f x)
 | [] => by rw [List.map_nil, partsT]; rfl
 | x :: K => by rw [List.map_cons, partsT, partsT_map f K]; rfl
theorem partM_dead {l : List Nd} {dead : List Int} {i : Int} (h : i ∈ dead) : partM l dead i = [zNint] := by
 rw [partM, treeM_dead h, partT, partsT, makeL]; rfl
theorem partM_live {l : List Nd} {dead : List Int} (hT : OkT l) {i : Int} (h0 : 0 ≤ i) (h1 : i < l.length) (h : i ∉ dead) : partM l dead i = makeL 0 (zeroK (rN l i)) [] ((kidsM (rN l i)).map (partM l dead)) := by
 rw [partM, treeM_live hT h0 h1 h, partT, partsT_map]; rfl
theorem partM_len {l : List Nd} {dead : List Int} (hT : OkT l) {st : List Int} (hs : startsO l l.length = some st) : ∀ (n : Nat) (i : Int), 0 ≤ i → i < l.length → i.toNat < n → ((partM l dead i).length : Int) ≤ i - rI st i + 1
 | 0, i, _, _, h => by omega
 | n + 1, i, h0, h1, hn => by
   have hw := startsO_walk l.length st hs i.toNat (by omega)
   rw [Int.toNat_of_nonneg h0] at hw
   have hsp := walkK_span _ _ _ (Nat.le_refl _) hw
   rw [List.take_length] at hsp
   have hlow := (startsO_tile l.length st hs).2.1 i.toNat (by omega)
   rw [Int.toNat_of_nonneg h0] at hlow
   by_cases hd : i ∈ dead
   · rw [partM_dead hd]; simp only [List.length_cons, List.length_nil]; omega
   · rw [partM_live hT h0 h1 hd, makeL_len]
     have key : ∀ K : List Int, (∀ x ∈ K, 0 ≤ x ∧ x < i) → (((K.map (partM l dead)).map List.length).sum : Int) ≤ spanK st K := fun K => by
      induction K with
      | nil => intro _; simp [spanK]
      | cons x K ih =>
        intro hK
        have h2 := ih fun y hy => hK y (List.mem_cons_of_mem _ hy)
        have hx := hK x List.mem_cons_self
        have h3 := partM_len (dead := dead) hT hs n x hx.1 (by omega) (by omega)
        simp only [spanK, List.map_cons, List.sum_cons] at h2 ⊢
        push_cast
        omega
     have h4 := key (kidsM (rN l i)) fun x hx => hT.kid h0 h1 hx
     simp only [List.length_nil]
     push_cast
     push_cast at h4
     omega
theorem wf_tree {l : List Nd} {dead : List Int} (hT : OkT l) : ∀ (n : Nat) (i : Int), 0 ≤ i → i < l.length → i.toNat < n → WfT (treeM l dead i)
 | 0, i, _, _, h => by omega
 | n + 1, i, h0, h1, hn => by
   by_cases hd : i ∈ dead
   · rw [treeM_dead hd]
     exact .mk (by decide) ⟨fun _ => rfl, fun _ => rfl, fun _ => rfl⟩ (fun t ht => by cases ht)
   · rw [treeM_live hT h0 h1 hd]
     have hf := hT.fld (j := i.toNat) (by omega)
     rw [Int.toNat_of_nonneg h0] at hf
     refine .mk (by rw [List.length_map, len_kidsM]) ?_ fun t ht => ?_
     · unfold fldB restB at hf
       simp only [Bool.and_eq_true, decide_eq_true_eq] at hf
       exact hf.2.2.2.1
     · obtain ⟨x, hx, rfl⟩ := List.mem_map.1 ht
       have := hT.kid h0 h1 hx
       exact wf_tree hT n x this.1 (by omega) (by omega)
def eNN (l : List (List Nd)) : Box := l.map fun b => [.sl .ro 7 (eNd b)]
theorem len_eNN (l : List (List Nd)) : (eNN l).length = l.length := by simp [eNN]
def rNN (l : List (List Nd)) (i : Int) : List Nd := rdG [] l i
section
variable {E : Env} {Q : X → S → Prop} {o : Std} {i : Int} {k : List D → T}
theorem Den.fetchXNN (ho : o = std) {l : List (List Nd)} (h0 : 0 ≤ i) (h1 : i < l.length) (h : ∀ y, rNN l i = y → Den E (k [.sl .ro 7 (o.bx fun _ => eNd y)]) Q) : Den E (.fetch (o.bx fun _ => eNN l) i k) Q := by
 subst ho; exact Den.fetchG rfl [] (fun b => [.sl .ro 7 (eNd b)]) h0 h1 h
theorem Den.fetchYNN (ho : o = std) {l : List (List Nd)} {y : List Nd} (h0 : 0 ≤ i) (h1 : i < l.length) (hy : rNN l i = y) (h : Den E (k [.sl .ro 7 (o.bx fun _ => eNd y)]) Q) : Den E (.fetch (o.bx fun _ => eNN l) i k) Q := Den.fetchXNN ho h0 h1 fun y' hy' => by rw [← hy', hy]; exact h
end
theorem push_eNd {a b : List Nd} {x : Nd} (h : b = a ++ [x]) : std.app (eNd a) [cNd x] = eNd b := by subst h; simp [std, eNd]
theorem push_eNN {a b : List (List Nd)} {x : List Nd} (h : b = a ++ [x]) : std.app (eNN a) [[.sl .ro 7 (eNd x)]] = eNN b := by subst h; simp [std, eNN]
theorem shift_step {d : Int} {l : List Nd} {i : Int} {y : Nd} (h0 : 0 ≤ i) (h1 : i < l.length) (hy : rN l i = y) : shiftL d (l.take (i + 1).toNat) = shiftL d (l.take i.toNat) ++ [shiftN d y] := by
 rw [take_succG zNd h0 h1, show rdG zNd l i = y from hy, shiftL_app]; rfl
theorem shift_takeLen (d : Int) (l : List Nd) (n : Nat) : (shiftL d (l.take n)).length ≤ l.length := by rw [shiftL_len]; exact List.length_take_le' _ _
theorem shift_push {d v : Int} {l : List Nd} {i y0 y1 y2 y3 y4 x1 x2 x3 : Int} {y5 y6 : ByteArray} (h0 : 0 ≤ i) (h1 : i < l.length) (hy : rN l i = ⟨y0, y1, y2, y3, y4, y5, y6⟩) (hv : ((arityM y0 : Nat) : Int) = v)
  (e1 : x1 = if 0 < v then y1 + d else y1) (e2 : x2 = if 1 < v then y2 + d else y2) (e3 : x3 = if 2 < v then y3 + d else y3) : shiftL d (l.take (i + 1).toNat) = shiftL d (l.take i.toNat) ++ [⟨y0, x1, x2, x3, y4, y5, y6⟩] := by
 rw [shift_step h0 h1 hy]
 subst e1 e2 e3 hv
 simp only [shiftN]
 congr 3
 · split <;> split <;> first | rfl | omega
 · split <;> split <;> first | rfl | omega
 · split <;> split <;> first | rfl | omega
def prefO : List (List Nd) → List Nd → List Nd
 | [], out => out
 | p :: ps, out => prefO ps (out ++ shiftL out.length p)
theorem prefO_snoc (p : List Nd) : ∀ (ps : List (List Nd)) (out : List Nd), prefO (ps ++ [p]) out = prefO ps out ++ shiftL (prefO ps out).length p
 | [], out => rfl
 | q :: ps, out => by rw [List.cons_append, prefO, prefO_snoc p ps]; rfl
theorem pref_step {ps : List (List Nd)} {i : Int} {y v : List Nd} (h0 : 0 ≤ i) (h1 : i < ps.length) (hy : rNN ps i = y) (hv : shiftL (prefO (ps.take i.toNat) []).length y = v) : prefO (ps.take (i + 1).toNat) [] = prefO (ps.take i.toNat) [] ++ v := by
 rw [take_succG [] h0 h1, show rdG [] ps i = y from hy, prefO_snoc, hv]
def lenO (ps : List (List Nd)) (k : Nat) (f : Int) (i : Int) : Int := if (k : Int) < i then ((prefO (ps.take (k + 1)) []).length : Int) - 1 else f
theorem make_pref {n : Nd} {ps : List (List Nd)} (h : ps.length ≤ 3) : makeL 0 n [] ps = prefO ps [] ++ [⟨n.f0, lenO ps 0 n.f1 ps.length, lenO ps 1 n.f2 ps.length, lenO ps 2 n.f3 ps.length, n.f4, n.f5, n.f6⟩] := by
 match ps, h with
 | [], _ => rfl
 | [a], _ => simp [makeL, prefO, lenO, setK]
 | [a, b], _ => simp [makeL, prefO, lenO, setK]
 | [a, b, c], _ => simp [makeL, prefO, lenO, setK]
theorem prefO_len (B : Nat) : ∀ (ps : List (List Nd)) (out : List Nd), (∀ p ∈ ps, p.length ≤ B) → (prefO ps out).length ≤ out.length + ps.length * B
 | [], out, _ => by simp [prefO]
 | p :: ps, out, h => by
   have h1 := prefO_len B ps (out ++ shiftL out.length p) fun q hq => h q (List.mem_cons_of_mem _ hq)
   have h2 := h p List.mem_cons_self
   rw [List.length_append, shiftL_len] at h1
   rw [prefO, List.length_cons, Nat.succ_mul]; omega
def Nb (l : List Nd) : Prop := ∀ x ∈ l, (0 ≤ x.f1 ∧ x.f1 ≤ 1048576) ∧ (0 ≤ x.f2 ∧ x.f2 ≤ 1048576) ∧ (0 ≤ x.f3 ∧ x.f3 ≤ 1048576)
theorem pref_lenT {ps : List (List Nd)} (h : ps.length ≤ 3) (hb : ∀ p ∈ ps, p.length ≤ 1000 ∧ Nb p) (i : Nat) : (prefO (ps.take i) []).length ≤ 3000 := by
 have h1 := prefO_len 1000 (ps.take i) [] fun p hp => (hb p (List.mem_of_mem_take hp)).1
 have h2 := List.length_take_le' i ps
 have h3 : (ps.take i).length * 1000 ≤ 3 * 1000 := Nat.mul_le_mul (by omega) (Nat.le_refl _)
 simp only [List.length_nil] at h1; omega
theorem app_eNd {a v b : List Nd} (h : b = a ++ v) : eNd a ++ eNd v = eNd b := by subst h; simp [eNd]
theorem lenO_ne {ps : List (List Nd)} {k : Nat} {f i : Int} (h : ¬ i = k) : lenO ps k f (i + 1) = lenO ps k f i := by
 unfold lenO
 by_cases h1 : (k : Int) < i
 · rw [if_pos (by omega), if_pos h1]
 · rw [if_neg (by omega), if_neg h1]
theorem lenO_at {ps : List (List Nd)} {k : Nat} {f i : Int} {y v : List Nd} (h0 : 0 ≤ i) (h1 : i < ps.length) (hy : rNN ps i = y) (hv : shiftL (prefO (ps.take i.toNat) []).length y = v) (h : i = k) : ((eNd (prefO (ps.take i.toNat) []) ++ eNd v).length : Int) - 1 = lenO ps k f (i + 1) := by
 have e := pref_step h0 h1 hy hv
 rw [app_eNd e, len_eNd]
 unfold lenO
 rw [if_pos (by omega), show (i + 1).toNat = k + 1 by omega]
theorem make_fin {n : Nd} {ps : List (List Nd)} {i q1 q2 q3 : Int} (h : ps.length ≤ 3) (h0 : i ≤ ps.length) (h1 : (ps.length : Int) ≤ i) (j1 : q1 = lenO ps 0 n.f1 i) (j2 : q2 = lenO ps 1 n.f2 i) (j3 : q3 = lenO ps 2 n.f3 i) : makeL 0 n [] ps = prefO (ps.take i.toNat) [] ++ [⟨n.f0, q1, q2, q3, n.f4, n.f5, n.f6⟩] := by
 have e : i = ps.length := by omega
 subst e j1 j2 j3
 rw [make_pref h, List.take_of_length_le (by omega)]
end Go.Mach
namespace Go.Proofs
open Go.Shelf
def Tryz.slc98_ren : Go.Shelf.Ren := ⟨fun | 6 => 98 | 10 => 124 | 11 => 125 | 12 => 126 | 13 => 127 | 14 => 128 | 24 => 162 | 25 => 163 | 26 => 164 | 27 => 165 | 28 => 166 | 29 => 167 | 30 => 168 | 31 => 169 | 32 => 170 | 33 => 171 | 34 => 191 | 35 => 192 | 36 => 193 | 37 => 194 | 38 => 195 | 39 => 216 | n => n, fun | 20 => 20 | 26 => 99 | 35 => 119 | 0 => 0 | 37 => 121 | 3 => 3 | 41 => 125 | 44 => 128 | 49 => 150 | 51 => 152 | 4 => 4 | 54 => 155 | 53 => 154 | 58 => 159 | 5 => 5 | 9 => 9 | 60 => 175 | 64 => 179 | 66 => 195 | 67 => 196 | 17 => 17 | 32 => 116 | 33 => 117 | 82 => 247 | 12 => 12 | 75 => 240 | 76 => 241 | 77 => 242 | 78 => 243 | 79 => 244 | 80 => 245 | n => n, fun | n => n⟩
theorem Tryz.slc98 : Go.Proofs.LaysGg.n6 Tryz.prog Tryz.slc98_ren := {
 mixed := by kernel_rfl
 f6 := Tryz.func98.trans (congrArg some (by kernel_rfl))
 f10 := Tryz.func124.trans (congrArg some (by kernel_rfl))
 f11 := Tryz.func125.trans (congrArg some (by kernel_rfl))
 f12 := Tryz.func126.trans (congrArg some (by kernel_rfl))
 f13 := Tryz.func127.trans (congrArg some (by kernel_rfl))
 f14 := Tryz.func128.trans (congrArg some (by kernel_rfl))
 f24 := Tryz.func162.trans (congrArg some (by kernel_rfl))
 f25 := Tryz.func163.trans (congrArg some (by kernel_rfl))
 f26 := Tryz.func164.trans (congrArg some (by kernel_rfl))
 f27 := Tryz.func165.trans (congrArg some (by kernel_rfl))
 f28 := Tryz.func166.trans (congrArg some (by kernel_rfl))
 f29 := Tryz.func167.trans (congrArg some (by kernel_rfl))
 f30 := Tryz.func168.trans (congrArg some (by kernel_rfl))
 f31 := Tryz.func169.trans (congrArg some (by kernel_rfl))
 f32 := Tryz.func170.trans (congrArg some (by kernel_rfl))
 f33 := Tryz.func171.trans (congrArg some (by kernel_rfl))
 f34 := Tryz.func191.trans (congrArg some (by kernel_rfl))
 f35 := Tryz.func192.trans (congrArg some (by kernel_rfl))
 f36 := Tryz.func193.trans (congrArg some (by kernel_rfl))
 f37 := Tryz.func194.trans (congrArg some (by kernel_rfl))
 f38 := Tryz.func195.trans (congrArg some (by kernel_rfl))
 f39 := Tryz.func216.trans (congrArg some (by kernel_rfl))
 t0 := Tryz.underlying0
 a0 := Tryz.isAgg0
 z0 := Tryz.sizeOf0
 v0 := Tryz.zeroValue0
 i0 := by kernel_rfl
 t3 := Tryz.underlying3
 a3 := Tryz.isAgg3
 z3 := Tryz.sizeOf3
 v3 := Tryz.zeroValue3
 i3 := by kernel_rfl
 t4 := Tryz.underlying4
 a4 := Tryz.isAgg4
 z4 := Tryz.sizeOf4
 v4 := Tryz.zeroValue4
 i4 := by kernel_rfl
 t5 := Tryz.underlying5
 a5 := Tryz.isAgg5
 z5 := Tryz.sizeOf5
 v5 := Tryz.zeroValue5
 i5 := by kernel_rfl
 t9 := Tryz.underlying9
 a9 := Tryz.isAgg9
 z9 := Tryz.sizeOf9
 v9 := Tryz.zeroValue9
 i9 := by kernel_rfl
 t12 := Tryz.underlying12
 a12 := Tryz.isAgg12
 z12 := Tryz.sizeOf12
 v12 := Tryz.zeroValue12
 i12 := by kernel_rfl
 t17 := Tryz.underlying17
 a17 := Tryz.isAgg17
 z17 := Tryz.sizeOf17
 v17 := Tryz.zeroValue17
 i17 := by kernel_rfl
 t20 := Tryz.underlying20
 a20 := Tryz.isAgg20
 z20 := Tryz.sizeOf20
 v20 := Tryz.zeroValue20
 i20 := by kernel_rfl
 t26 := Tryz.underlying99
 a26 := Tryz.isAgg99
 z26 := Tryz.sizeOf99
 v26 := Tryz.zeroValue99
 i26 := by kernel_rfl
 t32 := Tryz.underlying116
 a32 := Tryz.isAgg116
 z32 := Tryz.sizeOf116
 v32 := Tryz.zeroValue116
 i32 := by kernel_rfl
 t33 := Tryz.underlying117
 a33 := Tryz.isAgg117
 z33 := Tryz.sizeOf117
 v33 := Tryz.zeroValue117
 i33 := by kernel_rfl
 t35 := Tryz.underlying119
 a35 := Tryz.isAgg119
 z35 := Tryz.sizeOf119
 v35 := Tryz.zeroValue119
 i35 := by kernel_rfl
 t37 := Tryz.underlying121
 a37 := Tryz.isAgg121
 z37 := Tryz.sizeOf121
 v37 := Tryz.zeroValue121
 i37 := by kernel_rfl
 t41 := Tryz.underlying125
 a41 := Tryz.isAgg125
 z41 := Tryz.sizeOf125
 v41 := Tryz.zeroValue125
 i41 := by kernel_rfl
 t44 := Tryz.underlying128
 a44 := Tryz.isAgg128
 z44 := Tryz.sizeOf128
 v44 := Tryz.zeroValue128
 i44 := by kernel_rfl
 t49 := Tryz.underlying150
 a49 := Tryz.isAgg150
 z49 := Tryz.sizeOf150
 v49 := Tryz.zeroValue150
 i49 := by kernel_rfl
 t51 := Tryz.underlying152
 a51 := Tryz.isAgg152
 z51 := Tryz.sizeOf152
 v51 := Tryz.zeroValue152
 i51 := by kernel_rfl
 t53 := Tryz.underlying154
 a53 := Tryz.isAgg154
 z53 := Tryz.sizeOf154
 v53 := Tryz.zeroValue154
 i53 := by kernel_rfl
 t54 := Tryz.underlying155
 a54 := Tryz.isAgg155
 z54 := Tryz.sizeOf155
 v54 := Tryz.zeroValue155
 i54 := by kernel_rfl
 t58 := Tryz.underlying159
 a58 := Tryz.isAgg159
 z58 := Tryz.sizeOf159
 v58 := Tryz.zeroValue159
 i58 := by kernel_rfl
 t60 := Tryz.underlying175
 a60 := Tryz.isAgg175
 z60 := Tryz.sizeOf175
 v60 := Tryz.zeroValue175
 i60 := by kernel_rfl
 t64 := Tryz.underlying179
 a64 := Tryz.isAgg179
 z64 := Tryz.sizeOf179
 v64 := Tryz.zeroValue179
 i64 := by kernel_rfl
 t66 := Tryz.underlying195
 a66 := Tryz.isAgg195
 z66 := Tryz.sizeOf195
 v66 := Tryz.zeroValue195
 i66 := by kernel_rfl
 t67 := Tryz.underlying196
 a67 := Tryz.isAgg196
 z67 := Tryz.sizeOf196
 v67 := Tryz.zeroValue196
 i67 := by kernel_rfl
 t75 := Tryz.underlying240
 a75 := Tryz.isAgg240
 z75 := Tryz.sizeOf240
 v75 := Tryz.zeroValue240
 i75 := by kernel_rfl
 t76 := Tryz.underlying241
 a76 := Tryz.isAgg241
 z76 := Tryz.sizeOf241
 v76 := Tryz.zeroValue241
 i76 := by kernel_rfl
 t77 := Tryz.underlying242
 a77 := Tryz.isAgg242
 z77 := Tryz.sizeOf242
 v77 := Tryz.zeroValue242
 i77 := by kernel_rfl
 t78 := Tryz.underlying243
 a78 := Tryz.isAgg243
 z78 := Tryz.sizeOf243
 v78 := Tryz.zeroValue243
 i78 := by kernel_rfl
 t79 := Tryz.underlying244
 a79 := Tryz.isAgg244
 z79 := Tryz.sizeOf244
 v79 := Tryz.zeroValue244
 i79 := by kernel_rfl
 t80 := Tryz.underlying245
 a80 := Tryz.isAgg245
 z80 := Tryz.sizeOf245
 v80 := Tryz.zeroValue245
 i80 := by kernel_rfl
 t82 := Tryz.underlying247
 a82 := Tryz.isAgg247
 z82 := Tryz.sizeOf247
 v82 := Tryz.zeroValue247
 i82 := by kernel_rfl }
end Go.Proofs
namespace Go.Mach
open Go Go.RowKit Go.Proofs Go.Lib
open Go.Sort hiding Below
def encE (p : Ed) : List Value := [.int .i64 p.f0, .int .i64 p.f1]
instance : Inhabited Ed := ⟨zEd⟩
theorem encE_one (f : Ed) : ∀ v ∈ encE f, v.oneCell' = true := fun v hv => by
 simp only [encE, List.mem_cons, List.not_mem_nil, or_false] at hv
 rcases hv with rfl | rfl <;> rfl
def ltE (a b : Ed) : Bool := decide (a.f0 < b.f0) || (decide (a.f0 = b.f0) && decide (a.f1 < b.f1))
theorem ltE_iff {a b : Ed} : ltE a b = true ↔ a.f0 < b.f0 ∨ a.f0 = b.f0 ∧ a.f1 < b.f1 := by simp [ltE]
theorem ltE_no {a b : Ed} : ltE a b = false ↔ ¬ (a.f0 < b.f0 ∨ a.f0 = b.f0 ∧ a.f1 < b.f1) := by
 rw [← ltE_iff]; cases ltE a b <;> simp
theorem ltE_swo : SWO ltE where
 irrefl x := ltE_no.2 (by omega)
 trans x y z h k := by rw [ltE_iff] at *; omega
 ntrans x y z h k := by rw [ltE_no] at *; omega
set_option maxHeartbeats 4000000 in
theorem less_calls (blk off c Bs size : Nat) (W : World) (G0 G1 : Nat → Int) (hs : W.cell? ⟨Bs, 0, none⟩ = some (.slice (some ⟨blk, off, none⟩) size c))
  (h0 : ∀ t, t < size → W.cell? ⟨blk, off + t * 2, none⟩ = some (.int .i64 (G0 t))) (h1 : ∀ t, t < size → W.cell? ⟨blk, off + t * 2 + 1, none⟩ = some (.int .i64 (G1 t))) (i j : Nat) (hi : i < size) (hj : j < size) (hsz : size < 4611686018427387904) :
  Calls Tryz.prog 99 #[.int .i64 i, .int .i64 j, .pointer (some ⟨Bs, 0, none⟩)] W fun e w' => e = .returned (.bool (decide (G0 i < G0 j) || (decide (G0 i = G0 j) && decide (G1 i < G1 j)))) ∧ ∃ q, w' = W.drewN q := by
 have ci := h0 i hi
 have cj := h0 j hj
 have di := h1 i hi
 have dj := h1 j hj
 have hn : Tryz.f99.ntmps = 43 := by kernel_rfl
 have t3 := Tryz.underlying3; have t4 := Tryz.underlying4; have t42 := Tryz.underlying42; have t75 := Tryz.underlying75
 by_cases hlt : G0 i < G0 j
 · have hd : decide (G0 i < G0 j) = true := decide_eq_true hlt
   go_enter Tryz.func99, hn
   go_wp2
   go_quiet (fail)
   go_wp2
   go_ret
   exact ⟨by simp [hlt], nq, rfl⟩
 · have hd : decide (G0 i < G0 j) = false := decide_eq_false hlt
   by_cases heq : G0 i = G0 j
   · have hq : decide (G0 i = G0 j) = true := decide_eq_true heq
     go_enter Tryz.func99, hn
     go_wp2
     go_quiet (fail)
     go_wp2
     go_ret
     exact ⟨by simp [heq], nq, rfl⟩
   · have hq : decide (G0 i = G0 j) = false := decide_eq_false heq
     go_enter Tryz.func99, hn
     go_wp2
     go_quiet (fail)
     go_wp2
     go_ret
     exact ⟨by simp [hlt, heq], nq, rfl⟩
end Go.Mach
namespace Go.Mach
open Go Go.RowKit
theorem ltE_tr {a b c : Ed} (h : ltE a b = true) (k : ltE b c = true) : ltE a c = true := ltE_swo.trans a b c h k
theorem ltE_ir (a : Ed) : ltE a a = false := ltE_swo.irrefl a
theorem ltE_as {a b : Ed} (h : ltE a b = true) : ltE b a = false := by rw [ltE_iff] at h; rw [ltE_no]; omega
theorem ltE_ne {a b : Ed} (h : ltE a b = true) : a ≠ b := fun e => by subst e; rw [ltE_ir] at h; cases h
theorem ltE_tt {a b : Ed} (h : ltE a b = false) (k : a ≠ b) : ltE b a = true := by
 rw [ltE_no] at h
 rw [ltE_iff]
 obtain ⟨a, a'⟩ := a
 obtain ⟨b, b'⟩ := b
 have : ¬ (a = b ∧ a' = b') := fun ⟨q, r⟩ => k (by subst q r; rfl)
 dsimp only at h ⊢
 omega
def insE (x : Ed) : List Ed → List Ed
 | [] => [x]
 | a :: t => if ltE a x then a :: insE x t else if a = x then a :: t else x :: a :: t
def RisE (l : List Ed) : Prop := l.Pairwise (fun a b => ltE a b = true)
theorem mem_insE {x y : Ed} : ∀ {l : List Ed}, y ∈ insE x l ↔ y = x ∨ y ∈ l
 | [] => by simp [insE]
 | a :: t => by
   unfold insE
   split
   · rw [List.mem_cons, mem_insE, List.mem_cons]
     constructor
     · rintro (h | h | h)
       · exact .inr (.inl h)
       · exact .inl h
       · exact .inr (.inr h)
     · rintro (h | h | h)
       · exact .inr (.inl h)
       · exact .inl h
       · exact .inr (.inr h)
   · split
     · rename_i h; subst h; simp
     · simp
theorem RisE.nil : RisE [] := List.Pairwise.nil
theorem RisE.ins (x : Ed) : ∀ {l : List Ed}, RisE l → RisE (insE x l)
 | [], _ => List.pairwise_singleton _ _
 | a :: t, h => by
   obtain ⟨h1, h2⟩ := List.pairwise_cons.1 h
   unfold insE
   split
   · rename_i hl
     refine List.pairwise_cons.2 ⟨fun y hy => ?_, RisE.ins x h2⟩
     rcases mem_insE.1 hy with rfl | hy
     · exact hl
     · exact h1 y hy
   · rename_i hl
     split
     · exact h
     · rename_i hne
       have hx : ltE x a = true := ltE_tt (by simpa using hl) hne
       refine List.pairwise_cons.2 ⟨fun y hy => ?_, h⟩
       rcases List.mem_cons.1 hy with rfl | hy
       · exact hx
       · exact ltE_tr hx (h1 y hy)
theorem len_insE (x : Ed) : ∀ l : List Ed, (insE x l).length ≤ l.length + 1
 | [] => by simp [insE]
 | a :: t => by
   have := len_insE x t
   unfold insE
   split
   · simp only [List.length_cons]; omega
   · split <;> simp
theorem insE_at {x : Ed} : ∀ {l : List Ed} (i : Nat), (∀ y ∈ l.take i, ltE y x = true) → insE x l = l.take i ++ insE x (l.drop i)
 | [], i, _ => by simp
 | a :: t, 0, _ => by simp
 | a :: t, i + 1, h => by
   have ha : ltE a x = true := h a (by simp)
   rw [insE, if_pos ha, List.take_succ_cons, List.drop_succ_cons, List.cons_append, insE_at (l := t) i (fun y hy => h y (by simp [hy]))]
theorem insE_snoc {x b : Ed} (h : ltE x b = true) : ∀ m : List Ed, insE x (m ++ [b]) = insE x m ++ [b]
 | [] => by simp only [List.nil_append, insE]; rw [if_neg (by rw [ltE_as h]; decide), if_neg (fun e => ltE_ne h e.symm)]; rfl
 | a :: t => by
   rw [List.cons_append, insE, insE]
   split
   · rw [insE_snoc h t]; rfl
   · split <;> rfl
theorem insE_lt {x : Ed} {l : List Ed} (h : ∀ y ∈ l, ltE y x = true) : insE x l = l ++ [x] := by
 have := insE_at (l := l) l.length (by rw [List.take_length]; exact h)
 rw [this, List.take_length, List.drop_length]; rfl
theorem insE_mem {x : Ed} : ∀ {l : List Ed}, RisE l → x ∈ l → insE x l = l
 | a :: t, hr, h => by
   obtain ⟨h1, h2⟩ := List.pairwise_cons.1 hr
   rw [insE]
   rcases List.mem_cons.1 h with rfl | h
   · rw [if_neg (by rw [ltE_ir]; decide), if_pos rfl]
   · rw [if_pos (h1 x h), insE_mem h2 h]
theorem drop_rdE {l : List Ed} {i : Int} (h0 : 0 ≤ i) (h1 : i < l.length) : l.drop i.toNat = rE l i :: l.drop (i + 1).toNat := by
 have h2 : i.toNat < l.length := by omega
 rw [List.drop_eq_getElem_cons h2, show (i + 1).toNat = i.toNat + 1 by omega]
 congr 1
 simp [rE, rdG, h2]
theorem ltE_step {x b : Ed} {i : Int} {l : List Ed} (h0 : 0 ≤ i) (h1 : i < l.length) (h : ∀ y ∈ l.take i.toNat, ltE y x = true) (hb : rE l i = b) (hx : ltE b x = true) : ∀ y ∈ l.take (i + 1).toNat, ltE y x = true := by
 rw [take_succG zEd h0 h1]
 intro y hy
 rcases List.mem_append.1 hy with hy | hy
 · exact h y hy
 · rw [List.mem_singleton.1 hy]; subst hb; exact hx
theorem gtE_step {x : Ed} {i : Int} {l : List Ed} (h0 : 0 ≤ i) (h1 : i < l.length) (h : ∀ y ∈ l.drop i.toNat, ltE x y = true) : ∀ y ∈ l.drop (i + 1).toNat, ltE x y = true := fun y hy => h y (by rw [drop_rdE h0 h1]; exact List.mem_cons_of_mem _ hy)
theorem gtE_at {x b : Ed} {i : Int} {l : List Ed} (h0 : 0 ≤ i) (h1 : i < l.length) (h : ∀ y ∈ l.drop i.toNat, ltE x y = true) (hb : rE l i = b) : ltE x b = true := h b (by rw [drop_rdE h0 h1, hb]; simp)
theorem gtE_ris {x b : Ed} {i : Int} {l : List Ed} (hr : RisE l) (h0 : 0 ≤ i) (h1 : i < l.length) (hb : rE l i = b) (hx : ltE x b = true) : ∀ y ∈ l.drop (i + 1).toNat, ltE x y = true := by
 have h2 : RisE (l.drop i.toNat) := List.Pairwise.sublist (List.drop_sublist _ _) hr
 rw [drop_rdE h0 h1, hb] at h2
 intro y hy
 exact ltE_tr hx ((List.pairwise_cons.1 h2).1 y hy)
def lEO (x : Ed) (l : List Ed) (i : Int) (d : Bool) : List Ed := if d then insE x (l.take i.toNat) else l.take i.toNat
theorem len_lEO (x : Ed) (l : List Ed) (i : Int) (d : Bool) : (lEO x l i d).length ≤ l.length + 1 := by
 have := len_insE x (l.take i.toNat)
 have := List.length_take_le' i.toNat l
 unfold lEO; split <;> omega
theorem lE_putD {x b : Ed} {i : Int} {l : List Ed} {d : Bool} (hd : d = false) (h0 : 0 ≤ i) (h1 : i < l.length) (h : d = false → ∀ y ∈ l.take i.toNat, ltE y x = true) (hb : rE l i = b) (hx : ltE x b = true) : lEO x l (i + 1) true = lEO x l i d ++ [x] ++ [b] := by
 subst hd
 unfold lEO
 rw [if_pos rfl, if_neg (by decide), take_succG zEd h0 h1, insE_snoc (by subst hb; exact hx), insE_lt (h rfl)]
 subst hb; rfl
theorem lE_go {x b : Ed} {i : Int} {l : List Ed} (h0 : 0 ≤ i) (h1 : i < l.length) (d : Bool) (hb : rE l i = b) (hx : d = true → ltE x b = true) : lEO x l (i + 1) d = lEO x l i d ++ [b] := by
 unfold lEO
 cases d with
 | false => rw [if_neg (by simp), if_neg (by simp), take_succG zEd h0 h1]; subst hb; rfl
 | true => rw [if_pos rfl, if_pos rfl, take_succG zEd h0 h1, insE_snoc (by subst hb; exact hx rfl)]; subst hb; rfl
theorem lE_fin {x : Ed} {i : Int} {l : List Ed} {d : Bool} (hd : d = false) (h : l.length ≤ i) (hq : d = false → ∀ y ∈ l.take i.toNat, ltE y x = true) : insE x l = lEO x l i d ++ [x] := by
 subst hd
 have hq := hq rfl
 unfold lEO
 rw [if_neg (by decide)]
 rw [take_allG h] at hq ⊢; exact insE_lt hq
theorem lE_finT {x : Ed} {i : Int} {l : List Ed} {d : Bool} (hd : d = true) (h : l.length ≤ i) : insE x l = lEO x l i d := by
 subst hd; unfold lEO; rw [if_pos rfl, take_allG h]
theorem push2Ed {l m : List Ed} {x y : Ed} (h : m = l ++ [x] ++ [y]) : eEd l ++ [cEd x] ++ [cEd y] = eEd m := by subst h; simp [eEd]
theorem push1Ed {l m : List Ed} {x : Ed} (h : m = l ++ [x]) : eEd l ++ [cEd x] = eEd m := by subst h; simp [eEd]
def canE (m : List Ed) : List Ed := m.foldl (fun o e => insE e o) []
theorem can_app (m : List Ed) (e : Ed) : canE (m ++ [e]) = insE e (canE m) := by unfold canE; rw [List.foldl_append]; rfl
theorem can_fold : ∀ (m : List Ed) (o : List Ed), RisE o → RisE (m.foldl (fun o e => insE e o) o) ∧ (∀ y, y ∈ m.foldl (fun o e => insE e o) o ↔ y ∈ o ∨ y ∈ m) ∧ (m.foldl (fun o e => insE e o) o).length ≤ o.length + m.length
 | [], o, h => ⟨h, fun y => by simp, by simp⟩
 | e :: m, o, h => by
   obtain ⟨h1, h2, h3⟩ := can_fold m (insE e o) (h.ins e)
   have h4 := len_insE e o
   refine ⟨h1, fun y => ?_, by simp only [List.foldl_cons, List.length_cons]; omega⟩
   rw [List.foldl_cons, h2, mem_insE, List.mem_cons]
   constructor
   · rintro ((h | h) | h)
     · exact .inr (.inl h)
     · exact .inl h
     · exact .inr (.inr h)
   · rintro (h | h | h)
     · exact .inl (.inr h)
     · exact .inl (.inl h)
     · exact .inr h
theorem can_ris (m : List Ed) : RisE (canE m) := (can_fold m [] .nil).1
theorem can_mem {m : List Ed} {y : Ed} : y ∈ canE m ↔ y ∈ m := by rw [canE, (can_fold m [] .nil).2.1]; simp
theorem can_len (m : List Ed) : (canE m).length ≤ m.length := by have := (can_fold m [] .nil).2.2; unfold canE; simpa using this
theorem ris_uniq {l m : List Ed} (h : RisE l) (k : RisE m) (hm : ∀ y, y ∈ l ↔ y ∈ m) : l = m := by
 have n1 : l.Nodup := List.Pairwise.imp (fun h => ltE_ne h) h
 have n2 : m.Nodup := List.Pairwise.imp (fun h => ltE_ne h) k
 have hp : l.Perm m := (List.perm_ext_iff_of_nodup n1 n2).2 hm
 refine List.Perm.eq_of_pairwise (le := fun a b => ltE a b = true) (fun a b _ _ h1 h2 => ?_) h k hp
 rw [ltE_as h1] at h2; cases h2
def dedE (l : List Ed) : Nat → List Ed
 | 0 => []
 | n + 1 => dedE l n ++ if n = 0 ∨ l.getD (n - 1) zEd ≠ l.getD n zEd then [l.getD n zEd] else []
theorem len_dedE (l : List Ed) : ∀ n, (dedE l n).length ≤ n
 | 0 => Nat.le_refl _
 | n + 1 => by
   have := len_dedE l n
   rw [dedE, List.length_append]
   split <;> simp <;> omega
theorem ded_ok {l : List Ed} (hs : l.Pairwise (fun a b => ltE b a = false)) : ∀ n, n ≤ l.length → RisE (dedE l n) ∧ ∀ y, y ∈ dedE l n ↔ y ∈ l.take n
 | 0, _ => ⟨.nil, fun y => by simp [dedE]⟩
 | n + 1, hn => by
   obtain ⟨h1, h2⟩ := ded_ok hs n (by omega)
   have hg : l.getD n zEd = l[n] := by simp [show n < l.length by omega]
   have ht : l.take (n + 1) = l.take n ++ [l[n]] := List.take_succ_eq_append_getElem (by omega)
   have hp := List.pairwise_iff_getElem.1 hs
   have hmem : ∀ y ∈ l.take n, ∃ i, ∃ h : i < l.length, i < n ∧ l[i] = y := fun y hy => by
    obtain ⟨i, hi, rfl⟩ := List.getElem_of_mem hy
    rw [List.length_take] at hi
    exact ⟨i, by omega, by omega, by simp⟩
   rw [dedE]
   split
   · rename_i hc
     refine ⟨List.pairwise_append.2 ⟨h1, List.pairwise_singleton _ _, fun a ha b hb => ?_⟩, fun y => ?_⟩
     · rw [List.mem_singleton.1 hb, hg]
       obtain ⟨i, hi, hin, rfl⟩ := hmem a ((h2 a).1 ha)
       have hn0 : n ≠ 0 := by omega
       have hc := hc.resolve_left hn0
       have hg1 : l.getD (n - 1) zEd = l[n - 1] := by simp [show n - 1 < l.length by omega]
       rw [hg, hg1] at hc
       have hlast : ltE l[n - 1] l[n] = true := ltE_tt (hp (n - 1) n (by omega) (by omega) (by omega)) (fun e => hc e.symm)
       by_cases hl : i = n - 1
       · subst hl; exact hlast
       · by_cases he : l[i] = l[n - 1]
         · rw [he]; exact hlast
         · exact ltE_tr (ltE_tt (hp i (n - 1) (by omega) (by omega) (by omega)) (fun e => he e.symm)) hlast
     · rw [List.mem_append, h2, ht, List.mem_append, hg]
   · rename_i hc
     rw [not_or] at hc
     obtain ⟨hn0, hc⟩ := hc
     have hc := Classical.not_not.1 hc
     rw [List.append_nil]
     refine ⟨h1, fun y => ?_⟩
     rw [h2, ht, List.mem_append, List.mem_singleton]
     refine ⟨.inl, ?_⟩
     rintro (h | h)
     · exact h
     · subst h
       have hg1 : l.getD (n - 1) zEd = l[n - 1] := by simp [show n - 1 < l.length by omega]
       rw [hg, hg1] at hc
       rw [← hc]
       exact List.mem_iff_getElem.2 ⟨n - 1, by rw [List.length_take]; omega, by simp⟩
end Go.Mach
