/- What the statements share: part 14 of a proof by an executable machine over the program's code. -/
import Derived.Test.YtbkpkchegopmiaaGreatDoorMc13
set_option linter.unusedVariables false
set_option linter.unusedSimpArgs false
namespace Go.Mach
open Go Go.RowKit
theorem len_flowI {l : List Nd} {fs : List Fc} (h : Fok l fs) (a b c d e f : Int) : (flowL fs a b c d e f).length ≤ 2500 := by
 rw [len_flowL]; exact Nat.le_trans (len_vals _ _ _ _) h.len
theorem len_flowPI {l : List Nd} {fs : List Fc} (h : Fok l fs) (a b : Plc) : (flowP fs a b).length ≤ 2500 := len_flowI h _ _ _ _ _ _
theorem lam_ar {x : Nd} (h : lamB x = true) : 0 < arityM x.f0 := by
 simp only [lamB, Bool.or_eq_true, beq_iff_eq] at h
 unfold arityM
 rcases h with h | h <;> simp [h]
theorem len_outerM {l : List Nd} {us : List Bd} (hL : Lok l us) {f : Int} (h : 0 ≤ f ∧ f < l.length) (hl : lamB (rN l f) = true) : (outerM l us f).length ≤ 150 := by
 have h1 := len_outerN l us f ((rN l f).f1 + 1 - startM l (rN l f).f1).toNat
 have h2 := hL.downs f h.1 h.2 (lam_ar hl)
 have h3 := startM_le hL.downs h2.1 (by omega)
 have h4 := hL.size
 unfold outerM
 omega
theorem len_outerFl {l : List Nd} {us : List Bd} {fs : List Fc} (hF : Fok l fs) (bs : List Bd) (fc to : Int) : (bs.flatMap fun x => flowP fs (nameAt x fc) (nameAt x to)).length ≤ bs.length * 2500 :=
 len_flatMap_le _ 2500 (fun x => len_flowPI hF _ _) bs
theorem len_callI {l : List Nd} {us : List Bd} {fs : List Fc} (hF : Fok l fs) (hL : Lok l us) {f : Ab} (h : 0 ≤ f.n ∧ f.n < l.length) (hl : lamB (rN l f.n) = true) (dp i c : Int) (b : Plc) : (callI l us dp fs i c f b).length ≤ 380002 := by
 unfold callI
 simp only [List.length_append]
 have h1 := len_flowPI hF b (nameAt (givenM l f.n) (ctxPush c i dp))
 have h2 := len_outerFl (us := us) hF (outerM l us f.n) f.c (ctxPush c i dp)
 have h3 := len_outerM hL h hl
 have h4 : (outerM l us f.n).length * 2500 ≤ 150 * 2500 := Nat.mul_le_mul_right _ h3
 have h5 := len_flowI hF 0 (rN l f.n).f1 (ctxPush c i dp) 0 i c
 have h6 := len_rise (hasR fs (rN l f.n).f1 (ctxPush c i dp)) i c
 have h7 : (seeL (rN l f.n).f1 (ctxPush c i dp)).length = 1 := rfl
 omega
theorem those_in {l : List Nd} {fs : List Fc} (hF : Fok l fs) {k n c kd : Int} {a : List Ab} {i : Int} {y : Ab} (e : a = thoseL fs k n c kd) (h0 : 0 ≤ i) (h1 : i < a.length) (hy : rA a i = y) : y.k = kd ∧ (0 ≤ y.n ∧ y.n < l.length) ∧ (y.k = 1 → lamB (rN l y.n) = true) := by
 subst e; subst hy
 have h : rA (thoseL fs k n c kd) i ∈ thoseL fs k n c kd := rdG_mem h0 h1
 generalize rA (thoseL fs k n c kd) i = y at h
 obtain ⟨h2, h3⟩ := List.mem_filter.1 h
 have h4 := mem_vals.1 h2
 exact ⟨by simpa using h3, ⟨(hF.pos _ h4).2, hF.val _ h4⟩, hF.lam _ h4⟩
theorem len_calls {l : List Nd} {us : List Bd} {fs : List Fc} (hF : Fok l fs) (hL : Lok l us) {k n c0 : Int} {a : List Ab} (e : a = thoseL fs k n c0 1) (i c dp : Int) (b : Plc) (j : Nat) : ((a.take j).flatMap fun f => callI l us dp fs i c f b).length ≤ (a.take j).length * 380002 := by
 have hm : ∀ v ∈ a.take j, (callI l us dp fs i c v b).length ≤ 380002 := fun v hv => by
  have h2 := List.mem_of_mem_take hv
  rw [e] at h2
  obtain ⟨h2, h3⟩ := List.mem_filter.1 h2
  have h4 := mem_vals.1 h2
  exact len_callI hF hL ⟨(hF.pos _ h4).2, hF.val _ h4⟩ (hF.lam _ h4 (by simpa using h3)) dp i c b
 generalize a.take j = m at hm
 induction m with
 | nil => simp
 | cons x m ih =>
   have := hm x List.mem_cons_self
   have := ih fun v hv => hm v (List.mem_cons_of_mem _ hv)
   simp only [List.flatMap_cons, List.length_append, List.length_cons, Nat.add_mul, Nat.one_mul]; omega
theorem emp_len {α : Type} (a : List α) : a.isEmpty = decide ((a.length : Int) ≤ 0) := by cases a <;> simp <;> omega
theorem emp_t {α : Type} {a v : List α} (hv : a = v) (h : (v.length : Int) ≤ 0) : a.isEmpty = true := by subst hv; rw [emp_len]; exact decide_eq_true h
theorem emp_f {α : Type} {a v : List α} (hv : a = v) (h : 0 < (v.length : Int)) : a.isEmpty = false := by subst hv; rw [emp_len]; exact decide_eq_false (by omega)
theorem len_kidI (fs : List Fc) (t i c : Int) (x : Int × Nat) : (kidI fs t i c x).length ≤ 1 := by
 unfold kidI; split
 · exact len_rise _ _ _
 · simp
def byteI (s : ByteArray) (i : Int) : Int := std.byte s i
def wordB (s : ByteArray) : Bool := decide ((∀ i : Nat, i < s.size → 97 ≤ byteI s i ∧ byteI s i ≤ 122) ∧ 1 ≤ s.size ∧ s.size ≤ 8)
def eqS (a b : ByteArray) : Bool := a.toList == b.toList
def keyB (s : ByteArray) : Bool := keyL.any fun k => eqS k s
def nameB (s : ByteArray) : Bool := wordB s && !keyB s
def nfitB (s : ByteArray) (b : Bool) : Bool := if b then nameB s else eqS s ⟨#[]⟩
def namesM (t : Int) : Nat := if t = 1 ∨ t = 3 ∨ t = 5 ∨ t = 19 then 1 else if t = 6 ∨ t = 14 then 2 else 0
def numB (x : Nd) : Bool := if x.f0 = 2 then decide (0 ≤ x.f4 ∧ x.f4 ≤ 65535) else if x.f0 = 8 then decide (0 ≤ x.f4 ∧ x.f4 ≤ 3) else decide (x.f4 = 0)
def restB (x : Nd) : Bool := decide ((arityM x.f0 < 1 → x.f1 = 0) ∧ (arityM x.f0 < 2 → x.f2 = 0) ∧ (arityM x.f0 < 3 → x.f3 = 0))
def fldB (x : Nd) : Bool := decide (1 ≤ x.f0 ∧ x.f0 ≤ 19) && (nfitB x.f5 (decide (0 < namesM x.f0)) && (nfitB x.f6 (decide (1 < namesM x.f0)) && (restB x && numB x)))
def walkK (st K : List Int) : Nat → Int → Option Int
 | 0, a => some a
 | k + 1, a => if rI K k = a - 1 ∧ 0 ≤ rI K k then walkK st K k (rI st (rI K k)) else none
def startsO (l : List Nd) : Nat → Option (List Int)
 | 0 => some []
 | n + 1 => (startsO l n).bind fun st => if fldB (rN l n) then (walkK st (kidsM (rN l n)) (kidsM (rN l n)).length n).map fun a => st ++ [a] else none
def okM (l : List Nd) : Bool := decide (1 ≤ l.length ∧ l.length ≤ 150) && (match startsO l l.length with
 | some st => rI st (l.length - 1) == 0
 | none => false)
theorem startsO_none {l : List Nd} {n : Nat} (h : startsO l n = none) : ∀ m, n ≤ m → startsO l m = none := fun m hm => by
 induction hm with
 | refl => exact h
 | step _ ih => rw [startsO, ih]; rfl
def TileAt (K st : List Int) (s j : Int) : Prop :=
 (∀ x ∈ K, 0 ≤ x ∧ x < j ∧ s ≤ rI st x ∧ rI st x ≤ x) ∧ (∀ i : Int, s ≤ i → i < j → ∃ y ∈ K, rI st y ≤ i ∧ i ≤ y) ∧ (∀ x ∈ K, ∀ y ∈ K, x = y ∨ x < rI st y ∨ y < rI st x)
structure Tiled (l : List Nd) (st : List Int) : Prop where
 tile : ∀ j : Nat, j < l.length → TileAt (kidsM (rN l j)) st (rI st j) j
 low : ∀ j : Nat, j < l.length → 0 ≤ rI st j ∧ rI st j ≤ j
theorem rI_left (a b : List Int) {x : Int} (h0 : 0 ≤ x) (h : x < a.length) : rI (a ++ b) x = rI a x := by
 unfold rI rdG
 rw [List.getD_eq_getElem?_getD, List.getD_eq_getElem?_getD, List.getElem?_append_left (by omega)]
theorem rI_last (a b : List Int) {x : Int} (y : Int) (h : x = a.length) : rI (a ++ y :: b) x = y := by
 unfold rI rdG
 rw [h, Int.toNat_natCast, List.getD_eq_getElem?_getD, List.getElem?_append_right (Nat.le_refl _), Nat.sub_self]; rfl
theorem tileAt_append {K st : List Int} {s j : Int} (b : List Int) (hj : j ≤ st.length) (h : TileAt K st s j) : TileAt K (st ++ b) s j := by
 obtain ⟨h1, h2, h3⟩ := h
 have e : ∀ x ∈ K, rI (st ++ b) x = rI st x := fun x hx => rI_left _ _ (h1 x hx).1 (by have := (h1 x hx).2.1; omega)
 refine ⟨fun x hx => by rw [e x hx]; exact h1 x hx, fun i hi hij => ?_, fun x hx y hy => by rw [e x hx, e y hy]; exact h3 x hx y hy⟩
 obtain ⟨y, hy, h4⟩ := h2 i hi hij
 exact ⟨y, hy, by rw [e y hy]; exact h4⟩
theorem tileAt_nil (st : List Int) (j : Int) : TileAt [] st j j := ⟨fun x h => absurd h List.not_mem_nil, fun i h1 h2 => by omega, fun x h => absurd h List.not_mem_nil⟩
theorem tileAt_cons {K st : List Int} {x j : Int} (h : TileAt K st x j) (hx0 : 0 ≤ x - 1) (hxj : x ≤ j) (hst : rI st (x - 1) ≤ x - 1) : TileAt ((x - 1) :: K) st (rI st (x - 1)) j := by
 obtain ⟨h1, h2, h3⟩ := h
 refine ⟨fun y hy => ?_, fun i hi hij => ?_, fun y hy z hz => ?_⟩
 · rcases List.mem_cons.1 hy with rfl | hy
   · exact ⟨hx0, by omega, Int.le_refl _, hst⟩
   · have := h1 y hy
     exact ⟨this.1, this.2.1, by omega, this.2.2.2⟩
 · by_cases c : i < x
   · exact ⟨x - 1, List.mem_cons_self, hi, by omega⟩
   · obtain ⟨y, hy, h4⟩ := h2 i (by omega) hij
     exact ⟨y, List.mem_cons_of_mem _ hy, h4⟩
 · rcases List.mem_cons.1 hy with rfl | hy <;> rcases List.mem_cons.1 hz with rfl | hz
   · exact .inl rfl
   · have := h1 z hz; right; left; omega
   · have := h1 y hy; right; right; omega
   · exact h3 y hy z hz
theorem rI_drop {K : List Int} {k : Nat} (h : k < K.length) : K.drop k = rI K k :: K.drop (k + 1) := by
 rw [List.drop_eq_getElem_cons h]
 congr 1
 simp [rI, rdG, List.getD_eq_getElem?_getD, List.getElem?_eq_getElem h]
theorem walkK_tile {st K : List Int} {j : Int} (hst : ∀ i : Nat, i < st.length → 0 ≤ rI st i ∧ rI st i ≤ i) (hj : j = st.length) : ∀ (k : Nat) (a : Int) (r : Int), k ≤ K.length → 0 ≤ a → a ≤ j → TileAt (K.drop k) st a j → walkK st K k a = some r → 0 ≤ r ∧ r ≤ j ∧ TileAt K st r j
 | 0, a, r, _, h0, h1, ht, h => by
   simp only [walkK, Option.some.injEq] at h
   subst h
   rw [List.drop_zero] at ht
   exact ⟨h0, h1, ht⟩
 | k + 1, a, r, hk, h0, h1, ht, h => by
   rw [walkK] at h
   split at h
   · rename_i hc
     have hs := hst (a - 1).toNat (by omega)
     rw [Int.toNat_of_nonneg (by omega)] at hs
     rw [hc.1] at h
     refine walkK_tile hst hj k _ r (by omega) (by omega) (by omega) ?_ h
     rw [rI_drop (by omega), hc.1]
     exact tileAt_cons ht (by omega) (by omega) hs.2
   · cases h
theorem startsO_tile {l : List Nd} : ∀ (n : Nat) (st : List Int), startsO l n = some st → st.length = n ∧ (∀ j : Nat, j < n → 0 ≤ rI st j ∧ rI st j ≤ j) ∧ (∀ j : Nat, j < n → fldB (rN l j) = true ∧ TileAt (kidsM (rN l j)) st (rI st j) j)
 | 0, st, h => by
   simp only [startsO, Option.some.injEq] at h
   subst h
   exact ⟨rfl, fun j hj => by omega, fun j hj => by omega⟩
 | n + 1, st, h => by
   rw [startsO] at h
   obtain ⟨s, h1, h2⟩ := Option.bind_eq_some_iff.1 h
   obtain ⟨e1, e2, e3⟩ := startsO_tile n s h1
   split at h2
   · rename_i hf
     obtain ⟨a, h3, rfl⟩ := Option.map_eq_some_iff.1 h2
     have ht : TileAt ((kidsM (rN l n)).drop (kidsM (rN l n)).length) s n n := by rw [List.drop_length]; exact tileAt_nil _ _
     obtain ⟨w1, w2, w3⟩ := walkK_tile (fun i hi => e2 i (by omega)) (by omega) _ _ _ (Nat.le_refl _) (by omega) (Int.le_refl _) ht h3
     refine ⟨by rw [List.length_append, e1]; rfl, fun j hj => ?_, fun j hj => ?_⟩
     · by_cases c : j < n
       · rw [rI_left _ _ (by omega) (by omega)]; exact e2 j c
       · have : j = n := by omega
         subst this
         rw [rI_last _ _ _ (by omega)]; exact ⟨w1, w2⟩
     · by_cases c : j < n
       · rw [rI_left _ _ (by omega) (by omega)]; exact ⟨(e3 j c).1, tileAt_append _ (by omega) (e3 j c).2⟩
       · have : j = n := by omega
         subst this
         rw [rI_last _ _ _ (by omega)]; exact ⟨hf, tileAt_append _ (by omega) w3⟩
   · cases h2
structure OkT (l : List Nd) : Prop where
 size : 1 ≤ l.length ∧ l.length ≤ 150
 st : ∃ st, startsO l l.length = some st ∧ rI st (l.length - 1) = 0
theorem okM_iff {l : List Nd} : okM l = true ↔ OkT l := by
 unfold okM
 rw [Bool.and_eq_true, decide_eq_true_eq]
 constructor
 · rintro ⟨h1, h2⟩
   refine ⟨h1, ?_⟩
   split at h2
   · rename_i st hs; exact ⟨st, hs, by simpa using h2⟩
   · cases h2
 · rintro ⟨h1, st, h2, h3⟩
   refine ⟨h1, ?_⟩
   rw [h2]; simp [h3]
theorem OkT.tiled {l : List Nd} (h : OkT l) : ∃ st, startsO l l.length = some st ∧ st.length = l.length ∧ Tiled l st ∧ rI st (l.length - 1) = 0 := by
 obtain ⟨_, st, h1, h2⟩ := h
 obtain ⟨e1, e2, e3⟩ := startsO_tile _ _ h1
 exact ⟨st, h1, e1, ⟨fun j hj => (e3 j hj).2, e2⟩, h2⟩
theorem OkT.fld {l : List Nd} (h : OkT l) {j : Nat} (hj : j < l.length) : fldB (rN l j) = true := by
 obtain ⟨_, st, h1, h2⟩ := h
 exact ((startsO_tile _ _ h1).2.2 j hj).1
theorem first_kid {n : Nd} (h : 0 < arityM n.f0) : n.f1 ∈ kidsM n := by
 unfold kidsM
 obtain ⟨k, hk⟩ := Nat.exists_eq_succ_of_ne_zero (Nat.pos_iff_ne_zero.1 h)
 rw [hk]; exact List.mem_cons_self
theorem OkT.downs {l : List Nd} (h : OkT l) : Downs l := by
 obtain ⟨st, _, _, ht, _⟩ := h.tiled
 intro i h0 h1 ha
 have := (ht.tile i.toNat (by omega)).1 (rN l i).f1 (by rw [Int.toNat_of_nonneg h0]; exact first_kid ha)
 omega
theorem tiled_within {l : List Nd} {st : List Int} (ht : Tiled l st) : ∀ (n : Nat) (y : Nat), y < n → y < l.length → ∀ i : Nat, rI st y ≤ i → i ≤ y → rI st y ≤ rI st i := by
 intro n
 induction n with
 | zero => intro y h; omega
 | succ n ih =>
   intro y hy hl i hi hiy
   by_cases c : i = y
   · rw [c]; exact Int.le_refl _
   · obtain ⟨z, hz, h1, h2⟩ := (ht.tile y hl).2.1 (i : Int) hi (by omega)
     have hz2 := (ht.tile y hl).1 z hz
     have := ih z.toNat (by omega) (by omega) i (by rw [Int.toNat_of_nonneg hz2.1]; exact h1) (by omega)
     rw [Int.toNat_of_nonneg hz2.1] at this
     omega
theorem tiled_lt {l : List Nd} {st : List Int} (ht : Tiled l st) {i j : Nat} (hij : i < j) (hj : j < l.length) {x : Int} (hi : x ∈ kidsM (rN l i)) (hx : x ∈ kidsM (rN l j)) : False := by
 obtain ⟨j1, j2, j3⟩ := ht.tile j hj
 have i1 := (ht.tile i (by omega)).1 x hi
 have j1x := j1 x hx
 have hst : rI st x ≤ x := j1x.2.2.2
 obtain ⟨y, hy, h1, h2⟩ := j2 (i : Int) (by omega) (by omega)
 have hy2 := j1 y hy
 have w := tiled_within ht (y.toNat + 1) y.toNat (by omega) (by omega) i (by rw [Int.toNat_of_nonneg hy2.1]; exact h1) (by omega)
 rw [Int.toNat_of_nonneg hy2.1] at w
 rcases j3 x hx y hy with h | h | h
 · omega
 · omega
 · omega
theorem tiled_one {l : List Nd} {st : List Int} (ht : Tiled l st) {i j : Nat} (hi : i < l.length) (hj : j < l.length) {x : Int} (h1 : x ∈ kidsM (rN l i)) (h2 : x ∈ kidsM (rN l j)) : i = j := by
 rcases Nat.lt_trichotomy i j with h | h | h
 · exact absurd (tiled_lt ht h hj h1 h2) id
 · exact h
 · exact absurd (tiled_lt ht h hi h2 h1) id
def parS (l : List Nd) (n : Int) : Int := if okM l then (match (List.range l.length).find? (fun (j : Nat) => decide (n ∈ kidsM (rN l (j : Int)))) with
 | some j => (j : Int)
 | none => -1) else -1
theorem parS_hit {l : List Nd} (hk : okM l = true) {n a : Int} (h0 : 0 ≤ a) (h1 : a < l.length) (hb : ∀ j : Nat, (j : Int) < a → n ∉ kidsM (rN l j)) (hn : n ∈ kidsM (rN l a)) : parS l n = a := by
 unfold parS
 rw [hk, if_pos rfl]
 have : (List.range l.length).find? (fun (j : Nat) => decide (n ∈ kidsM (rN l (j : Int)))) = some a.toNat := by
  rw [List.find?_range_eq_some]
  refine ⟨by rw [Int.toNat_of_nonneg h0]; exact decide_eq_true hn, by simp; omega, fun j hj => ?_⟩
  have := hb j (by omega)
  simp [this]
 rw [this]
 simp; omega
theorem parS_none {l : List Nd} {n : Int} (hb : ∀ j : Nat, j < l.length → n ∉ kidsM (rN l j)) : parS l n = -1 := by
 unfold parS
 split
 · have : (List.range l.length).find? (fun (j : Nat) => decide (n ∈ kidsM (rN l (j : Int)))) = none := by
     rw [List.find?_eq_none]
     intro j hj
     have := hb j (List.mem_range.1 hj)
     simp [this]
   rw [this]
 · rfl
theorem parS_cases {l : List Nd} (n : Int) : (parS l n = -1 ∧ (okM l = true → ∀ j : Nat, j < l.length → n ∉ kidsM (rN l j))) ∨ (okM l = true ∧ ∃ j : Nat, j < l.length ∧ parS l n = j ∧ n ∈ kidsM (rN l j)) := by
 by_cases hk : okM l = true
 · by_cases h : ∃ j : Nat, j < l.length ∧ n ∈ kidsM (rN l j)
   · right
     refine ⟨hk, ?_⟩
     have : ∃ j : Nat, (j < l.length ∧ n ∈ kidsM (rN l j)) ∧ ∀ i, i < j → ¬ (i < l.length ∧ n ∈ kidsM (rN l i)) := by
      obtain ⟨j, hj⟩ := h
      induction j using Nat.strongRecOn with
      | _ j ih =>
        by_cases c : ∃ i, i < j ∧ (i < l.length ∧ n ∈ kidsM (rN l i))
        · obtain ⟨i, h1, h2⟩ := c; exact ih i h1 h2
        · exact ⟨j, hj, fun i hi h => c ⟨i, hi, h⟩⟩
     obtain ⟨j, h1, h2⟩ := this
     exact ⟨j, h1.1, parS_hit hk (by omega) (by omega) (fun i hi hn => h2 i (by omega) ⟨by omega, hn⟩) h1.2, h1.2⟩
   · exact .inl ⟨parS_none fun j hj hn => h ⟨j, hj, hn⟩, fun _ j hj hn => h ⟨j, hj, hn⟩⟩
 · refine .inl ⟨?_, fun h => absurd h hk⟩
   unfold parS; rw [if_neg hk]
theorem OkT.par {l : List Nd} (h : OkT l) {n : Int} {j : Nat} (hj : j < l.length) (hn : n ∈ kidsM (rN l j)) : parS l n = j := by
 obtain ⟨st, _, _, ht, _⟩ := h.tiled
 rcases parS_cases (l := l) n with ⟨_, h2⟩ | ⟨_, i, h1, h2, h3⟩
 · exact absurd hn (h2 (okM_iff.2 h) j hj)
 · rw [h2, tiled_one ht h1 hj h3 hn]
theorem OkT.par_lt {l : List Nd} (h : OkT l) {n : Int} (hp : 0 ≤ parS l n) : 0 ≤ n ∧ n < parS l n ∧ parS l n < l.length ∧ n ∈ kidsM (rN l (parS l n)) := by
 obtain ⟨st, _, _, ht, _⟩ := h.tiled
 rcases parS_cases (l := l) n with ⟨h1, _⟩ | ⟨_, i, h1, h2, h3⟩
 · omega
 · have := (ht.tile i h1).1 n h3
   rw [h2]; exact ⟨this.1, this.2.1, by omega, h3⟩
def ParU (l : List Nd) (i : Int) (q : List Int) : Prop := q.length = l.length ∧ ∀ n : Nat, n < l.length → rI q n = if 0 ≤ parS l n ∧ parS l n < i then parS l n else -1
def ParK (l : List Nd) (i m : Int) (q : List Int) : Prop := q.length = l.length ∧ ∀ n : Nat, n < l.length → rI q n = if (0 ≤ parS l n ∧ parS l n < i) ∨ (n : Int) ∈ (kidsM (rN l i)).take m.toNat then parS l n else -1
def parsM (l : List Nd) : List Int := (List.range l.length).map fun (n : Nat) => parS l (n : Int)
theorem rI_ext {a b : List Int} (hl : a.length = b.length) (h : ∀ n : Nat, n < a.length → rI a n = rI b n) : a = b := by
 refine List.ext_getElem hl fun n h1 h2 => ?_
 have := h n h1
 simpa [rI, rdG, List.getD_eq_getElem?_getD, h1, h2] using this
theorem len_parsM (l : List Nd) : (parsM l).length = l.length := by simp [parsM]
theorem rI_parsM {l : List Nd} {n : Nat} (h : n < l.length) : rI (parsM l) n = parS l n := by
 simp [rI, rdG, parsM, List.getD_eq_getElem?_getD, h]
theorem rI_parsI {l : List Nd} {n : Int} (h0 : 0 ≤ n) (h : n < l.length) : rI (parsM l) n = parS l n := by
 have := rI_parsM (l := l) (n := n.toNat) (by omega)
 rwa [Int.toNat_of_nonneg h0] at this
theorem ParU.start {l : List Nd} : ParU l 0 (List.replicate l.length (-1)) := by
 refine ⟨by simp, fun n hn => ?_⟩
 rw [if_neg (by omega)]
 simp [rI, rdG, List.getD_eq_getElem?_getD, List.getElem?_replicate, hn]
theorem ParU.fin {l : List Nd} (hT : OkT l) {i : Int} {q : List Int} (h : ParU l i q) (hi : (l.length : Int) ≤ i) : q = parsM l := by
 refine rI_ext (by rw [h.1, len_parsM]) fun n hn => ?_
 rw [h.1] at hn
 rw [h.2 n hn, rI_parsM hn]
 split
 · rfl
 · rename_i hc
   rcases parS_cases (l := l) n with ⟨h1, _⟩ | ⟨_, j, h1, h2, h3⟩
   · rw [h1]
   · omega
theorem ParU.kids {l : List Nd} {i : Int} {q : List Int} (h : ParU l i q) : ParK l i 0 q := by
 refine ⟨h.1, fun n hn => ?_⟩
 rw [h.2 n hn]
 simp
theorem ParK.fin {l : List Nd} (hT : OkT l) {i m : Int} {q : List Int} (h0 : 0 ≤ i) (hi : i < l.length) (h : ParK l i m q) (hm : ((kidsM (rN l i)).length : Int) ≤ m) : ParU l (i + 1) q := by
 refine ⟨h.1, fun n hn => ?_⟩
 rw [h.2 n hn, List.take_of_length_le (by omega)]
 have hp : (n : Int) ∈ kidsM (rN l i) ↔ parS l n = i := by
  constructor
  · intro hk
    have := hT.par (j := i.toNat) (n := n) (by omega) (by rw [Int.toNat_of_nonneg h0]; exact hk)
    rw [this]; omega
  · intro e
    have := (hT.par_lt (n := n) (by omega)).2.2.2
    rwa [e] at this
 simp only [hp]
 by_cases c : 0 ≤ parS l n ∧ parS l n < i + 1
 · rw [if_pos c, if_pos (by omega)]
 · rw [if_neg c, if_neg (by omega)]
theorem rI_set (l : List Int) {a b x : Int} (h0 : 0 ≤ a) (ha : a < l.length) (hb : 0 ≤ b) : rI (l.set a.toNat x) b = if b = a then x else rI l b := by
 unfold rI rdG
 rw [List.getD_eq_getElem?_getD, List.getD_eq_getElem?_getD]
 by_cases c : b = a
 · rw [if_pos c, c, List.getElem?_set_self (by omega)]; rfl
 · rw [if_neg c, List.getElem?_set_ne (by omega)]
theorem ParK.step {l : List Nd} (hT : OkT l) {i m k : Int} {q : List Int} (h0 : 0 ≤ i) (hi : i < l.length) (h : ParK l i m q) (m0 : 0 ≤ m) (hm : m < (kidsM (rN l i)).length) (hk : rI (kidsM (rN l i)) m = k) : 0 ≤ k ∧ k < l.length ∧ ParK l i (m + 1) (q.set k.toNat i) := by
 have hmem : k ∈ kidsM (rN l i) := by subst hk; exact rdG_mem m0 hm
 obtain ⟨st, _, _, ht, _⟩ := hT.tiled
 have hr := (ht.tile i.toNat (by omega)).1 k (by rw [Int.toNat_of_nonneg h0]; exact hmem)
 refine ⟨hr.1, by omega, by rw [List.length_set]; exact h.1, fun n hn => ?_⟩
 rw [rI_set _ hr.1 (by rw [h.1]; omega) (by omega), h.2 n hn, take_succG 0 m0 hm, show rdG 0 (kidsM (rN l i)) m = k from hk]
 by_cases c : (n : Int) = k
 · rw [if_pos c, if_pos (by right; rw [c]; simp), c]
   have := hT.par (j := i.toNat) (n := k) (by omega) (by rw [Int.toNat_of_nonneg h0]; exact hmem)
   rw [this]; omega
 · rw [if_neg c]
   simp [c]
theorem walkK_first {st K : List Int} : ∀ (k : Nat) (a r : Int), walkK st K k a = some r → (k = 0 ∧ r = a) ∨ (0 < k ∧ r = rI st (rI K 0))
 | 0, a, r, h => by
   simp only [walkK, Option.some.injEq] at h
   exact .inl ⟨rfl, h.symm⟩
 | k + 1, a, r, h => by
   rw [walkK] at h
   split at h
   · rcases walkK_first k _ r h with ⟨rfl, h2⟩ | ⟨_, h2⟩
     · exact .inr ⟨by omega, h2⟩
     · exact .inr ⟨by omega, h2⟩
   · cases h
theorem kids_zero {n : Nd} (h : 0 < arityM n.f0) : rI (kidsM n) 0 = n.f1 := by
 unfold kidsM
 obtain ⟨k, hk⟩ := Nat.exists_eq_succ_of_ne_zero (Nat.pos_iff_ne_zero.1 h)
 rw [hk]; rfl
theorem OkT.start {l : List Nd} (hT : OkT l) : ∀ (n : Nat) (st : List Int), n ≤ l.length → startsO l n = some st → ∀ j : Nat, j < n → rI st j = startM l j
 | 0, st, _, _, j, hj => by omega
 | n + 1, st, hn, h, j, hj => by
   rw [startsO] at h
   obtain ⟨s, h1, h2⟩ := Option.bind_eq_some_iff.1 h
   have ih := OkT.start hT n s (by omega) h1
   have hl := (startsO_tile n s h1).1
   split at h2
   · obtain ⟨a, h3, rfl⟩ := Option.map_eq_some_iff.1 h2
     by_cases c : j < n
     · rw [rI_left _ _ (by omega) (by omega)]; exact ih j c
     · have : j = n := by omega
       subst this
       rw [rI_last _ _ _ (by omega)]
       have hk := len_kidsM (rN l (j : Int))
       rcases walkK_first _ _ _ h3 with ⟨h4, rfl⟩ | ⟨h4, rfl⟩
       · rw [startM_base (by omega)]
       · have ha : 0 < arityM (rN l (j : Int)).f0 := by omega
         have hd := hT.downs j (by omega) (by omega) ha
         rw [kids_zero ha, startM_step hT.downs (by omega) (by omega) rfl ha]
         have := ih (rN l (j : Int)).f1.toNat (by omega)
         rwa [Int.toNat_of_nonneg hd.1] at this
   · cases h2
theorem OkT.startI {l : List Nd} (hT : OkT l) {st : List Int} (h : startsO l l.length = some st) {i : Int} (h0 : 0 ≤ i) (h1 : i < l.length) : rI st i = startM l i := by
 have := hT.start l.length st (Nat.le_refl _) h i.toNat (by omega)
 rwa [Int.toNat_of_nonneg h0] at this
def bindM (n : Nd) (kid : Int) : List ByteArray × List Int :=
 if n.f0 = 3 ∨ ((n.f0 = 5 ∨ n.f0 = 19) ∧ kid = n.f2) then ([n.f5], [0])
 else if (n.f0 = 6 ∧ kid = n.f1) ∨ (n.f0 = 14 ∧ kid = n.f3) then ([n.f6, n.f5], [1, 0])
 else if n.f0 = 6 then ([n.f5], [0]) else ([], [])
theorem len_bindM (n : Nd) (kid : Int) : (bindM n kid).2.length = (bindM n kid).1.length ∧ (bindM n kid).1.length ≤ 2 := by
 unfold bindM; (repeat' split) <;> simp
theorem role_bindM (n : Nd) (kid : Int) : ∀ r ∈ (bindM n kid).2, r = 0 ∨ r = 1 := by
 unfold bindM; (repeat' split) <;> simp
def hitM (q : Int) (nm : ByteArray) : List ByteArray → List Int → Option Bd
 | s :: ns, r :: rs => if eqS s nm then some ⟨q, r⟩ else hitM q nm ns rs
 | _, _ => none
theorem hitM_step {q : Int} {nm : ByteArray} {ns : List ByteArray} {rs : List Int} (hl : rs.length = ns.length) {k : Int} (h0 : 0 ≤ k) (h1 : k < ns.length) :
  hitM q nm (ns.drop k.toNat) (rs.drop k.toNat) = if eqS (rS ns k) nm then some ⟨q, rI rs k⟩ else hitM q nm (ns.drop (k + 1).toNat) (rs.drop (k + 1).toNat) := by
 have e : (k + 1).toNat = k.toNat + 1 := by omega
 rw [List.drop_eq_getElem_cons (show k.toNat < ns.length by omega), List.drop_eq_getElem_cons (show k.toNat < rs.length by omega), hitM, e]
 have e1 : rS ns k = ns[k.toNat]'(by omega) := by
  unfold rS rdG; rw [List.getD_eq_getElem?_getD, List.getElem?_eq_getElem (show k.toNat < ns.length by omega)]; rfl
 have e2 : rI rs k = rs[k.toNat]'(by omega) := by
  unfold rI rdG; rw [List.getD_eq_getElem?_getD, List.getElem?_eq_getElem (show k.toNat < rs.length by omega)]; rfl
 rw [e1, e2]
theorem hitM_end {q : Int} {nm : ByteArray} {ns : List ByteArray} {rs : List Int} {k : Int} (h : (ns.length : Int) ≤ k) : hitM q nm (ns.drop k.toNat) (rs.drop k.toNat) = none := by
 rw [List.drop_of_length_le (show ns.length ≤ k.toNat by omega)]; rfl
theorem hitM_node {q : Int} {nm : ByteArray} : ∀ {ns : List ByteArray} {rs : List Int} {b : Bd}, hitM q nm ns rs = some b → b.f0 = q ∧ b.f1 ∈ rs
 | [], _, b, h => by simp [hitM] at h
 | _ :: _, [], b, h => by simp [hitM] at h
 | s :: ns, r :: rs, b, h => by
   rw [hitM] at h
   split at h
   · cases h; exact ⟨rfl, List.mem_cons_self⟩
   · have := hitM_node h; exact ⟨this.1, List.mem_cons_of_mem _ this.2⟩
def noB : Bd := ⟨-1, -1⟩
def hitN (l : List Nd) (nm : ByteArray) (kid : Int) : Option Bd := hitM (parS l kid) nm (bindM (rN l (parS l kid)) kid).1 (bindM (rN l (parS l kid)) kid).2
def climb (l : List Nd) (nm : ByteArray) : Nat → Int → Bd
 | 0, _ => noB
 | n + 1, kid => if 0 ≤ parS l kid then (hitN l nm kid).getD (climb l nm n (parS l kid)) else noB
def climbM (l : List Nd) (nm : ByteArray) (kid : Int) : Bd := climb l nm (l.length - kid).toNat kid
theorem climb_eq {l : List Nd} (hT : OkT l) {nm : ByteArray} : ∀ (n m : Nat) (kid : Int), (l.length - kid).toNat ≤ n → (l.length - kid).toNat ≤ m → climb l nm n kid = climb l nm m kid := by
 have zero : ∀ (m : Nat) (kid : Int), (l.length - kid).toNat = 0 → climb l nm m kid = noB := fun m kid h => by
  cases m with
  | zero => rfl
  | succ m =>
    rw [climb, if_neg]
    intro hp
    have := hT.par_lt hp
    omega
 intro n
 induction n with
 | zero => intro m kid h1 h2; rw [zero m kid (by omega)]; rfl
 | succ n ih =>
   intro m kid h1 h2
   cases m with
   | zero => rw [zero _ kid (by omega)]; rfl
   | succ m =>
     rw [climb, climb]
     split
     · rename_i hp
       have := hT.par_lt hp
       rw [ih m (parS l kid) (by omega) (by omega)]
     · rfl
theorem climbM_up {l : List Nd} (hT : OkT l) {nm : ByteArray} {kid : Int} (hp : 0 ≤ parS l kid) : climbM l nm kid = (hitN l nm kid).getD (climbM l nm (parS l kid)) := by
 have h := hT.par_lt hp
 unfold climbM
 obtain ⟨n, hn⟩ : ∃ n, (l.length - kid).toNat = n + 1 := ⟨(l.length - kid).toNat - 1, by omega⟩
 rw [hn, climb, if_pos hp, climb_eq hT n (l.length - parS l kid).toNat _ (by omega) (Nat.le_refl _)]
theorem climbM_top {l : List Nd} {nm : ByteArray} {kid : Int} (hp : ¬ 0 ≤ parS l kid) : climbM l nm kid = noB := by
 unfold climbM
 cases (l.length - kid).toNat with
 | zero => rfl
 | succ n => rw [climb, if_neg hp]
def bindS (l : List Nd) (i : Int) : Bd := if (rN l i).f0 = 1 then climbM l (rN l i).f5 i else noB
def bindsM (l : List Nd) : List Bd := (List.range l.length).map fun (n : Nat) => bindS l (n : Int)
theorem len_bindsM (l : List Nd) : (bindsM l).length = l.length := by simp [bindsM]
theorem rB_bindsM {l : List Nd} {i : Int} (h0 : 0 ≤ i) (h1 : i < l.length) : rB (bindsM l) i = bindS l i := by
 have : i.toNat < l.length := by omega
 simp [rB, rdG, bindsM, List.getD_eq_getElem?_getD, this, Int.toNat_of_nonneg h0]
theorem bindsM_take {l : List Nd} {i : Int} (h0 : 0 ≤ i) (h1 : i < l.length) : (bindsM l).take (i + 1).toNat = (bindsM l).take i.toNat ++ [bindS l i] := by
 rw [take_succG zBd h0 (by rw [len_bindsM]; exact h1), ← rB_bindsM h0 h1]; rfl
theorem climb_role {l : List Nd} {nm : ByteArray} : ∀ (n : Nat) (kid : Int), climb l nm n kid = noB ∨ (0 ≤ (climb l nm n kid).f0 ∧ ((climb l nm n kid).f1 = 0 ∨ (climb l nm n kid).f1 = 1))
 | 0, kid => .inl rfl
 | n + 1, kid => by
   rw [climb]
   split
   · rename_i hp
     cases hh : hitN l nm kid with
     | none => exact climb_role n _
     | some b =>
       have := hitM_node hh
       have h2 := role_bindM _ _ _ this.2
       exact .inr ⟨by rw [Option.getD_some, this.1]; exact hp, by rw [Option.getD_some]; exact h2⟩
   · exact .inl rfl
theorem bindS_role (l : List Nd) (i : Int) : bindS l i = noB ∨ (0 ≤ (bindS l i).f0 ∧ ((bindS l i).f1 = 0 ∨ (bindS l i).f1 = 1)) := by
 unfold bindS
 split
 · exact climb_role _ _
 · exact .inl rfl
theorem OkT.par_in {l : List Nd} (hT : OkT l) : ∀ (n : Nat) (A : Int), A.toNat < n → 0 ≤ A → A < l.length → ∀ kid : Int, startM l A ≤ kid → kid < A → kid < parS l kid ∧ parS l kid ≤ A := by
 obtain ⟨st, hst, _, ht, _⟩ := hT.tiled
 intro n
 induction n with
 | zero => intro A h; omega
 | succ n ih =>
   intro A hA h0 h1 kid hk1 hk2
   have hA' : ((A.toNat : Nat) : Int) = A := Int.toNat_of_nonneg h0
   obtain ⟨t1, t2, _⟩ := ht.tile A.toNat (by omega)
   rw [hA'] at t1 t2
   obtain ⟨y, hy, h2, h3⟩ := t2 kid (by rw [hT.startI hst h0 h1]; exact hk1) hk2
   have hy2 := t1 y hy
   by_cases c : kid = y
   · subst c
     rw [hT.par (j := A.toNat) (by omega) (by rw [hA']; exact hy)]
     omega
   · have := ih y (by omega) hy2.1 (by omega) kid (by rw [← hT.startI hst hy2.1 (by omega)]; exact h2) (by omega)
     omega
theorem climb_in {l : List Nd} (hT : OkT l) {nm : ByteArray} {f : Int} (h0 : 0 ≤ f) (h1 : f < l.length) (ha : 0 < arityM (rN l f).f0) : ∀ (n : Nat) (kid : Int), (startM l (rN l f).f1 ≤ kid ∧ kid ≤ (rN l f).f1) ∨ f ≤ kid →
  (climb l nm n kid).f0 < 0 ∨ (startM l (rN l f).f1 ≤ (climb l nm n kid).f0 ∧ (climb l nm n kid).f0 ≤ (rN l f).f1) ∨ f ≤ (climb l nm n kid).f0
 | 0, kid, _ => .inl (by show (-1 : Int) < 0; decide)
 | n + 1, kid, hk => by
   rw [climb]
   split
   · rename_i hp
     have hd := hT.downs f h0 h1 ha
     have hup : (startM l (rN l f).f1 ≤ parS l kid ∧ parS l kid ≤ (rN l f).f1) ∨ f ≤ parS l kid := by
      have hlt := hT.par_lt hp
      rcases hk with ⟨k1, k2⟩ | k1
      · by_cases c : kid = (rN l f).f1
        · right
          have := hT.par (n := kid) (j := f.toNat) (by omega) (by rw [Int.toNat_of_nonneg h0, c]; exact first_kid ha)
          omega
        · have := hT.par_in ((rN l f).f1.toNat + 1) _ (by omega) hd.1 (by omega) kid k1 (by omega)
          left; omega
      · right; omega
     cases hh : hitN l nm kid with
     | none => exact climb_in hT h0 h1 ha n _ hup
     | some b =>
       have := hitM_node hh
       rw [Option.getD_some, this.1]
       exact .inr hup
   · exact .inl (by show (-1 : Int) < 0; decide)
theorem skip_eq {l : List Nd} (hT : OkT l) {f i : Int} {b : Bd} (h0 : 0 ≤ f) (h1 : f < l.length) (hl : lamB (rN l f) = true) (hi0 : startM l (rN l f).f1 ≤ i) (hi1 : i ≤ (rN l f).f1) (hb : rB (bindsM l) i = b) :
  knB l (bindsM l) f b = decide ((b.f0 < f ∧ 0 ≤ b.f0 ∧ startM l (rN l f).f1 ≤ b.f0) ∨ b.f0 < 0 ∨ (b.f0 = f ∧ b.f1 = parm (rN l f))) := by
 have ha := lam_ar hl
 have hd := hT.downs f h0 h1 ha
 have hs := startM_le hT.downs hd.1 (by omega)
 have hc : b.f0 < 0 ∨ (startM l (rN l f).f1 ≤ b.f0 ∧ b.f0 ≤ (rN l f).f1) ∨ f ≤ b.f0 := by
  rw [rB_bindsM (by omega) (by omega)] at hb
  subst hb
  unfold bindS
  split
  · exact climb_in hT h0 h1 ha _ _ (.inl ⟨hi0, hi1⟩)
  · exact .inl (by show (-1 : Int) < 0; decide)
 have hg : b = givenM l f ↔ b.f0 = f ∧ b.f1 = parm (rN l f) := by
  unfold givenM parm
  cases b; simp
 unfold knB
 apply decide_eq_decide.2
 rw [hg]
 omega
def outersM (l : List Nd) : List (List Bd) := (List.range l.length).map fun (f : Nat) => if lamB (rN l f) then outerM l (bindsM l) f else []
theorem len_outersM (l : List Nd) : (outersM l).length = l.length := by simp [outersM]
theorem rLB_outersM {l : List Nd} {f : Int} (h0 : 0 ≤ f) (h1 : f < l.length) : rLB (outersM l) f = if lamB (rN l f) then outerM l (bindsM l) f else [] := by
 have : f.toNat < l.length := by omega
 simp [rLB, rdG, outersM, List.getD_eq_getElem?_getD, this, Int.toNat_of_nonneg h0]
structure Fit (l : List Nd) (fs : List Fc) : Prop where
 up : Up fs
 node : ∀ f ∈ fs, 0 ≤ f.n ∧ f.n < l.length
 vk : ∀ f ∈ fs, 0 ≤ f.v.k
 vn : ∀ f ∈ fs, 0 ≤ f.v.n ∧ f.v.n < l.length
 lam : ∀ f ∈ fs, f.v.k = 1 → lamB (rN l f.v.n) = true
 zero : ∀ f ∈ fs, f.k = 7 → f.v = ⟨0, 0, 0⟩
structure Clo (l : List Nd) : Prop where
 ok : OkT l
 bound : ∀ i : Int, 0 ≤ i → i < l.length → (rN l i).f0 = 1 → 0 ≤ (bindS l i).f0
def prM (l : List Nd) (dp : Int) : Pr := ⟨l, bindsM l, outersM l, dp⟩
theorem hasR_any {l : List Nd} {fs : List Fc} (h : Fit l fs) (n c : Int) : hasR fs n c = anyB fs 7 n c := by
 unfold hasR anyB
 rw [Bool.eq_iff_iff, decide_eq_true_eq, Bool.not_eq_true', List.isEmpty_eq_false_iff_exists_mem]
 constructor
 · intro hm; exact ⟨_, mem_vals.2 hm⟩
 · rintro ⟨v, hv⟩
   have hv := mem_vals.1 hv
   have := h.zero _ hv rfl
   simp only at this
   rwa [this] at hv
theorem any_emp (fs : List Fc) (k n c : Int) : (vals fs k n c).isEmpty = !anyB fs k n c := by simp [anyB]
theorem kind_emp (fs : List Fc) (n c kd : Int) : (thoseL fs 0 n c kd).isEmpty = !kindB fs n c kd := by
 unfold thoseL kindB
 rw [Bool.eq_iff_iff]
 simp [List.isEmpty_iff, List.filter_eq_nil_iff]
theorem nameAt_role {b : Bd} (c : Int) (h : b.f1 = 0 ∨ b.f1 = 1) : nameAt b c = ⟨1 + b.f1, b.f0, c⟩ := by
 unfold nameAt
 rcases h with h | h <;> rw [h] <;> rfl
theorem nameAt_given (l : List Nd) (f c : Int) : nameAt (givenM l f) c = ⟨1 + parm (rN l f), f, c⟩ := by
 unfold givenM parm
 by_cases h : (rN l f).f0 = 6 <;> simp [h, nameAt]
theorem outerN_mem {l : List Nd} {us : List Bd} {f : Int} : ∀ (n : Nat) {b : Bd}, b ∈ outerN l us f n → 0 ≤ b.f0 ∧ ∃ k : Nat, k < n ∧ b = rB us (startM l (rN l f).f1 + k)
 | 0, b, h => by simp [outerN] at h
 | n + 1, b, h => by
   rw [outerN] at h
   split at h
   · obtain ⟨h1, k, h2, h3⟩ := outerN_mem n h
     exact ⟨h1, k, by omega, h3⟩
   · rename_i hc
     rcases List.mem_append.1 h with h | h
     · obtain ⟨h1, k, h2, h3⟩ := outerN_mem n h
       exact ⟨h1, k, by omega, h3⟩
     · simp only [List.mem_singleton] at h
       refine ⟨?_, n, by omega, h⟩
       rw [← h] at hc
       simp only [Bool.or_eq_true, not_or] at hc
       have := hc.1
       simp only [knB, decide_eq_true_eq, not_or] at this
       omega
theorem outerM_role {l : List Nd} (hT : OkT l) {f : Int} (h0 : 0 ≤ f) (h1 : f < l.length) (hl : lamB (rN l f) = true) {b : Bd} (h : b ∈ outerM l (bindsM l) f) : 0 ≤ b.f0 ∧ (b.f1 = 0 ∨ b.f1 = 1) := by
 have hd := hT.downs f h0 h1 (lam_ar hl)
 have hs := startM_le hT.downs hd.1 (by omega)
 obtain ⟨h2, k, h3, h4⟩ := outerN_mem _ h
 rw [rB_bindsM (by omega) (by omega)] at h4
 rcases bindS_role l (startM l (rN l f).f1 + k) with h5 | h5
 · rw [h4, h5] at h2; exact absurd h2 (by decide)
 · rw [← h4] at h5; exact ⟨h2, h5.2⟩
theorem mem_ite_nil {α : Type} {p : Prop} [Decidable p] {x : α} {a : List α} : x ∈ (if p then a else []) ↔ p ∧ x ∈ a := by
 split <;> simp [*]
theorem mem_those {fs : List Fc} {k n c kd : Int} {v : Ab} : v ∈ thoseL fs k n c kd ↔ v ∈ vals fs k n c ∧ v.k = kd := by
 simp [thoseL]
theorem outer_flow {l : List Nd} (hT : OkT l) (fs : List Fc) {f : Int} (h0 : 0 ≤ f) (h1 : f < l.length) (hl : lamB (rN l f) = true) (fc to : Int) :
  (outerM l (bindsM l) f).flatMap (fun x => flowP fs (nameAt x fc) (nameAt x to)) = (outerM l (bindsM l) f).flatMap (outer1 fs fc to) := by
 have : ∀ m : List Bd, (∀ b ∈ m, b.f1 = 0 ∨ b.f1 = 1) → m.flatMap (fun x => flowP fs (nameAt x fc) (nameAt x to)) = m.flatMap (outer1 fs fc to) := by
  intro m hm
  induction m with
  | nil => rfl
  | cons b m ih =>
    rw [List.flatMap_cons, List.flatMap_cons, ih fun x hx => hm x (List.mem_cons_of_mem _ hx)]
    congr 1
    have hb := hm b List.mem_cons_self
    rw [nameAt_role _ hb, nameAt_role _ hb]; rfl
 exact this _ fun b hb => (outerM_role hT h0 h1 hl hb).2
theorem call_mem {l : List Nd} (hT : OkT l) {fs : List Fc} (h : Fit l fs) {f : Ab} (h0 : 0 ≤ f.n) (h1 : f.n < l.length) (hl : lamB (rN l f.n) = true) (dp i c : Int) (nd : Nd) (hk : f.k = 1) (hb : anyB fs 0 nd.f2 c = true) (x : Fc) :
  x ∈ callI l (bindsM l) dp fs i c f ⟨0, nd.f2, c⟩ ↔ x ∈ call1S (prM l dp) fs i c nd f := by
 unfold callI call1S prM
 rw [if_pos ⟨hk, hb⟩, outer_flow hT fs h0 h1 hl, nameAt_given, hasR_any h]
 dsimp only
 rw [rLB_outersM h0 h1, if_pos hl]
 simp only [flowP, List.mem_append, or_assoc, or_comm, or_left_comm]
theorem node_mem {l : List Nd} (hC : Clo l) {fs : List Fc} (h : Fit l fs) {i : Int} (h0 : 0 ≤ i) (h1 : i < l.length) (dp c : Int) (x : Fc) :
  x ∈ nodeI l (bindsM l) dp fs i c ↔ x ∈ nodeS (prM l dp) fs i c := by
 unfold nodeI nodeS
 have e : rN (prM l dp).l i = rN l i := rfl
 have eb : rB (prM l dp).bind i = bindS l i := rB_bindsM h0 h1
 have ev : rB (bindsM l) i = bindS l i := rB_bindsM h0 h1
 simp only [e, eb, ev, hasR_any h]
 by_cases k1 : (rN l i).f0 = 1
 · simp only [k1, if_true]
   have hb := hC.bound i h0 h1 k1
   have hr : (bindS l i).f1 = 0 ∨ (bindS l i).f1 = 1 := by
    rcases bindS_role l i with h5 | h5
    · rw [h5] at hb; exact absurd hb (by decide)
    · exact h5.2
   rw [nameAt_role _ hr]; rfl
 simp only [k1, if_false]
 by_cases k2 : (rN l i).f0 = 2
 · simp only [k2, if_true]
 simp only [k2, if_false]
 by_cases k12 : (rN l i).f0 = 12
 · simp only [k12, if_true]
 simp only [k12, if_false]
 by_cases k3 : (rN l i).f0 = 3
 · simp only [k3, if_true]
 simp only [k3, if_false]
 by_cases k6 : (rN l i).f0 = 6
 · simp only [k6, if_true]
 simp only [k6, if_false]
 unfold otherI
 have hkid : (kidsM (rN l i)).zipIdx.flatMap (kidI fs (rN l i).f0 i c) = kidRiseS fs (rN l i) i c := by
  unfold kidRiseS
  congr 1
  funext y
  unfold kidI kidR1
  rw [hasR_any h]
  by_cases hy : y.2 > 0 ∨ (rN l i).f0 ≠ 19
  · rw [if_pos hy]
    have : (!((rN l i).f0 == 19 && y.2 == 0)) = true := by simp; omega
    rw [this, Bool.and_true]
  · rw [if_neg hy]
    have : (!((rN l i).f0 == 19 && y.2 == 0)) = false := by simp; omega
    rw [this, Bool.and_false]; rfl
 rw [hkid, List.mem_append, List.mem_append, List.mem_append, List.mem_append]
 refine or_congr Iff.rfl ?_
 by_cases kt : (rN l i).f0 = 4 ∨ (rN l i).f0 = 8 ∨ (rN l i).f0 = 9 ∨ (rN l i).f0 = 13 ∨ (rN l i).f0 = 17
 · rw [if_pos kt, if_pos kt]
   unfold twoS bothI
   simp only [e, any_emp, List.mem_append]
   refine or_congr (by cases anyB fs 0 (rN l i).f1 c <;> simp) ?_
   by_cases ka : anyB fs 0 (rN l i).f1 c = true
   rotate_left
   · have ka' : anyB fs 0 (rN l i).f1 c = false := by simpa using ka
     have hv : vals fs 0 (rN l i).f1 c = [] := by simpa [anyB] using ka'
     simp [ka', callS, e, hv]
   by_cases kb : anyB fs 0 (rN l i).f2 c = true
   rotate_left
   · have kb' : anyB fs 0 (rN l i).f2 c = false := by simpa using kb
     simp only [kb', ka]
     by_cases k4 : (rN l i).f0 = 4
     · simp [k4, callS, call1S, kb', e]
     · simp [k4]
   by_cases k4 : (rN l i).f0 = 4
   · simp only [k4, ka, kb, if_true, Bool.not_true, Bool.false_eq_true, or_self, if_false]
     unfold callS
     simp only [List.mem_flatMap, mem_those, e]
     refine exists_congr fun v => ?_
     constructor
     · rintro ⟨⟨hv, hk⟩, hx⟩
       have hm := mem_vals.1 hv
       have hn := h.vn _ hm
       exact ⟨hv, (call_mem hC.ok h hn.1 hn.2 (h.lam _ hm hk) dp i c _ hk kb x).1 hx⟩
     · rintro ⟨hv, hx⟩
       have hm := mem_vals.1 hv
       have hn := h.vn _ hm
       by_cases hk : v.k = 1
       · exact ⟨⟨hv, hk⟩, (call_mem hC.ok h hn.1 hn.2 (h.lam _ hm hk) dp i c _ hk kb x).2 hx⟩
       · unfold call1S at hx
         rw [if_neg (fun q => hk q.1)] at hx
         cases hx
   · have hset : ∀ n2 : Int, (x ∈ (thoseL fs 0 (rN l i).f1 c 5).flatMap fun r => flowL fs 0 n2 c 5 r.n r.c) ↔ x ∈ (vals fs 0 (rN l i).f1 c).flatMap (setS1 fs n2 c) := fun n2 => by
       simp only [List.mem_flatMap, mem_those, setS1, mem_ite_nil, and_assoc]
     rcases kt with k | k | k | k | k
     · exact absurd k k4
     · simp [k, ka, kb]
     · simp [k, ka, kb, flowP, or_comm, or_left_comm, or_assoc]
     · simp [k, ka, kb, flowP, or_comm, or_left_comm, or_assoc]
     · have := hset (rN l i).f2
       simp only [List.mem_flatMap] at this
       simp [k, ka, kb, flowP, this, or_comm]
 · rw [if_neg kt, if_neg kt]
   unfold oneS
   simp only [e]
   have hpart : ∀ (kd part tk tn : Int), (x ∈ (thoseL fs 0 (rN l i).f1 c kd).flatMap fun v => flowL fs part v.n v.c tk tn c) ↔ x ∈ partsL fs (rN l i).f1 c kd part tk tn := fun kd part tk tn => by
    simp only [partsL, List.mem_flatMap, mem_those, part1, mem_ite_nil, and_assoc]
   have htk : ∀ (kd part : Int), x ∈ takeL fs kd part 0 i c (thoseL fs 0 (rN l i).f1 c kd) ↔ x ∈ partsL fs (rN l i).f1 c kd part 0 i := fun kd part => hpart kd part 0 i
   by_cases k5 : (rN l i).f0 = 5
   · simp only [k5, if_true, any_emp]
     cases anyB fs 0 (rN l i).f1 c <;> simp
   simp only [k5, if_false]
   by_cases k7 : (rN l i).f0 = 7
   · simp only [k7, if_true, kind_emp]
     cases kindB fs (rN l i).f1 c 0 <;> simp
   simp only [k7, if_false]
   by_cases k14 : (rN l i).f0 = 14
   · simp only [k14, if_true]
     unfold matchI
     simp only [kind_emp, List.mem_append]
     have hm : (x ∈ (thoseL fs 0 (rN l i).f1 c 4).flatMap fun v => seeL (rN l i).f3 c ++ flowL fs 3 v.n v.c 1 i c ++ flowL fs 4 v.n v.c 2 i c) ↔
       (x ∈ (if kindB fs (rN l i).f1 c 4 = true then seeL (rN l i).f3 c else []) ∨ x ∈ partsL fs (rN l i).f1 c 4 3 1 i ∨ x ∈ partsL fs (rN l i).f1 c 4 4 2 i) := by
      rw [← hpart, ← hpart]
      simp only [List.mem_flatMap, List.mem_append, mem_ite_nil]
      constructor
      · rintro ⟨v, hv, (hx | hx) | hx⟩
        · refine .inl ⟨?_, hx⟩
          have := kind_emp fs (rN l i).f1 c 4
          cases hk : kindB fs (rN l i).f1 c 4 with
          | true => rfl
          | false => rw [hk] at this; rw [List.isEmpty_iff.1 this] at hv; cases hv
        · exact .inr (.inl ⟨v, hv, hx⟩)
        · exact .inr (.inr ⟨v, hv, hx⟩)
      · rintro (⟨hk, hx⟩ | ⟨v, hv, hx⟩ | ⟨v, hv, hx⟩)
        · have := kind_emp fs (rN l i).f1 c 4
          rw [hk] at this
          obtain ⟨v, hv⟩ := List.isEmpty_eq_false_iff_exists_mem.1 this
          exact ⟨v, hv, .inl (.inl hx)⟩
        · exact ⟨v, hv, .inl (.inr hx)⟩
        · exact ⟨v, hv, .inr hx⟩
     rw [hm]
     cases kindB fs (rN l i).f1 c 2 <;> simp [or_assoc]
   simp only [k14, if_false]
   unfold oneI
   by_cases k10 : (rN l i).f0 = 10
   · simp only [k10, if_true]; exact htk 3 3
   simp only [k10, if_false]
   by_cases k11 : (rN l i).f0 = 11
   · simp only [k11, if_true]; exact htk 3 4
   simp only [k11, if_false]
   by_cases k16 : (rN l i).f0 = 16
   · simp only [k16, if_true]; exact htk 5 5
   simp only [k16, if_false]
   by_cases k15 : (rN l i).f0 = 15
   · simp only [k15, if_true, any_emp]
     cases anyB fs 0 (rN l i).f1 c <;> simp [flowP]
   simp only [k15, if_false]
   by_cases k18 : (rN l i).f0 = 18
   · simp only [k18, if_true, kind_emp, riseL]
     cases kindB fs (rN l i).f1 c 0 <;> simp
   simp only [k18, if_false]
   by_cases k19 : (rN l i).f0 = 19
   · simp only [k19, if_true, hasR_any h, flowP]
   simp only [k19, if_false]
end Go.Mach
