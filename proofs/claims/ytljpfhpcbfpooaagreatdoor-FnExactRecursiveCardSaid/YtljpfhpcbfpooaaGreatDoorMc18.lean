/- What the statements share: part 18 of a proof by an executable machine over the program's code. -/
import Derived.Test.YtljpfhpcbfpooaaGreatDoorMc17
set_option linter.unusedVariables false
set_option linter.unusedSimpArgs false
namespace Go.Mach
open Go Go.RowKit
def SzL (a : List Nd) : Prop := (a.length : Int) ≤ 1048576 ∧ ∀ x ∈ a, x.f5.size ≤ 1048576 ∧ x.f6.size ≤ 1048576
def Bg (a : List Nd) : Prop := (a.length : Int) ≤ 9223372036854775807 ∧ ∀ x ∈ a, x.f5.size ≤ 9223372036854775807 ∧ x.f6.size ≤ 9223372036854775807
theorem Bg.at {a : List Nd} (h : Bg a) {i : Int} {y : Nd} (h0 : 0 ≤ i) (h1 : i < a.length) (hy : rN a i = y) : y.f5.size ≤ 9223372036854775807 ∧ y.f6.size ≤ 9223372036854775807 := by
 subst hy; exact h.2 _ (rdG_mem h0 h1)
theorem sz_step {a : List Nd} {i : Int} {y : Nd} (h0 : 0 ≤ i) (h1 : i < a.length) (hs : ∀ x ∈ a.take i.toNat, x.f5.size ≤ 1048576 ∧ x.f6.size ≤ 1048576) (hy : rN a i = y) (h : y.f5.size ≤ 1048576 ∧ y.f6.size ≤ 1048576) : ∀ x ∈ a.take (i + 1).toNat, x.f5.size ≤ 1048576 ∧ x.f6.size ≤ 1048576 := by
 rw [take_succG zNd h0 h1, show rdG zNd a i = y from hy]
 intro x hx
 rcases List.mem_append.1 hx with hx | hx
 · exact hs x hx
 · rw [List.mem_singleton.1 hx]; exact h
theorem sz_end {a : List Nd} {i r : Int} (h : a.length ≤ i) (hl : (a.length : Int) ≤ 1048576) (hs : ∀ x ∈ a.take i.toNat, x.f5.size ≤ 1048576 ∧ x.f6.size ≤ 1048576) : SzL a := by
 rw [take_allG h] at hs; exact ⟨hl, hs⟩
theorem SzL.sz {a : List Nd} (h : SzL a) : Sz a := h.2
def cpB (a : List Nd) (i : Int) : List Nd := a.take i.toNat ++ List.replicate (a.length - i.toNat) zNd
theorem cpB_zero (a : List Nd) : cpB a 0 = List.replicate a.length zNd := by simp [cpB]
theorem cpB_len {a : List Nd} {i : Int} (h0 : 0 ≤ i) (h1 : i ≤ a.length) : (cpB a i).length = a.length := by
 unfold cpB; simp; omega
theorem cpB_set {a : List Nd} {i : Int} {y : Nd} (h0 : 0 ≤ i) (h1 : i < a.length) (hy : rN a i = y) : (cpB a i).set i.toNat y = cpB a (i + 1) := by
 unfold cpB
 rw [take_succG zNd h0 h1, show rdG zNd a i = y from hy, show a.length - i.toNat = (a.length - (i + 1).toNat) + 1 by omega, List.replicate_succ, List.set_append, if_neg (by simp; omega)]
 simp [show i.toNat - min i.toNat a.length = 0 by omega]
theorem cpB_end {a : List Nd} {i : Int} (h : (a.length : Int) = i) : cpB a i = a := by
 unfold cpB; rw [← h]; simp
theorem rep_eNd (n : Nat) : List.replicate n (cNd zNd) = eNd (List.replicate n zNd) := by simp [eNd]
theorem set_eNd (l : List Nd) (i : Nat) (x : Nd) : (eNd l).set i (cNd x) = eNd (l.set i x) := by simp [eNd, List.map_set]
theorem cells_eNd (l : List Nd) : (eNd l).all (fun e => e.all D.cell) = true := by simp [eNd, cNd, D.cell]
theorem len_flat_those {α : Type} {fs : List Fc} (hl : fs.length ≤ 2500) {g : Ab → List Fc} {K : Nat} (h : ∀ x, (g x).length ≤ K) (k n c kd : Int) : ((thoseL fs k n c kd).flatMap g).length ≤ 2500 * K :=
 Nat.le_trans (len_flatMap_le g K h _) (Nat.mul_le_mul_right _ (Nat.le_trans (len_those fs k n c kd) hl))
theorem len_bothI {l : List Nd} {us : List Bd} {fs : List Fc} (hF : Fok l fs) (hL : Lok l us) (dp i c : Int) (n : Nd) (a b : Plc) : (bothI l us dp fs i c n a b).length ≤ 960000000 := by
 unfold bothI
 have h1 := len_calls hF hL (k := a.k) (n := a.n) (c0 := a.c) rfl i c dp b (thoseL fs a.k a.n a.c 1).length
 rw [List.take_length] at h1
 have h2 := len_those fs a.k a.n a.c 1
 have h3 := hF.len
 have h4 : (thoseL fs a.k a.n a.c 1).length * 380002 ≤ 2500 * 380002 := Nat.mul_le_mul_right _ (by omega)
 have h5 := len_flowPI hF a ⟨3, i, c⟩
 have h6 := len_flowPI hF b ⟨4, i, c⟩
 have h7 := len_flat_those (α := Nat) hF.len (g := fun r => flowP fs b ⟨5, r.n, r.c⟩) (fun r => len_flowPI hF b _) a.k a.n a.c 5
 (repeat' split) <;> (try simp only [List.length_append, List.length_nil, List.length_cons]) <;> omega
theorem len_matchI {l : List Nd} {fs : List Fc} (hF : Fok l fs) (i c : Int) (n : Nd) (a : Plc) : (matchI fs i c n a).length ≤ 13000000 := by
 unfold matchI
 have h7 : ∀ a b, (seeL a b).length = 1 := fun _ _ => rfl
 have h1 := len_flat_those (α := Nat) hF.len (K := 5001) (g := fun v => seeL n.f3 c ++ flowL fs 3 v.n v.c 1 i c ++ flowL fs 4 v.n v.c 2 i c) (fun v => by
  have h1 := len_flowI hF 3 v.n v.c 1 i c
  have h2 := len_flowI hF 4 v.n v.c 2 i c
  simp only [List.length_append, h7]; omega) a.k a.n a.c 4
 have h2 := len_flowI hF 0 n.f2 c 0 i c
 have h3 := len_flowI hF 0 n.f3 c 0 i c
 (repeat' split) <;> (try simp only [List.length_append, List.length_nil, List.length_cons, h7]) <;> omega
theorem len_takeL {l : List Nd} {fs : List Fc} (hF : Fok l fs) (a b d e f k n c kd : Int) : (takeL fs a b d e f (thoseL fs k n c kd)).length ≤ 2500 * 2500 :=
 len_flat_those (α := Nat) hF.len (fun v => len_flowI hF _ _ _ _ _ _) _ _ _ _
theorem len_oneI {l : List Nd} {fs : List Fc} (hF : Fok l fs) (i c : Int) (n : Nd) (a : Plc) : (oneI fs i c n a).length ≤ 7000000 := by
 unfold oneI
 have h7 : ∀ a b, (seeL a b).length = 1 := fun _ _ => rfl
 have h1 := fun k p d kd => len_takeL hF k p d i c a.k a.n a.c kd
 have h2 := h1 3 3 0 3
 have h3 := h1 3 4 0 3
 have h4 := h1 5 5 0 5
 have h5 := len_flowPI hF a ⟨5, i, c⟩
 have h6 := len_flowPI hF a ⟨0, i, c⟩
 have h8 := len_flowI hF 0 n.f2 c 0 i c
 (repeat' split) <;> (try simp only [List.length_append, List.length_nil, List.length_cons, h7]) <;> omega
theorem len_otherI {l : List Nd} {us : List Bd} {fs : List Fc} (hF : Fok l fs) (hL : Lok l us) (dp i c : Int) (n : Nd) : (otherI l us dp fs i c n).length ≤ 965000000 := by
 unfold otherI
 have h7 : ∀ a b, (seeL a b).length = 1 := fun _ _ => rfl
 have h8 := len_flatMap_le _ 1 (fun v => len_kidI fs n.f0 i c v) (kidsM n).zipIdx
 have h9 := len_kidsM n
 have h10 := arityM_le n.f0
 rw [List.length_zipIdx] at h8
 have h1 := len_bothI hF hL dp i c n ⟨0, n.f1, c⟩ ⟨0, n.f2, c⟩
 have h2 := len_matchI hF i c n ⟨0, n.f1, c⟩
 have h3 := len_oneI hF i c n ⟨0, n.f1, c⟩
 have h4 := len_flowI hF 0 n.f1 c 1 i c
 have h5 := len_flowI hF 0 n.f2 c 0 i c
 have h6 := len_flowI hF 0 n.f3 c 0 i c
 (repeat' split) <;> (try simp only [List.length_append, List.length_nil, List.length_cons, h7]) <;> omega
theorem len_nodeI {l : List Nd} {us : List Bd} {fs : List Fc} (hF : Fok l fs) (hL : Lok l us) (dp i c : Int) : (nodeI l us dp fs i c).length ≤ 970000000 := by
 unfold nodeI
 have h7 : ∀ a b, (seeL a b).length = 1 := fun _ _ => rfl
 have h1 := len_otherI hF hL dp i c (rN l i)
 have h2 := len_flowPI hF (nameAt (rB us i) c) ⟨0, i, c⟩
 have h3 := len_flowI hF 0 (rN l i).f2 c 0 i c
 have h4 := len_rise (hasR fs (rN l i).f2 c) i c
 dsimp only
 (repeat' split) <;> (try simp only [List.length_append, List.length_nil, List.length_cons, h7]) <;> omega
def moreT (l : List Nd) (us : List Bd) (dp : Int) (fs L : List Fc) : List Fc := L.flatMap fun f => if f.k = 6 then nodeI l us dp fs f.n f.c else []
theorem moreT_all (l : List Nd) (us : List Bd) (dp : Int) (fs : List Fc) : moreT l us dp fs fs = moreI l us dp fs := rfl
theorem len_moreT {l : List Nd} {us : List Bd} {fs : List Fc} (hF : Fok l fs) (hL : Lok l us) (dp : Int) (L : List Fc) : (moreT l us dp fs L).length ≤ L.length * 970000000 := by
 unfold moreT
 induction L with
 | nil => simp
 | cons x L ih =>
   rw [List.flatMap_cons, List.length_append, List.length_cons, Nat.succ_mul]
   have := len_nodeI hF hL dp x.n x.c
   split
   · omega
   · simp only [List.length_nil]; omega
theorem len_moreT2 {l : List Nd} {us : List Bd} {fs : List Fc} (hF : Fok l fs) (hL : Lok l us) (dp : Int) (n : Nat) : (moreT l us dp fs (fs.take n)).length ≤ 2425000000000 := by
 have h1 := len_moreT hF hL dp (fs.take n)
 have h2 := hF.len
 have h3 := List.length_take_le' n fs
 have h4 : (fs.take n).length * 970000000 ≤ 2500 * 970000000 := Nat.mul_le_mul_right _ (by omega)
 omega
theorem moreT_hit {l : List Nd} {us : List Bd} {dp : Int} {fs : List Fc} {i : Int} {y : Fc} (h0 : 0 ≤ i) (h1 : i < fs.length) (hy : rF fs i = y) (hk : y.k = 6) : moreT l us dp fs (fs.take (i + 1).toNat) = moreT l us dp fs (fs.take i.toNat) ++ nodeI l us dp fs y.n y.c := by
 rw [take_succG zF h0 h1, show rdG zF fs i = y from hy]
 unfold moreT
 rw [List.flatMap_append, List.flatMap_cons, List.flatMap_nil, if_pos hk, List.append_nil]
theorem moreT_miss {l : List Nd} {us : List Bd} {dp : Int} {fs : List Fc} {i : Int} {y : Fc} (h0 : 0 ≤ i) (h1 : i < fs.length) (hy : rF fs i = y) (hk : ¬ y.k = 6) : moreT l us dp fs (fs.take (i + 1).toNat) = moreT l us dp fs (fs.take i.toNat) := by
 rw [take_succG zF h0 h1, show rdG zF fs i = y from hy]
 unfold moreT
 rw [List.flatMap_append, List.flatMap_cons, List.flatMap_nil, if_neg hk, List.append_nil, List.append_nil]
theorem rF_node {l : List Nd} {fs : List Fc} (hF : Fok l fs) {i : Int} {y : Fc} (h0 : 0 ≤ i) (h1 : i < fs.length) (hy : rF fs i = y) : 0 ≤ y.n ∧ y.n < l.length := by
 subst hy; exact hF.node _ (rdG_mem h0 h1)
def insI (x : Int) : List Int → List Int
 | [] => [x]
 | a :: t => if a < x then a :: insI x t else if a = x then a :: t else x :: a :: t
def RisI (l : List Int) : Prop := l.Pairwise (· < ·)
theorem mem_insI {x y : Int} : ∀ {l : List Int}, y ∈ insI x l ↔ y = x ∨ y ∈ l
 | [] => by simp [insI]
 | a :: t => by
   unfold insI
   split
   · rw [List.mem_cons, mem_insI, List.mem_cons]
     constructor
     · rintro (h | h | h)
       · exact .inr (.inl h)
       · exact .inl h
       · exact .inr (.inr h)
     · rintro (h | h | h)
       · exact .inr (.inl h)
       · exact .inl h
       · exact .inr (.inr h)
   · split
     · rename_i h; subst h; simp
     · simp
theorem RisI.nil : RisI [] := List.Pairwise.nil
theorem RisI.ins (x : Int) : ∀ {l : List Int}, RisI l → RisI (insI x l)
 | [], _ => List.pairwise_singleton _ _
 | a :: t, h => by
   obtain ⟨h1, h2⟩ := List.pairwise_cons.1 h
   unfold insI
   split
   · rename_i hl
     refine List.pairwise_cons.2 ⟨fun y hy => ?_, RisI.ins x h2⟩
     rcases mem_insI.1 hy with rfl | hy
     · exact hl
     · exact h1 y hy
   · split
     · exact h
     · refine List.pairwise_cons.2 ⟨fun y hy => ?_, h⟩
       rcases List.mem_cons.1 hy with rfl | hy
       · omega
       · have := h1 y hy; omega
theorem len_insI (x : Int) : ∀ l : List Int, (insI x l).length ≤ l.length + 1
 | [] => by simp [insI]
 | a :: t => by
   have := len_insI x t
   unfold insI
   split
   · simp only [List.length_cons]; omega
   · split <;> simp
theorem insI_at {x : Int} : ∀ {l : List Int} (i : Nat), (∀ y ∈ l.take i, y < x) → insI x l = l.take i ++ insI x (l.drop i)
 | [], i, _ => by simp
 | a :: t, 0, _ => by simp
 | a :: t, i + 1, h => by
   have ha : a < x := h a (by simp)
   rw [insI, if_pos ha, List.take_succ_cons, List.drop_succ_cons, List.cons_append, insI_at (l := t) i (fun y hy => h y (by simp [hy]))]
theorem insI_snoc {x b : Int} (h : x < b) : ∀ m : List Int, insI x (m ++ [b]) = insI x m ++ [b]
 | [] => by simp only [List.nil_append, insI]; rw [if_neg (by omega), if_neg (by omega)]; rfl
 | a :: t => by
   rw [List.cons_append, insI, insI]
   split
   · rw [insI_snoc h t]; rfl
   · split <;> rfl
theorem insI_lt {x : Int} {l : List Int} (h : ∀ y ∈ l, y < x) : insI x l = l ++ [x] := by
 have := insI_at (l := l) l.length (by rw [List.take_length]; exact h)
 rw [this, List.take_length, List.drop_length]; rfl
theorem insI_mem {x : Int} : ∀ {l : List Int}, RisI l → x ∈ l → insI x l = l
 | a :: t, hr, h => by
   obtain ⟨h1, h2⟩ := List.pairwise_cons.1 hr
   rw [insI]
   rcases List.mem_cons.1 h with rfl | h
   · rw [if_neg (by omega), if_pos rfl]
   · rw [if_pos (h1 x h), insI_mem h2 h]
theorem drop_rdG {l : List Int} {i : Int} (h0 : 0 ≤ i) (h1 : i < l.length) : l.drop i.toNat = rI l i :: l.drop (i + 1).toNat := by
 have h2 : i.toNat < l.length := by omega
 rw [List.drop_eq_getElem_cons h2, show (i + 1).toNat = i.toNat + 1 by omega]
 congr 1
 simp [rI, rdG, h2]
theorem insI_put {x i : Int} {l : List Int} (h0 : 0 ≤ i) (h : ∀ y ∈ l.take i.toNat, y < x) (hi : i < l.length → x < rI l i) : insI x l = l.take i.toNat ++ x :: l.drop i.toNat := by
 rw [insI_at i.toNat h]
 congr 1
 by_cases hl : i < l.length
 · have := hi hl
   rw [drop_rdG h0 hl, insI, if_neg (by omega), if_neg (by omega)]
 · rw [List.drop_of_length_le (by omega)]; rfl
theorem insI_hit {x i : Int} {l : List Int} (h0 : 0 ≤ i) (h : ∀ y ∈ l.take i.toNat, y < x) (h1 : i < l.length) (hi : rI l i = x) : insI x l = l := by
 rw [insI_at i.toNat h, drop_rdG h0 h1, hi, insI, if_neg (by omega), if_pos rfl]
 rw [← hi, ← drop_rdG h0 h1, List.take_append_drop]
theorem lt_step {x i b : Int} {l : List Int} (h0 : 0 ≤ i) (h1 : i < l.length) (h : ∀ y ∈ l.take i.toNat, y < x) (hb : rI l i = b) (hx : b < x) : ∀ y ∈ l.take (i + 1).toNat, y < x := by
 rw [take_succG 0 h0 h1]
 intro y hy
 rcases List.mem_append.1 hy with hy | hy
 · exact h y hy
 · rw [List.mem_singleton.1 hy]; subst hb; exact hx
theorem gt_step {x i : Int} {l : List Int} (h0 : 0 ≤ i) (h1 : i < l.length) (h : ∀ y ∈ l.drop i.toNat, x < y) : ∀ y ∈ l.drop (i + 1).toNat, x < y := fun y hy => h y (by rw [drop_rdG h0 h1]; exact List.mem_cons_of_mem _ hy)
theorem gt_at {x i b : Int} {l : List Int} (h0 : 0 ≤ i) (h1 : i < l.length) (h : ∀ y ∈ l.drop i.toNat, x < y) (hb : rI l i = b) : x < b := h b (by rw [drop_rdG h0 h1, hb]; simp)
theorem gt_ris {x i b : Int} {l : List Int} (hr : RisI l) (h0 : 0 ≤ i) (h1 : i < l.length) (hb : rI l i = b) (hx : x < b) : ∀ y ∈ l.drop (i + 1).toNat, x < y := by
 have h2 : RisI (l.drop i.toNat) := List.Pairwise.sublist (List.drop_sublist _ _) hr
 rw [drop_rdG h0 h1, hb] at h2
 intro y hy
 have := (List.pairwise_cons.1 h2).1 y hy
 omega
def l12O (x : Int) (l : List Int) (i : Int) (d : Bool) : List Int := if d then insI x (l.take i.toNat) else l.take i.toNat
theorem len_l12O (x : Int) (l : List Int) (i : Int) (d : Bool) : (l12O x l i d).length ≤ l.length + 1 := by
 have := len_insI x (l.take i.toNat)
 have := List.length_take_le' i.toNat l
 unfold l12O; split <;> omega
theorem l12_put {x i b : Int} {l : List Int} (h0 : 0 ≤ i) (h1 : i < l.length) (h : ∀ y ∈ l.take i.toNat, y < x) (hb : rI l i = b) (hx : x < b) : l12O x l (i + 1) true = l.take i.toNat ++ [x] ++ [b] := by
 unfold l12O
 rw [if_pos rfl, take_succG 0 h0 h1, insI_snoc (by subst hb; exact hx), insI_lt h]
 subst hb; rfl
theorem l12_end {x i : Int} {l : List Int} (h : l.length ≤ i) (hd : ∀ y ∈ l.take i.toNat, y < x) : insI x l = l.take i.toNat ++ [x] := by
 rw [take_allG h] at hd ⊢; exact insI_lt hd
theorem l12_endT {x i : Int} {l : List Int} (h : l.length ≤ i) : insI x l = l12O x l i true := by
 unfold l12O; rw [if_pos rfl, take_allG h]
theorem pushI {l m : List Int} {x : Int} (h : m = l ++ [x]) : eK .i64 l ++ [[.int .i64 x]] = eK .i64 m := by subst h; simp [eK]
theorem push2I {l m : List Int} {x y : Int} (h : m = l ++ [x] ++ [y]) : eK .i64 l ++ [[.int .i64 x]] ++ [[.int .i64 y]] = eK .i64 m := by subst h; simp [eK]
theorem l12_putD {x i b : Int} {l : List Int} {d : Bool} (hd : d = false) (h0 : 0 ≤ i) (h1 : i < l.length) (h : d = false → ∀ y ∈ l.take i.toNat, y < x) (hb : rI l i = b) (hx : x < b) : l12O x l (i + 1) true = l12O x l i d ++ [x] ++ [b] := by
 subst hd; exact l12_put h0 h1 (h rfl) hb hx
theorem l12_fin {x i : Int} {l : List Int} {d : Bool} (hd : d = false) (h : l.length ≤ i) (hq : d = false → ∀ y ∈ l.take i.toNat, y < x) : insI x l = l12O x l i d ++ [x] := by
 subst hd; exact l12_end h (hq rfl)
theorem l12_finT {x i : Int} {l : List Int} {d : Bool} (hd : d = true) (h : l.length ≤ i) : insI x l = l12O x l i d := by subst hd; exact l12_endT h
theorem l12_go {x i b : Int} {l : List Int} (h0 : 0 ≤ i) (h1 : i < l.length) (d : Bool) (hb : rI l i = b) (hx : d = true → x < b) : l12O x l (i + 1) d = l12O x l i d ++ [b] := by
 unfold l12O
 cases d with
 | false => rw [if_neg (by simp), if_neg (by simp), take_succG 0 h0 h1]; subst hb; rfl
 | true => rw [if_pos rfl, if_pos rfl, take_succG 0 h0 h1, insI_snoc (by subst hb; exact hx rfl)]; subst hb; rfl
def collI (p : Fc → Bool) (g : Fc → Int) (fs : List Fc) : List Int := fs.foldl (fun out f => if p f then insI (g f) out else out) []
theorem coll_app (p : Fc → Bool) (g : Fc → Int) (fs : List Fc) (f : Fc) : collI p g (fs ++ [f]) = if p f then insI (g f) (collI p g fs) else collI p g fs := by
 unfold collI; rw [List.foldl_append]; rfl
theorem coll_hit {p : Fc → Bool} {g : Fc → Int} {fs : List Fc} {i : Int} {y : Fc} (h0 : 0 ≤ i) (h1 : i < fs.length) (hy : rF fs i = y) (hp : p y = true) : collI p g (fs.take (i + 1).toNat) = insI (g y) (collI p g (fs.take i.toNat)) := by
 rw [take_succG zF h0 h1, show rdG zF fs i = y from hy, coll_app, if_pos hp]
theorem coll_miss {p : Fc → Bool} {g : Fc → Int} {fs : List Fc} {i : Int} {y : Fc} (h0 : 0 ≤ i) (h1 : i < fs.length) (hy : rF fs i = y) (hp : p y = false) : collI p g (fs.take (i + 1).toNat) = collI p g (fs.take i.toNat) := by
 rw [take_succG zF h0 h1, show rdG zF fs i = y from hy, coll_app, if_neg (by rw [hp]; decide)]
theorem coll_ris (p : Fc → Bool) (g : Fc → Int) (fs : List Fc) : RisI (collI p g fs) := by
 unfold collI
 have : ∀ (fs : List Fc) (o : List Int), RisI o → RisI (fs.foldl (fun out f => if p f then insI (g f) out else out) o) := fun fs => by
  induction fs with
  | nil => exact fun o h => h
  | cons f fs ih => exact fun o h => ih (if p f then insI (g f) o else o) (by cases p f; exact h; exact h.ins _)
 exact this fs [] .nil
theorem coll_len (p : Fc → Bool) (g : Fc → Int) (fs : List Fc) : (collI p g fs).length ≤ fs.length := by
 unfold collI
 have : ∀ (fs : List Fc) (o : List Int), (fs.foldl (fun out f => if p f then insI (g f) out else out) o).length ≤ o.length + fs.length := by
  intro fs
  induction fs with
  | nil => intro o; exact Nat.le_refl _
  | cons f fs ih =>
    intro o
    have h1 := ih (if p f then insI (g f) o else o)
    have h2 := len_insI (g f) o
    rw [List.foldl_cons, List.length_cons]
    refine Nat.le_trans h1 ?_
    split <;> omega
 simpa using this fs []
theorem coll_lenT (p : Fc → Bool) (g : Fc → Int) {fs : List Fc} (h : fs.length ≤ 2500) (n : Nat) : (collI p g (fs.take n)).length ≤ 2500 := by
 have := coll_len p g (fs.take n)
 have := List.length_take_le' n fs
 omega
theorem solveR_all (l : List Nd) (dp : Int) : (solveR l dp).1.length ≤ 2500 ∧ ∀ f ∈ (solveR l dp).1, 0 ≤ f.n ∧ f.n < l.length := by
 unfold solveR
 split
 · rename_i fs hs
   have h := solveO_fit hs
   exact ⟨h.2.2, h.2.1.node⟩
 · exact ⟨by simp, fun f hf => by simp at hf⟩
def seenP (f : Fc) : Bool := decide (f.k = 6)
def raiseP (l : List Nd) (f : Fc) : Bool := decide (f.k = 7) && decide ((rN l f.n).f0 = 18)
def kindP (n : Int) (f : Fc) : Bool := decide (f.k = 0) && decide (f.n = n)
def seenM (l : List Nd) (dp : Int) : List Int := collI seenP Fc.n (solveR l dp).1
def raisesM (l : List Nd) (dp : Int) : List Int := collI (raiseP l) Fc.n (solveR l dp).1
def kindsM (l : List Nd) (dp n : Int) : List Int := collI (kindP n) (fun f => f.v.k) (solveR l dp).1
def filtN (p : Int → Bool) (n : Nat) : List Int := ((List.range n).map Int.ofNat).filter p
theorem filtN_succ (p : Int → Bool) (n : Nat) : filtN p (n + 1) = filtN p n ++ if p n then [(n : Int)] else [] := by
 unfold filtN
 rw [List.range_succ, List.map_append, List.filter_append, List.map_cons, List.map_nil]
 congr 1
 rw [List.filter_cons]; rfl
theorem filtN_yes {p : Int → Bool} {i : Int} (h0 : 0 ≤ i) (hp : p i = true) : filtN p (i + 1).toNat = filtN p i.toNat ++ [i] := by
 rw [show (i + 1).toNat = i.toNat + 1 by omega, filtN_succ, Int.toNat_of_nonneg h0, hp]; rfl
theorem filtN_no {p : Int → Bool} {i : Int} (h0 : 0 ≤ i) (hp : p i = false) : filtN p (i + 1).toNat = filtN p i.toNat := by
 rw [show (i + 1).toNat = i.toNat + 1 by omega, filtN_succ, Int.toNat_of_nonneg h0, hp]; simp
theorem filtN_len (p : Int → Bool) (n : Nat) : (filtN p n).length ≤ n := by
 have := List.length_filter_le p ((List.range n).map Int.ofNat)
 rw [List.length_map, List.length_range] at this
 exact this
theorem filtN_mem {p : Int → Bool} {n : Nat} {x : Int} (h : x ∈ filtN p n) : 0 ≤ x ∧ x < n ∧ p x = true := by
 unfold filtN at h
 rw [List.mem_filter, List.mem_map] at h
 obtain ⟨⟨i, hi, rfl⟩, hp⟩ := h
 have := List.mem_range.1 hi
 exact ⟨Int.natCast_nonneg i, Int.ofNat_lt.2 this, hp⟩
def caughtP (l : List Nd) (s : List Int) (i : Int) : Bool := decide ((rN l i).f0 = 19) && decide ((rN l i).f2 ∈ s)
def caughtM (l : List Nd) (dp : Int) : List Int := filtN (caughtP l (seenM l dp)) l.length
def deadP (s : List Int) (i : Int) : Bool := !decide (i ∈ s)
def deadM (l : List Nd) (dp : Int) : List Int := if seenM l dp = [] then [] else filtN (deadP (seenM l dp)) l.length
def lamsM (l : List Nd) : List Int := if okM l then filtN (fun i => lamB (rN l i)) l.length else []
def dfunsM (l : List Nd) (dp : Int) : List Int := (lamsM l).filter fun f => decide ((rN l f).f1 ∈ deadM l dp)
theorem raise_hit {l : List Nd} {y : Fc} {nd : Nd} (h1 : y.k = 7) (h2 : rN l y.n = nd) (h3 : nd.f0 = 18) : raiseP l y = true := by unfold raiseP; rw [h2]; simp [h1, h3]
theorem raise_no1 {l : List Nd} {y : Fc} (h1 : ¬ y.k = 7) : raiseP l y = false := by unfold raiseP; simp [h1]
theorem raise_no2 {l : List Nd} {y : Fc} {nd : Nd} (h2 : rN l y.n = nd) (h3 : ¬ nd.f0 = 18) : raiseP l y = false := by unfold raiseP; rw [h2]; simp [h3]
theorem kind_hit {n : Int} {y : Fc} (h1 : y.k = 0) (h2 : y.n = n) : kindP n y = true := by unfold kindP; simp [h1, h2]
theorem kind_no1 {n : Int} {y : Fc} (h1 : ¬ y.k = 0) : kindP n y = false := by unfold kindP; simp [h1]
theorem kind_no2 {n : Int} {y : Fc} (h1 : ¬ y.n = n) : kindP n y = false := by unfold kindP; simp [h1]
theorem caught_hit {l : List Nd} {s : List Int} {i : Int} {nd : Nd} (h : rN l i = nd) (h1 : nd.f0 = 19) (h2 : decide (nd.f2 ∈ s) = true) : caughtP l s i = true := by unfold caughtP; rw [h, h2]; simp [h1]
theorem caught_no1 {l : List Nd} {s : List Int} {i : Int} {nd : Nd} (h : rN l i = nd) (h1 : ¬ nd.f0 = 19) : caughtP l s i = false := by unfold caughtP; rw [h]; simp [h1]
theorem caught_no2 {l : List Nd} {s : List Int} {i : Int} {nd : Nd} (h : rN l i = nd) (h2 : decide (nd.f2 ∈ s) = false) : caughtP l s i = false := by unfold caughtP; rw [h, h2]; simp
theorem dead_hit {s : List Int} {i : Int} (h : decide (i ∈ s) = false) : deadP s i = true := by unfold deadP; rw [h]; rfl
theorem dead_no {s : List Int} {i : Int} (h : decide (i ∈ s) = true) : deadP s i = false := by unfold deadP; rw [h]; rfl
theorem filtN_all {p : Int → Bool} {n : Nat} {i : Int} (h : (n : Int) ≤ i) (h1 : i ≤ n) : filtN p i.toNat = filtN p n := by rw [show i.toNat = n by omega]
theorem filtN_lenI (p : Int → Bool) {i : Int} {n : Nat} (h : i ≤ n) : (filtN p i.toNat).length ≤ n := by have := filtN_len p i.toNat; omega
theorem seen_len (l : List Nd) (dp : Int) : (seenM l dp).length ≤ 2500 := Nat.le_trans (coll_len _ _ _) (solveR_all l dp).1
theorem dead_len (l : List Nd) (dp : Int) : (deadM l dp).length ≤ l.length := by
 unfold deadM; split
 · simp
 · exact filtN_len _ _
theorem deadM_no {l : List Nd} {dp : Int} (h : ((seenM l dp).length : Int) = 0) : deadM l dp = [] := by
 unfold deadM; rw [if_pos (List.length_eq_zero_iff.1 (by omega))]
theorem deadM_yes {l : List Nd} {dp : Int} (h : 0 < ((seenM l dp).length : Int)) : deadM l dp = filtN (deadP (seenM l dp)) l.length := by
 unfold deadM; rw [if_neg (fun e => by rw [e] at h; simp at h)]
theorem deadM_z {l : List Nd} {dp i : Int} (h : ((seenM l dp).length : Int) ≤ 0) (hi : i = 0) : filtN (deadP (seenM l dp)) i.toNat = deadM l dp := by
 subst hi; rw [deadM_no (by omega)]; rfl
theorem dead_fin {l : List Nd} {dp i : Int} (h0 : 0 ≤ i) (h1 : i ≤ l.length) (hp : 0 < i → 0 < ((seenM l dp).length : Int)) (h : l.length ≤ i ∨ ((seenM l dp).length : Int) ≤ 0) : filtN (deadP (seenM l dp)) i.toNat = deadM l dp := by
 by_cases hs : 0 < ((seenM l dp).length : Int)
 · rw [filtN_all (by omega) h1, deadM_yes hs]
 · exact deadM_z (by omega) (by omega)
theorem lams_mem {l : List Nd} {x : Int} (h : x ∈ lamsM l) : okM l = true ∧ 0 ≤ x ∧ x < l.length ∧ lamB (rN l x) = true := by
 unfold lamsM at h
 split at h
 · rename_i hk; obtain ⟨h1, h2, h3⟩ := filtN_mem h; exact ⟨hk, h1, h2, h3⟩
 · simp at h
theorem lams_len (l : List Nd) : (lamsM l).length ≤ l.length := by
 unfold lamsM; split
 · exact filtN_len _ _
 · simp
theorem lams_no {l : List Nd} (h : okM l = false) : lamsM l = [] := by unfold lamsM; rw [h]; rfl
theorem lams_yes {l : List Nd} (h : okM l = true) : lamsM l = filtN (fun i => lamB (rN l i)) l.length := by unfold lamsM; rw [h]; rfl
theorem lam_fin {l : List Nd} {i : Int} (h0 : 0 ≤ i) (h1 : i ≤ l.length) (hp : 0 < i → okM l = true) (h : l.length ≤ i ∨ okM l = false) : filtN (fun i => lamB (rN l i)) i.toNat = lamsM l := by
 cases hk : okM l with
 | true => rw [lams_yes hk, filtN_all (by rcases h with h | h; exact h; rw [hk] at h; cases h) h1]
 | false =>
   have : i = 0 := by
    rcases Int.lt_or_eq_of_le h0 with h2 | h2
    · have := hp h2; rw [hk] at this; cases this
    · exact h2.symm
   subst this
   rw [lams_no hk]; rfl
theorem dfun_at {l : List Nd} {i x : Int} (h0 : 0 ≤ i) (h1 : i < (lamsM l).length) (hx : rI (lamsM l) i = x) : 0 ≤ x ∧ x < l.length := by
 subst hx; have := lams_mem (rdG_mem (z := 0) h0 h1); exact ⟨this.2.1, this.2.2.1⟩
def dfP (l : List Nd) (dp f : Int) : Bool := decide ((rN l f).f1 ∈ deadM l dp)
theorem dfun_hit {l : List Nd} {dp f : Int} {nd : Nd} (h : rN l f = nd) (hm : nd.f1 ∈ deadM l dp) : dfP l dp f = true := by unfold dfP; rw [h]; exact decide_eq_true hm
theorem dfun_no {l : List Nd} {dp f : Int} {nd : Nd} (h : rN l f = nd) (hm : ¬ nd.f1 ∈ deadM l dp) : dfP l dp f = false := by unfold dfP; rw [h]; exact decide_eq_false hm
theorem dfun_all {l : List Nd} {dp i : Int} (h : (lamsM l).length ≤ i) : ((lamsM l).take i.toNat).filter (dfP l dp) = dfunsM l dp := by rw [take_allG h]; rfl
theorem filt_yes {p : Int → Bool} {l : List Int} {i x : Int} (h0 : 0 ≤ i) (h1 : i < l.length) (hx : rI l i = x) (hp : p x = true) : (l.take (i + 1).toNat).filter p = (l.take i.toNat).filter p ++ [x] := by
 rw [take_succG 0 h0 h1, List.filter_append, show rdG 0 l i = x from hx]; simp [hp]
theorem filt_no {p : Int → Bool} {l : List Int} {i x : Int} (h0 : 0 ≤ i) (h1 : i < l.length) (hx : rI l i = x) (hp : p x = false) : (l.take (i + 1).toNat).filter p = (l.take i.toNat).filter p := by
 rw [take_succG 0 h0 h1, List.filter_append, show rdG 0 l i = x from hx]; simp [hp]
theorem filt_len (p : Int → Bool) (l : List Int) (n : Nat) : ((l.take n).filter p).length ≤ l.length := Nat.le_trans (List.length_filter_le _ _) (List.length_take_le' _ _)
def rowI (k : Int) (n : Nat) : List Int := (List.range n).map fun j : Nat => k + (j : Int)
theorem rowI_len (k : Int) (n : Nat) : (rowI k n).length = n := by simp [rowI]
theorem rowI_at {k : Int} {n : Nat} {i : Int} (h0 : 0 ≤ i) (h1 : i < n) : rI (rowI k n) i = k + i := by
 have h2 : i.toNat < n := by omega
 simp only [rI, rdG, rowI, List.getD_eq_getElem?_getD, List.getElem?_map, List.getElem?_range h2, Option.map_some, Option.getD_some]
 omega
def rawN (l : List Nd) : Nat → List ByteArray
 | 0 => []
 | n + 1 => if freeB l n then rawN l n ++ [(rN l n).f5] else rawN l n
theorem len_rawN (l : List Nd) (n : Nat) : (rawN l n).length ≤ n ∧ (1 ≤ (rawN l n).length ↔ ∃ i, i < n ∧ freeB l i = true) := by
 induction n with
 | zero => exact ⟨Nat.le_refl _, by simp [rawN]⟩
 | succ n ih =>
   rw [rawN]
   split
   · rename_i h
     rw [List.length_append, List.length_singleton]
     exact ⟨by omega, fun _ => ⟨n, by omega, h⟩, fun _ => by omega⟩
   · rename_i h
     refine ⟨by omega, ih.2.trans ⟨fun ⟨i, h1, h2⟩ => ⟨i, by omega, h2⟩, fun ⟨i, h1, h2⟩ => ⟨i, ?_, h2⟩⟩⟩
     by_cases e : i = n
     · subst e; exact absurd h2 h
     · omega
theorem raw_len {l : List Nd} (hk : okM l = true) : (rawN l l.length).length = 0 ↔ (freeR l).length = 0 := by
 have h1 := (len_rawN l l.length).2
 have h2 := (len_freeN l l.length).2
 unfold freeR; rw [if_pos hk]
 have := h1.trans h2.symm
 omega
theorem rB_binds {l : List Nd} {i : Int} (h0 : 0 ≤ i) (h1 : i < l.length) : rB (bindsM l) i = bindS l i := by
 have h2 : i.toNat < l.length := by omega
 unfold rB rdG bindsM
 rw [List.getD_eq_getElem?_getD, List.getElem?_map, List.getElem?_range h2]
 simp only [Option.map_some, Option.getD_some, Int.toNat_of_nonneg h0]
theorem raw_yes {l : List Nd} {i : Int} {y : Nd} {b : Bd} (h0 : 0 ≤ i) (h1 : i < l.length) (hy : rN l i = y) (h2 : y.f0 = 1) (hb : rB (bindsM l) i = b) (h3 : b.f0 < 0) : rawN l (i + 1).toNat = rawN l i.toNat ++ [y.f5] := by
 rw [rB_binds h0 h1] at hb
 rw [show (i + 1).toNat = i.toNat + 1 by omega, rawN, Int.toNat_of_nonneg h0, if_pos (by unfold freeB; rw [hy, hb, decide_eq_true h2, decide_eq_true h3]; rfl), hy]
theorem raw_no1 {l : List Nd} {i : Int} {y : Nd} (h0 : 0 ≤ i) (hy : rN l i = y) (h2 : ¬ y.f0 = 1) : rawN l (i + 1).toNat = rawN l i.toNat := by
 rw [show (i + 1).toNat = i.toNat + 1 by omega, rawN, Int.toNat_of_nonneg h0, if_neg (by unfold freeB; rw [hy, decide_eq_false h2]; exact Bool.false_ne_true)]
theorem raw_no2 {l : List Nd} {i : Int} {b : Bd} (h0 : 0 ≤ i) (h1 : i < l.length) (hb : rB (bindsM l) i = b) (h3 : ¬ b.f0 < 0) : rawN l (i + 1).toNat = rawN l i.toNat := by
 rw [rB_binds h0 h1] at hb
 rw [show (i + 1).toNat = i.toNat + 1 by omega, rawN, Int.toNat_of_nonneg h0, if_neg (by unfold freeB; rw [hb, decide_eq_false h3, Bool.and_false]; exact Bool.false_ne_true)]
def dedN (l : List ByteArray) : Nat → List ByteArray
 | 0 => []
 | n + 1 => if n = 0 ∨ ¬ (rS l ((n : Int) - 1)).toList = (rS l n).toList then dedN l n ++ [rS l n] else dedN l n
theorem len_dedN (l : List ByteArray) (n : Nat) : (dedN l n).length ≤ n ∧ (1 ≤ n → 1 ≤ (dedN l n).length) := by
 induction n with
 | zero => exact ⟨Nat.le_refl _, fun h => by omega⟩
 | succ n ih =>
   rw [dedN]
   split
   · rw [List.length_append, List.length_singleton]; exact ⟨by omega, fun _ => by omega⟩
   · rename_i h
     refine ⟨by omega, fun _ => ih.2 ?_⟩
     refine Decidable.byContradiction fun h0 => h (.inl (by omega))
theorem ded_first {l : List ByteArray} {i : Int} {y : ByteArray} (h : i = 0) (hy : rS l i = y) : dedN l (i + 1).toNat = dedN l i.toNat ++ [y] := by
 subst h; subst hy; show dedN l 1 = _; rw [dedN, if_pos (.inl rfl)]; rfl
theorem ded_new {l : List ByteArray} {i : Int} {x y : ByteArray} (h0 : 0 ≤ i) (hy : rS l i = y) (hx : rS l (i - 1) = x) (h : ¬ x.toList = y.toList) : dedN l (i + 1).toNat = dedN l i.toNat ++ [y] := by
 rw [show (i + 1).toNat = i.toNat + 1 by omega, dedN, Int.toNat_of_nonneg h0, if_pos (.inr (by rw [hx, hy]; exact h)), hy]
theorem ded_old {l : List ByteArray} {i : Int} {x y : ByteArray} (h0 : 0 ≤ i) (hi : ¬ i = 0) (hy : rS l i = y) (hx : rS l (i - 1) = x) (h : x.toList = y.toList) : dedN l (i + 1).toNat = dedN l i.toNat := by
 rw [show (i + 1).toNat = i.toNat + 1 by omega, dedN, Int.toNat_of_nonneg h0, if_neg]
 rintro (h1 | h1)
 · omega
 · rw [hx, hy] at h1; exact h1 h
theorem ded_len {l : List ByteArray} : (dedN l l.length).length = 0 ↔ l.length = 0 := by
 have := len_dedN l l.length
 omega
def markO (l : List Int) (k i : Int) : List Int := rowI k i.toNat ++ l.drop i.toNat
theorem markO_len {l : List Int} {k i : Int} (h0 : 0 ≤ i) (h1 : i ≤ l.length) : (markO l k i).length = l.length := by
 unfold markO; rw [List.length_append, rowI_len, List.length_drop]; omega
theorem rowI_succ (k : Int) (n : Nat) : rowI k (n + 1) = rowI k n ++ [k + (n : Int)] := by simp [rowI, List.range_succ]
theorem markO_set {l : List Int} {k i x : Int} (h0 : 0 ≤ i) (h1 : i < l.length) (hx : x = k + i) : (eK .i64 (markO l k i)).set i.toNat [.int .i64 x] = eK .i64 (markO l k (i + 1)) := by
 subst hx
 have h2 : i.toNat < l.length := by omega
 have h3 : eK .i64 (markO l k i) = eK .i64 (rowI k i.toNat) ++ eK .i64 (l.drop i.toNat) := by simp [markO, eK]
 rw [h3, List.set_append, if_neg (by simp [eK, rowI_len]), List.drop_eq_getElem_cons h2]
 have h4 : (eK .i64 (rowI k i.toNat)).length = i.toNat := by simp [eK, rowI_len]
 rw [h4, Nat.sub_self]
 simp only [markO, show (i + 1).toNat = i.toNat + 1 by omega, rowI_succ, Int.toNat_of_nonneg h0]
 have h5 : ∀ (x : Int) (t : List Int), (eK .i64 (x :: t)).set 0 [.int .i64 (k + i)] = [.int .i64 (k + i)] :: eK .i64 t := fun _ _ => rfl
 have h6 : ∀ (a c : List Int) (b : Int), eK .i64 (a ++ [b] ++ c) = eK .i64 a ++ ([.int .i64 b] :: eK .i64 c) := fun a c b => by simp [eK]
 rw [h5, h6]
theorem markO_end {l : List Int} {k i : Int} (h : l.length ≤ i) (h1 : i ≤ l.length) : markO l k i = rowI k l.length := by
 unfold markO; rw [List.drop_of_length_le (by omega), List.append_nil, show i.toNat = l.length by omega]
theorem markO_zero (l : List Int) (k : Int) : markO l k 0 = l := by simp [markO, rowI]
theorem setNd {mm : List Nd} {i : Nat} {a b c d e : Int} {f g : ByteArray} : (eNd mm).set i [.int .i64 a, .int .i64 b, .int .i64 c, .int .i64 d, .int .i64 e, .str f, .str g] = eNd (mm.set i ⟨a, b, c, d, e, f, g⟩) := by
 simp [eNd, List.map_set]; rfl
theorem Den.fetchS {E : Env} {Q : X → S → Prop} {o : Std} (ho : o = std) {B : Box} {i : Int} {cs : List D} {k : List D → T} (h0 : 0 ≤ i) (h1 : i < o.len B) (h : Den E (k cs) Q) : Den E (.fetch (o.setAt B i cs) i k) Q := by
 subst ho
 refine Den.fetch h0 ?_ h
 have h1' : i < (B.length : Int) := h1
 show (B.set i.toNat cs)[i.toNat]? = some cs
 rw [List.getElem?_set_self (by omega)]
theorem len_setAt {B : Box} {i : Int} {cs : List D} : std.len (std.setAt B i cs) = std.len B := by simp [std]
theorem size_ofB1 (x : Int) : (ofBytes [[D.int .u8 x]]).size = 1 := by simp [ofBytes, byteN]
theorem mt_ok {o : Std} (ho : o = std) {x : Int} {b : ByteArray} {n : Int} (h : (b.size : Int) ≤ n) (hn : n ≤ 100000000) : o.catOk (o.ofB [[D.int .u8 x]]) b = true := by
 subst ho
 show decide ((ofBytes [[D.int .u8 x]]).size + b.size ≤ 2 ^ 62) = true
 rw [size_ofB1]; exact decide_eq_true (by omega)
theorem mt_ok1 {o : Std} (ho : o = std) {b : ByteArray} {n : Int} (h : (b.size : Int) ≤ n) (hn : n ≤ 100000000) : o.catOk ⟨⟨[109]⟩⟩ b = true := by
 subst ho
 show decide ((⟨⟨[109]⟩⟩ : ByteArray).size + b.size ≤ 2 ^ 62) = true
 have : (⟨⟨[109]⟩⟩ : ByteArray).size = 1 := rfl
 rw [this]; exact decide_eq_true (by omega)
theorem mt_step {x a k : Int} {b : ByteArray} (h0 : 0 < a) (hk : (b.size : Int) + a ≤ k) (hn : k ≤ 100000000) : 0 ≤ std.quo .i64 a 10 ∧ ((std.cat (std.ofB [[D.int .u8 x]]) b).size : Int) + std.quo .i64 a 10 ≤ k ∧ (std.quo .i64 a 10).toNat < a.toNat := by
 have e0 : a.tdiv 10 = a / 10 := tdivN (by omega)
 have e : std.quo .i64 a 10 = a / 10 := by
  show IntKind.wrap .i64 (a.tdiv 10) = _
  rw [e0]; exact wI (by omega) (by omega)
 have e2 : (std.cat (std.ofB [[D.int .u8 x]]) b).size = 1 + b.size := by
  show (ofBytes [[D.int .u8 x]] ++ b).size = _
  rw [ByteArray.size_append, size_ofB1]
 rw [e, e2]
 omega
theorem ans_calls {P : Program} {E : Env} (hE : EnvOk P E) {f : FuncId} {as_ : List D} {d : D} (h : Ans E f as_ d) {W : World} {vs : Array Value} {σ : Nat → Nat} (hl : vs.size = as_.length)
  (hr : ∀ i, i < as_.length → ArgR σ W (as_.getD i .junk) (vs.getD i undef)) (hbig : ∀ b, W.heap.size ≤ b → σ b = 0) :
  Calls P f vs W fun e w' => ∃ v σ', e = .returned v ∧ RD σ' w' d v ∧ NwD W.heap.size σ' w' d v ∧ (Below W.heap.size W w' ∧ W.drawn ≤ w'.drawn) ∧ (∀ b, b < W.heap.size → σ' b = σ b) ∧ ∀ b, w'.heap.size ≤ b → σ' b = 0 := by
 obtain ⟨fi, hf, hn, n, x, s, hrun, hx, hd⟩ := h
 refine (pcall_calls (G := ⟨[], [], σ⟩) hE (sound hE n) hf hn hx hrun (run_done n) hd hl (fun i hi => .inl (hr i hi)) (Nat.le_refl _) hbig).mono ?_
 rintro e w' ⟨v, G', h1, h2, ⟨_, h3⟩, hfr, h4⟩
 exact ⟨v, G'.ice, h1, h2, h3, ⟨⟨hfr.os, hfr.tape, hfr.output.1, hfr.size, fun b hb => hfr.same b hb (fun p hp => by cases hp) (fun hh => by cases hh)⟩, hfr.output.2⟩, fun b hb => hfr.ice b hb (fun hh => by cases hh), h4⟩
def takeC : Nat → Code → Code
 | 0, .seq a _ => a
 | n + 1, .seq a b => .seq a (takeC n b)
 | _, _ => .exit 0
def dropC : Nat → Code → Code
 | 0, .seq _ b => b
 | n + 1, .seq _ b => dropC n b
 | _, _ => .skip
def AnsI (E : Env) (fi : FnI) (x0 : X) (out : S → Option D) (as_ : List D) (P : D → List Nat → Prop) : Prop :=
 Nat.ble as_.length fi.ntmps = true ∧ Den E (tree E fi.keep fi.body (enterS fi as_ [] []) .done) fun x s => x = x0 ∧ ∃ d, out s = some d ∧ P d s.tk
section
variable {P : Program} {E : Env} {F : Fx} {G : Gh} {s : S} {a : Act} {w : World} {o : Std}
theorem AnsI.mkA (ho : o = std) {fi : FnI} {x0 : X} {out : S → Option D} {xs : List D} {P : D → List Nat → Prop} (hn : Nat.ble xs.length fi.ntmps = true)
  (h : Den E (treeA o E fi.keep fi.body (enterS fi xs [] []) .done) fun x s => x = x0 ∧ ∃ d, out s = some d ∧ P d s.tk) : AnsI E fi x0 out xs P :=
 ⟨hn, by subst ho; rwa [treeA_std] at h⟩
theorem wp_take (hE : EnvOk P E) {m : Nat} {Q : Exit → Act → World → Prop} {kp : Nat → List Nat} {s1 : S} : ∀ (n : Nat) (c : Code) (s : S) (F : Fx) (G : Gh) (a : Act) (w : World),
  run E m (tree E kp (takeC n c) s .done) = some (.normal, s1) → Sim F G s a w → (∀ G' a' w', Sim F G' s1 a' w' → (dropC n c).wp P Q a' w') → c.wp P Q a w
 | n, c, s, F, G, a, w, h, hs, hk => by
   induction n generalizing c s F G a w with
   | zero =>
     cases c
     case seq x y =>
      refine wp_seq (wp_mono (sound hE m x kp s .done _ F G a w h hs) ?_)
      rintro e a' w' ⟨x0, hm, G', s', hs', hsim'⟩
      have hs'' := run_done _ _ _ _ hs'
      injection hs'' with q1 q2
      subst q1 q2
      cases e <;> first | exact hm.elim | exact hk _ _ _ hsim'
     all_goals
      have := run_done _ _ _ _ h
      injection this with q1 q2
      cases q1
   | succ n ih =>
     cases c
     case seq x y =>
      refine wp_seq (wp_mono (sound hE m x kp s _ _ F G a w h hs) ?_)
      rintro e a' w' ⟨x0, hm, G', s', hs', hsim'⟩
      cases x0
      case normal => cases e <;> first | exact hm.elim | exact ih y s' F G' a' w' hs' hsim' hk
      all_goals
       have hs'' := run_done _ _ _ _ hs'
       injection hs'' with q1 q2
       cases q1
     all_goals
      have := run_done _ _ _ _ h
      injection this with q1 q2
      cases q1
theorem calls_pre (hE : EnvOk P E) {f : FuncId} {fn : Func} {c : Code} {n : Nat} {fi : FnI} {out : S → Option D} {as_ : List D} {PP : D → List Nat → Prop} (h : AnsI E fi .normal out as_ PP) (hb : fi.body = takeC n c) (hf : P.funcs[f]? = some fn) (hbody : fn.body = some c) (hnt : fn.ntmps = fi.ntmps)
  {σ : Nat → Nat} {vs : Array Value} (hl : vs.size = as_.length) (hr : ∀ i, i < as_.length → ArgR σ w (as_.getD i .junk) (vs.getD i undef)) (hbig : ∀ b, w.heap.size ≤ b → σ b = 0) {R : Ending → World → Prop}
  (hk : ∀ d s1 G' a' w', out s1 = some d → PP d s1.tk → Sim ⟨w, [], [], [], σ, fun _ => 0, w.heap.size⟩ G' s1 a' w' → (dropC n c).wp P (bodyPost P fn R) a' w') : Calls P f vs w R := by
 obtain ⟨hn, hd⟩ := h
 obtain ⟨m, x, s1, hrun, rfl, d, ho, hp⟩ := hd
 have hsim := sim_enter (lm := w.heap.size) (fi := fi) (G := ⟨[], [], σ⟩) hl (fun i hi => .inl (hr i hi)) (Nat.le_of_ble_eq_true hn) hbig
 refine calls_of_wp hf hbody ?_
 rw [hnt]
 rw [hb] at hrun
 exact wp_take hE n c _ _ _ _ _ hrun hsim fun G' a' w' h => hk d s1 G' a' w' ho hp h
theorem sim_at {fi : FnI} {as_ : List D} {σ : Nat → Nat} (hd : a.defers = []) (hsz : a.tmps.size = fi.ntmps) (hr : ∀ i, i < as_.length → as_.getD i .junk = .junk ∨ ArgR σ w (as_.getD i .junk) (a.tmps.getD i undef)) (hn : as_.length ≤ fi.ntmps) (hbig : ∀ b, w.heap.size ≤ b → σ b = 0) :
  Sim ⟨w, [], [], [], σ, fun _ => 0, w.heap.size⟩ ⟨[], [], σ⟩ (enterS fi as_ [] []) a w := by
 refine ⟨⟨rfl, rfl, fun i es p h => by simp [enterS] at h, fun i es p h => by simp [enterS] at h, by simp [blocks], fun b hb => by simp [blocks] at hb, fun p hp => by simp at hp, rfl, fun i b _ h => by simp at h, fun i b _ h => by simp at h, fun p hp => by simp at hp, hbig,
  ⟨rfl, rfl, ⟨rfl, Nat.le_refl _⟩, Nat.le_refl _, fun _ _ _ _ => rfl, Ext.refl _ _ _, fun _ _ _ => rfl⟩⟩, ⟨by simp [enterS, hsz]; omega, fun i hi => ?_⟩, hd⟩
 by_cases hia : i < as_.length
 · have h1 : (as_ ++ List.replicate (fi.ntmps - as_.length) D.junk).getD i .junk = as_.getD i .junk := by
     simp only [List.getD_eq_getElem?_getD]; rw [List.getElem?_append_left hia]
   simp only [enterS]
   rw [h1]
   rcases hr i hia with h | h
   · rw [h]; exact .junk _
   · exact ArgR.rep (G := ⟨[], [], σ⟩) h
 · have h1 : (as_ ++ List.replicate (fi.ntmps - as_.length) D.junk).getD i .junk = .junk := by
     simp only [List.getD_eq_getElem?_getD]; rw [List.getElem?_append_right (by omega)]
     simp only [List.getElem?_replicate]; split <;> rfl
   simp only [enterS]; rw [h1]; exact .junk _
theorem wp_rest (hE : EnvOk P E) {fn : Func} {fi : FnI} {as_ : List D} {d0 : D → List Nat → Prop} {x0 : X} (hx : x0 = .normal ∨ x0 = .ret) (h : AnsI E fi x0 (fun s => outD E fi.nw s fi.res) as_ d0) (hres : fn.results = fi.res.toArray) {σ : Nat → Nat}
  (hd : a.defers = []) (hsz : a.tmps.size = fi.ntmps) (hr : ∀ i, i < as_.length → as_.getD i .junk = .junk ∨ ArgR σ w (as_.getD i .junk) (a.tmps.getD i undef)) (hbig : ∀ b, w.heap.size ≤ b → σ b = 0) {R : Ending → World → Prop}
  (hk : ∀ v d tk σ' w', d0 d tk → RD σ' w' d v → NwD w.heap.size σ' w' d v → Below w.heap.size w w' → w.drawn ≤ w'.drawn → (∀ b, b < w.heap.size → σ' b = σ b) → (∀ b, w'.heap.size ≤ b → σ' b = 0) → R (.returned v) w') : fi.body.wp P (bodyPost P fn R) a w := by
 obtain ⟨hn, hden⟩ := h
 obtain ⟨m, x, s1, hrun, rfl, d, hout, hp⟩ := hden
 have hsim := sim_at (fi := fi) (as_ := as_) (σ := σ) hd hsz hr (Nat.le_of_ble_eq_true hn) hbig
 refine wp_mono (sound hE m fi.body fi.keep _ _ _ _ _ _ w hrun hsim) ?_
 rintro e a' w' ⟨x', hm, G', s', hs', hsim'⟩
 have hs'' := run_done _ _ _ _ hs'
 injection hs'' with q1 q2
 subst q1 q2
 obtain ⟨vs', e1, hrd, hfin, hnw⟩ := out_calls hE hsim' hres hout
 obtain ⟨_, hz2, hz3⟩ := hsim'.freeze
 have hlim : (⟨w, [], [], [], σ, fun _ => 0, w.heap.size⟩ : Fx).lim = w.heap.size := Nat.min_self _
 rw [hlim] at hnw
 have hfr := hz2 rfl
 have hpost : R (.returned (if h : vs'.toArray.size = 1 then vs'.toArray[0] else .tuple vs'.toArray)) w' :=
  hk _ d s1.tk G'.freeze.ice w' hp hrd hnw ⟨hfr.os, hfr.tape, hfr.output.1, hfr.size, fun b hb => hfr.same b hb (fun p hp => by cases hp) (fun hh => by cases hh)⟩ hfr.output.2 (fun b hb => hfr.ice b hb (fun hh => by cases hh)) hz3
 rcases hx with rfl | rfl <;> cases e <;> first | exact hm.elim | exact ⟨hsim'.def0, _, e1, hpost⟩
end
end Go.Mach
