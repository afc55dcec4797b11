/- The program's ShowEdges and the reference's return the same at every list of edges. No condition beyond the statement's own. -/
import Derived.Test.YthalbnikkhaobaaDoorPFnExactShowEdgesx2
import Derived.Lib.ItoaLen
import Derived.Test.YthalbnikkhaobaaDoorWSized
namespace Go.Proofs.YthalbnikkhaobaaDoor.PrintWords
/-- The printed row names this word from here. -/
theorem sized_ints : type_of% @Go.Proofs.YthalbnikkhaobaaDoorW.PrintWords.sized_ints := @Go.Proofs.YthalbnikkhaobaaDoorW.PrintWords.sized_ints
end Go.Proofs.YthalbnikkhaobaaDoor.PrintWords
namespace Go.Proofs.YthalbnikkhaobaaDoor.Pure
open Go.RowKit Go.Proofs.YthalbnikkhaobaaDoor.PFnExactShowEdges Go.Proofs.YthalbnikkhaobaaDoorW.PrintWords Go.Proofs.YthalbnikkhaobaaDoorW.PrintLast
set_option linter.unusedVariables false
set_option linter.unusedSimpArgs false

/-! Small words on `Ev`. -/
theorem evP {α : Type} {c : Prop} [Decidable c] {f g : Nat → Option α} {r : α} (h : c) (hf : Ev f r) : Ev (fun k => if c then f k else g k) r :=
  Ev.congr (fun _ => if_pos h) hf
theorem evN {α : Type} {c : Prop} [Decidable c] {f g : Nat → Option α} {r : α} (h : ¬ c) (hg : Ev g r) : Ev (fun k => if c then f k else g k) r :=
  Ev.congr (fun _ => if_neg h) hg
theorem evI {α : Type} {c : Prop} [Decidable c] {f g : Nat → Option α} {r : α} (hf : c → Ev f r) (hg : ¬ c → Ev g r) : Ev (fun k => if c then f k else g k) r := by
  by_cases h : c
  · exact evP h (hf h)
  · exact evN h (hg h)
theorem evB {α β : Type} {a : α} {f : Nat → α → Option β} {r : β} (h : Ev (fun k => f k a) r) : Ev (fun k => (some a).bind (f k)) r := h
theorem evS {α β : Type} {x : Option α} {a : α} {f : Nat → α → Option β} {r : β} (e : x = some a) (h : Ev (fun k => f k a) r) : Ev (fun k => x.bind (f k)) r := by
  subst e; exact h
theorem evC {α : Type} {x : Option α} {r : α} (h : x = some r) : Ev (fun _ => x) r := by subst h; exact Ev.now _
theorem w64 {i : Int} (h0 : -9223372036854775808 ≤ i) (h1 : i ≤ 9223372036854775807) : wrap64 i = i := by unfold wrap64; omega
theorem rd_nat (l : List Int) (i : Nat) : rd l (i : Int) = l.getD i 0 := rfl
theorem rd_cons_drop (l : List Int) (i : Nat) (h : i < l.length) : l.drop i = rd l (i : Int) :: l.drop (i + 1) := by
  rw [rd_nat, List.drop_eq_getElem_cons h, List.getD_eq_getElem?_getD, List.getElem?_eq_getElem h]; rfl
theorem set_mid {α : Type} (a b : List α) (x y : α) (i : Nat) (h : a.length = i) : (a ++ x :: b).set i y = (a ++ [y]) ++ b := by
  subst h
  rw [List.set_append_right _ _ (Nat.le_refl _), Nat.sub_self, List.set_cons_zero]; simp
theorem take_snoc {α : Type} (l : List α) (z : α) (i : Nat) (h : i < l.length) : l.take i ++ [l.getD i z] = l.take (i + 1) := by
  rw [List.take_succ_eq_append_getElem h, List.getD_eq_getElem?_getD, List.getElem?_eq_getElem h]; rfl

theorem inc (i : Nat) (h : i < 9223372036854775807) : wrap64 ((i : Int) + 1) = ((i + 1 : Nat) : Int) := w64 (by omega) (by omega)

theorem getD_take_map {α β : Type} (g : α → β) (l : List α) (z : α) (i d : Nat) (y : β) (h : i < l.length) :
    (((l.take i).map g) ++ List.replicate (d + 1) y).set i (g (l.getD i z)) = ((l.take (i + 1)).map g) ++ List.replicate d y := by
  rw [List.replicate_succ, set_mid _ _ _ _ _ (by rw [List.length_map, List.length_take]; omega), ← take_snoc l z i h, List.map_append]; rfl
def ofE (e : S38) : S36 := ⟨e.f0, e.f1⟩
theorem toEdgeS_ev (l : List S38) (hm : l.length ≤ 1048576) : Ev (fun k => laws_toEdgeS.f k l) (l.map ofE) := by
  have loop : ∀ (d i : Nat), i + d = l.length → Ev (fun k => laws_toEdgeS.l0 k l (((l.take i).map ofE) ++ List.replicate d z36) (i : Int)) (l.map ofE) := by
    intro d
    induction d with
    | zero =>
      intro i h
      refine Ev.step (fun k => by rw [laws_toEdgeS.l0]) ?_
      refine evN (by omega) ?_
      have e : ((l.take i).map ofE) ++ List.replicate 0 z36 = l.map ofE := by rw [List.replicate_zero, List.append_nil, List.take_of_length_le (by omega)]
      rw [e]; exact Ev.now _
    | succ d ih =>
      intro i h
      have hi : i < l.length := by omega
      have q : (i : Int) < ((((l.take i).map ofE) ++ List.replicate (d + 1) z36).length : Int) := by simp only [List.length_append, List.length_map, List.length_take, List.length_replicate]; omega
      refine Ev.step (fun k => by rw [laws_toEdgeS.l0]) ?_
      refine evP (by omega) ?_
      refine evP (by omega) ?_
      refine evS (a := ((rd_T38 l (i : Int)).f0, (rd_T38 l (i : Int)).f1)) rfl ?_
      refine evP q ?_
      have e := getD_take_map ofE l z38 i d z36 hi
      rw [w64 (by omega) (by omega)]
      have e2 : (((l.take i).map ofE) ++ List.replicate (d + 1) z36).set (i : Int).toNat (⟨(rd_T38 l (i : Int)).f0, (rd_T38 l (i : Int)).f1⟩ : S36) = ((l.take (i + 1)).map ofE) ++ List.replicate d z36 := e
      dsimp only
      rw [e2]
      exact ih (i + 1) (by omega)
  unfold laws_toEdgeS.f
  refine evP (by omega) ?_
  refine evP (by rw [Int.toNat_natCast]; omega) ?_
  rw [Int.toNat_natCast]
  exact loop l.length 0 (by omega)
theorem eqEdge_eq (a b c d : Int) : laws_eqEdge.f a b c d = some (decide (a = c ∧ b = d)) := by
  unfold laws_eqEdge.f
  by_cases h : a = c
  · rw [if_pos h]
    by_cases h2 : b = d
    · rw [if_pos h2, decide_eq_true ⟨h, h2⟩]
    · rw [if_neg h2, decide_eq_false (fun x => h2 x.2)]
  · rw [if_neg h, decide_eq_false (fun x => h x.1)]
theorem eqEdgeS_self (l : List S36) (hm : l.length ≤ 1048576) : Ev (fun k => laws_eqEdgeS.f k l l) true := by
  have loop : ∀ (d i : Nat), i + d = l.length → Ev (fun k => laws_eqEdgeS.l0 k l l (i : Int)) true := by
    intro d
    induction d with
    | zero =>
      intro i h
      refine Ev.step (fun k => by rw [laws_eqEdgeS.l0]) ?_
      exact evN (by omega) (Ev.now _)
    | succ d ih =>
      intro i h
      refine Ev.step (fun k => by rw [laws_eqEdgeS.l0]) ?_
      refine evP (by omega) ?_
      refine evP (by omega) ?_
      refine evP (by omega) ?_
      refine evS (eqEdge_eq _ _ _ _) ?_
      refine evP (decide_eq_true ⟨rfl, rfl⟩) ?_
      rw [w64 (by omega) (by omega)]
      exact ih (i + 1) (by omega)
  unfold laws_eqEdgeS.f
  refine evP rfl ?_
  exact loop l.length 0 (by omega)
theorem szEdgeS_eq (l : List S38) (hm : l.length * 16 ≤ 140737488351232) : laws_szEdgeS.f l 1048576 = some (if l.length ≤ 1048576 then 1048576 - (l.length : Int) else -1) := by
  unfold laws_szEdgeS.f
  rw [w64 (by omega) (by omega)]
  by_cases h : l.length ≤ 1048576
  · rw [if_neg (by omega), if_pos h]
  · rw [if_pos (by omega), if_neg h]

/-! A number written out: both write the same. -/
def bs (l : List UInt8) : ByteArray := ⟨l.toArray⟩
theorem bs_append (a b : List UInt8) : bs a ++ bs b = bs (a ++ b) := by
  apply ByteArray.ext
  rw [ByteArray.data_append]
  simp [bs]
theorem bs_size (a : List UInt8) : (bs a).size = a.length := by simp [bs, ByteArray.size]
def digs (u : Nat) : List UInt8 := if u = 0 then [] else Go.Lib.decDigits u
theorem digs_step (u : Nat) (h : u ≠ 0) : digs u = digs (u / 10) ++ [UInt8.ofNat (48 + u % 10)] := by
  unfold digs
  rw [if_neg h, Go.Lib.decDigits]
  by_cases c : u < 10
  · rw [dif_pos c, if_pos (by omega), List.nil_append, Nat.mod_eq_of_lt c]
  · rw [dif_neg c, if_neg (by omega)]
theorem nums_one (d : Nat) (hd : d < 10) : strOfNums [(48 + (d : Int)) % 256] = bs [UInt8.ofNat (48 + d)] := by
  have : ∀ d : Fin 10, strOfNums [(48 + ((d.val : Nat) : Int)) % 256] = bs [UInt8.ofNat (48 + d.val)] := by decide +kernel
  exact this ⟨d, hd⟩
theorem dec_loop (neg : Bool) : ∀ (nd u : Nat) (x : Int) (s : List UInt8), u < 10 ^ nd → x = (if neg = true then -(u : Int) else (u : Int)) → u ≤ 9223372036854775808 → s.length + nd ≤ 1000 →
    Ev (fun k => spec_Dec.l0 k x (bs s) neg) (bs ((if neg = true then [45] else []) ++ (digs u ++ s))) := by
  intro nd
  induction nd with
  | zero =>
    intro u x s hu hx _ hs
    have hu0 : u = 0 := by rw [Nat.pow_zero] at hu; omega
    subst hu0
    have hx0 : x = 0 := by rw [hx]; cases neg <;> rfl
    refine Ev.step (fun k => by rw [spec_Dec.l0]) ?_
    refine evP hx0 ?_
    have hd : digs 0 = [] := rfl
    rw [hd, List.nil_append]
    cases neg with
    | true =>
      refine evP rfl ?_
      refine evP (by rw [bs_size]; omega) ?_
      have e : (⟨#[45]⟩ : ByteArray) ++ bs s = bs ([45] ++ s) := bs_append [45] s
      rw [e]; exact Ev.now _
    | false => exact evN (by simp) (Ev.now _)
  | succ nd ih =>
    intro u x s hu hx hb hs
    by_cases h0 : u = 0
    · subst h0
      have hx0 : x = 0 := by rw [hx]; cases neg <;> rfl
      refine Ev.step (fun k => by rw [spec_Dec.l0]) ?_
      refine evP hx0 ?_
      have hd : digs 0 = [] := rfl
      rw [hd, List.nil_append]
      cases neg with
      | true =>
        refine evP rfl ?_
        refine evP (by rw [bs_size]; omega) ?_
        have e : (⟨#[45]⟩ : ByteArray) ++ bs s = bs ([45] ++ s) := bs_append [45] s
        rw [e]; exact Ev.now _
      | false => exact evN (by simp) (Ev.now _)
    · have hdiv : u / 10 < 10 ^ nd := by rw [Nat.pow_succ] at hu; omega
      have hm : u % 10 < 10 := Nat.mod_lt _ (by decide)
      have e1 := ih (u / 10) (if neg = true then -((u / 10 : Nat) : Int) else ((u / 10 : Nat) : Int)) (UInt8.ofNat (48 + u % 10) :: s) hdiv rfl (by omega) (by rw [List.length_cons]; omega)
      have e2 : digs u ++ s = digs (u / 10) ++ UInt8.ofNat (48 + u % 10) :: s := by rw [digs_step u h0, List.append_assoc]; rfl
      rw [e2]
      have hx0 : x ≠ 0 := by rw [hx]; cases neg <;> simp <;> omega
      have htd : wrap64 (Int.tdiv x 10) = (if neg = true then -((u / 10 : Nat) : Int) else ((u / 10 : Nat) : Int)) := by
        rw [hx]
        cases neg with
        | true =>
          simp only [if_true]
          rw [Int.neg_tdiv, Int.tdiv_eq_ediv_of_nonneg (by omega)]
          rw [w64 (by omega) (by omega)]; omega
        | false =>
          simp only [Bool.false_eq_true, if_false]
          rw [Int.tdiv_eq_ediv_of_nonneg (by omega)]
          rw [w64 (by omega) (by omega)]; omega
      have htm : Int.tmod x 10 = (if neg = true then -((u % 10 : Nat) : Int) else ((u % 10 : Nat) : Int)) := by
        rw [hx]
        cases neg with
        | true =>
          simp only [if_true]
          rw [Int.neg_tmod, Int.tmod_eq_emod_of_nonneg (by omega)]; omega
        | false =>
          simp only [Bool.false_eq_true, if_false]
          rw [Int.tmod_eq_emod_of_nonneg (by omega)]; omega
      have hone := nums_one (u % 10) hm
      have hcat : strOfNums [(48 + ((u % 10 : Nat) : Int)) % 256] ++ bs s = bs (UInt8.ofNat (48 + u % 10) :: s) := by rw [hone]; exact bs_append [_] s
      have hsz : (strOfNums [(48 + ((u % 10 : Nat) : Int)) % 256]).size + (bs s).size ≤ 9223372036854775807 := by rw [hone, bs_size, bs_size, List.length_singleton]; omega
      refine Ev.step (fun k => by rw [spec_Dec.l0]) ?_
      refine evN hx0 ?_
      rw [htd]
      refine evI (fun c => ?_) (fun c => ?_)
      · have hw : wrap64 (48 + wrap64 (-(Int.tmod x 10))) = 48 + ((u % 10 : Nat) : Int) := by
          rw [htm] at c ⊢
          cases neg with
          | true =>
            simp only [if_true]
            rw [w64 (i := -(-((u % 10 : Nat) : Int))) (by omega) (by omega), w64 (by omega) (by omega)]; omega
          | false =>
            simp only [Bool.false_eq_true, if_false] at c
            omega
        rw [hw]
        refine evB ?_
        refine evP hsz ?_
        rw [hcat]; exact e1
      · have hw : wrap64 (48 + Int.tmod x 10) = 48 + ((u % 10 : Nat) : Int) := by
          rw [htm] at c ⊢
          cases neg with
          | true =>
            simp only [if_true] at c ⊢
            have : ((u % 10 : Nat) : Int) = 0 := by omega
            rw [w64 (by omega) (by omega)]; omega
          | false =>
            simp only [Bool.false_eq_true, if_false]
            rw [w64 (by omega) (by omega)]
        rw [hw]
        refine evB ?_
        refine evP hsz ?_
        rw [hcat]; exact e1
theorem dec_ev (a : Int) (h0 : -9223372036854775808 ≤ a) (h1 : a ≤ 9223372036854775807) : Ev (fun k => spec_Dec.f k a) (bs (Go.Lib.itoa a)) ∧ impl_Dec.f a = some (bs (Go.Lib.itoa a)) := by
  refine ⟨?_, ?_⟩
  · unfold spec_Dec.f
    by_cases c : a = 0
    · subst c
      refine evP rfl ?_
      have e : Go.Lib.itoa 0 = [48] := by unfold Go.Lib.itoa; rw [if_neg (by omega)]; exact Go.Lib.decDigits_one (by decide)
      rw [e]; exact Ev.now _
    · refine evN c ?_
      have hlt : a.natAbs < 10 ^ 19 := by have : (10 : Nat) ^ 19 = 10000000000000000000 := by decide
                                          omega
      by_cases hn : a < 0
      · have e := dec_loop true 19 a.natAbs a [] hlt (by rw [if_pos rfl]; omega) (by omega) (by decide)
        have ed : Go.Lib.itoa a = [45] ++ (digs a.natAbs ++ []) := by unfold Go.Lib.itoa digs; rw [if_pos hn, if_neg (by omega), List.append_nil]; rfl
        rw [decide_eq_true hn, ed]; exact e
      · have e := dec_loop false 19 a.natAbs a [] hlt (by rw [if_neg (by simp)]; omega) (by omega) (by decide)
        have ed : Go.Lib.itoa a = [] ++ (digs a.natAbs ++ []) := by
          unfold Go.Lib.itoa digs
          rw [if_neg hn, if_neg (by omega), List.append_nil, List.nil_append, show a.toNat = a.natAbs by omega]
        rw [decide_eq_false hn, ed]; exact e
  · unfold impl_Dec.f strconv_Itoa.f
    rw [if_pos ⟨h0, h1⟩]; rfl
theorem dec_size (a : Int) (h0 : -9223372036854775808 ≤ a) (h1 : a ≤ 9223372036854775807) : (bs (Go.Lib.itoa a)).size ≤ 21 := by rw [bs_size]; exact Go.Lib.itoa_length_le a h0 h1

theorem wf_in {x : Int} (h : (Lit.int .i64 x).wf = true) : -9223372036854775808 ≤ x ∧ x ≤ 9223372036854775807 := by
  have h2 : (decide ((-9223372036854775808 : Int) ≤ x) && decide (x ≤ 9223372036854775807)) = true := h
  simpa using h2
theorem rd_edge_mem (l : List S36) (i : Nat) (hi : i < l.length) : rd_T36 l (i : Int) ∈ l := by
  unfold rd_T36
  rw [Int.toNat_natCast, List.getD_eq_getElem?_getD, List.getElem?_eq_getElem hi]
  exact List.getElem_mem hi
theorem cat_eq (s a b c d : ByteArray) : s ++ a ++ b ++ c ++ d = s ++ (a ++ b ++ c ++ d) := by
  rw [ByteArray.append_assoc, ByteArray.append_assoc, ByteArray.append_assoc, ByteArray.append_assoc, ByteArray.append_assoc]
theorem showEdges_ev (l : List S36) (hl : l.length ≤ 1048576) (hw : ∀ x ∈ l, (-9223372036854775808 ≤ x.f0 ∧ x.f0 ≤ 9223372036854775807) ∧ -9223372036854775808 ≤ x.f1 ∧ x.f1 ≤ 9223372036854775807) : ∃ r, Ev (fun k => spec_ShowEdges.f k l) r ∧ Ev (fun k => impl_ShowEdges.f k l) r := by
  have loop : ∀ (d i : Nat) (s : ByteArray), i + d = l.length → s.size ≤ 44 * i → ∃ r, Ev (fun k => spec_ShowEdges.l0 k l s (i : Int)) r ∧ Ev (fun k => impl_ShowEdges.l0 k s l (l.length : Int) (i : Int)) r := by
    intro d
    induction d with
    | zero =>
      intro i s h hs
      refine ⟨s, Ev.step (fun k => by rw [spec_ShowEdges.l0]) ?_, Ev.step (fun k => by rw [impl_ShowEdges.l0]) ?_⟩
      · exact evN (by omega) (Ev.now _)
      · exact evN (by omega) (Ev.now _)
    | succ d ih =>
      intro i s h hs
      have hi : i < l.length := by omega
      have hm := rd_edge_mem l i hi
      obtain ⟨⟨g1, g2⟩, g3, g4⟩ := hw _ hm
      obtain ⟨d1, d2⟩ := dec_ev _ g1 g2
      obtain ⟨e1, e2⟩ := dec_ev _ g3 g4
      have ds := dec_size _ g1 g2
      have es := dec_size _ g3 g4
      generalize bs (Go.Lib.itoa (rd_T36 l (i : Int)).f0) = A at d1 d2 ds
      generalize bs (Go.Lib.itoa (rd_T36 l (i : Int)).f1) = B at e1 e2 es
      have s1 : (⟨#[32]⟩ : ByteArray).size = 1 := rfl
      have s2 : (⟨#[62]⟩ : ByteArray).size = 1 := rfl
      have hap := cat_eq s (⟨#[32]⟩ : ByteArray) A (⟨#[62]⟩ : ByteArray) B
      have z1 : (s ++ (⟨#[32]⟩ : ByteArray)).size = s.size + 1 := by rw [ByteArray.size_append, s1]
      have z2 : (s ++ (⟨#[32]⟩ : ByteArray) ++ A).size = s.size + 1 + A.size := by rw [ByteArray.size_append, z1]
      have z3 : (s ++ (⟨#[32]⟩ : ByteArray) ++ A ++ (⟨#[62]⟩ : ByteArray)).size = s.size + 1 + A.size + 1 := by rw [ByteArray.size_append, z2, s2]
      have y1 : ((⟨#[32]⟩ : ByteArray) ++ A).size = 1 + A.size := by rw [ByteArray.size_append, s1]
      have y2 : ((⟨#[32]⟩ : ByteArray) ++ A ++ (⟨#[62]⟩ : ByteArray)).size = 1 + A.size + 1 := by rw [ByteArray.size_append, y1, s2]
      have y3 : ((⟨#[32]⟩ : ByteArray) ++ A ++ (⟨#[62]⟩ : ByteArray) ++ B).size = 1 + A.size + 1 + B.size := by rw [ByteArray.size_append, y2]
      have z4 : (s ++ ((⟨#[32]⟩ : ByteArray) ++ A ++ (⟨#[62]⟩ : ByteArray) ++ B)).size = s.size + (1 + A.size + 1 + B.size) := by rw [ByteArray.size_append, y3]
      obtain ⟨r, r1, r2⟩ := ih (i + 1) (s ++ ((⟨#[32]⟩ : ByteArray) ++ A ++ (⟨#[62]⟩ : ByteArray) ++ B)) (by omega) (by rw [z4]; omega)
      refine ⟨r, Ev.step (fun k => by rw [spec_ShowEdges.l0]) ?_, Ev.step (fun k => by rw [impl_ShowEdges.l0]) ?_⟩
      · refine evP (by omega) ?_
        refine evP (by omega) ?_
        refine evP (by omega) ?_
        refine Ev.bind d1 ?_
        refine evP (by rw [z1]; omega) ?_
        refine evP (by rw [z2]; omega) ?_
        refine Ev.bind e1 ?_
        refine evP (by rw [z3]; omega) ?_
        rw [hap, inc i (by omega)]; exact r1
      · refine evP (by omega) ?_
        refine evP (by omega) ?_
        refine evP (by omega) ?_
        refine evS d2 ?_
        refine evP (by omega) ?_
        refine evP (by rw [y1]; omega) ?_
        refine evS e2 ?_
        refine evP (by rw [y2]; omega) ?_
        refine evP (by rw [y3]; omega) ?_
        rw [inc i (by omega)]; exact r2
  unfold spec_ShowEdges.f impl_ShowEdges.f
  exact loop l.length 0 _ (by omega) (Nat.zero_le _)
theorem FnExactShowEdges : ∀ (l0 : List S38), l0.length * 16 ≤ 140737488351232 → (∀ x ∈ l0, (Lit.int .i64 x.f0).wf = true ∧ (Lit.int .i64 x.f1).wf = true) → ∃ k, laws_FnExactShowEdges.f k l0 = some true := by
  intro l0 hl hw
  apply Ev.rounds
  unfold laws_FnExactShowEdges.f
  refine evS (szEdgeS_eq l0 hl) ?_
  by_cases hm : l0.length ≤ 1048576
  · rw [if_pos hm]
    have hm2 : (l0.map ofE).length ≤ 1048576 := by rw [List.length_map]; exact hm
    have hq : ∀ x ∈ l0.map ofE, (-9223372036854775808 ≤ x.f0 ∧ x.f0 ≤ 9223372036854775807) ∧ -9223372036854775808 ≤ x.f1 ∧ x.f1 ≤ 9223372036854775807 := by
      intro x hx
      obtain ⟨y, hy, rfl⟩ := List.mem_map.1 hx
      exact ⟨wf_in (hw y hy).1, wf_in (hw y hy).2⟩
    obtain ⟨r, r1, r2⟩ := showEdges_ev (l0.map ofE) hm2 hq
    refine evN (by omega) ?_
    refine Ev.bind (toEdgeS_ev l0 hm) ?_
    refine Ev.bind r1 ?_
    refine Ev.bind (toEdgeS_ev l0 hm) ?_
    refine Ev.bind r2 ?_
    refine evP rfl ?_
    refine Ev.bind (toEdgeS_ev l0 hm) ?_
    refine Ev.bind (eqEdgeS_self _ hm2) ?_
    exact evP rfl (Ev.now _)
  · rw [if_neg hm]
    exact evP (by decide) (Ev.now _)

end Go.Proofs.YthalbnikkhaobaaDoor.Pure
