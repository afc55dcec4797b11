/- The program's ShowInts and the reference's return the same at every list of numbers. No condition beyond the statement's own. -/
import Derived.Test.YthalbnikkhaobaaDoorPFnExactShowIntsx1
import Derived.Lib.ItoaLen
import Derived.Test.YthalbnikkhaobaaDoorWSized
namespace Go.Proofs.YthalbnikkhaobaaDoor.PrintWords
/-- The printed row names this word from here. -/
theorem sized_ints : type_of% @Go.Proofs.YthalbnikkhaobaaDoorW.PrintWords.sized_ints := @Go.Proofs.YthalbnikkhaobaaDoorW.PrintWords.sized_ints
end Go.Proofs.YthalbnikkhaobaaDoor.PrintWords
namespace Go.Proofs.YthalbnikkhaobaaDoor.Pure
open Go.RowKit Go.Proofs.YthalbnikkhaobaaDoor.PFnExactShowInts Go.Proofs.YthalbnikkhaobaaDoorW.PrintWords Go.Proofs.YthalbnikkhaobaaDoorW.PrintLast
set_option linter.unusedVariables false
set_option linter.unusedSimpArgs false

/-! Small words on `Ev`. -/
theorem evP {α : Type} {c : Prop} [Decidable c] {f g : Nat → Option α} {r : α} (h : c) (hf : Ev f r) : Ev (fun k => if c then f k else g k) r :=
  Ev.congr (fun _ => if_pos h) hf
theorem evN {α : Type} {c : Prop} [Decidable c] {f g : Nat → Option α} {r : α} (h : ¬ c) (hg : Ev g r) : Ev (fun k => if c then f k else g k) r :=
  Ev.congr (fun _ => if_neg h) hg
theorem evI {α : Type} {c : Prop} [Decidable c] {f g : Nat → Option α} {r : α} (hf : c → Ev f r) (hg : ¬ c → Ev g r) : Ev (fun k => if c then f k else g k) r := by
  by_cases h : c
  · exact evP h (hf h)
  · exact evN h (hg h)
theorem evB {α β : Type} {a : α} {f : Nat → α → Option β} {r : β} (h : Ev (fun k => f k a) r) : Ev (fun k => (some a).bind (f k)) r := h
theorem evS {α β : Type} {x : Option α} {a : α} {f : Nat → α → Option β} {r : β} (e : x = some a) (h : Ev (fun k => f k a) r) : Ev (fun k => x.bind (f k)) r := by
  subst e; exact h
theorem evC {α : Type} {x : Option α} {r : α} (h : x = some r) : Ev (fun _ => x) r := by subst h; exact Ev.now _
theorem w64 {i : Int} (h0 : -9223372036854775808 ≤ i) (h1 : i ≤ 9223372036854775807) : wrap64 i = i := by unfold wrap64; omega
theorem rd_nat (l : List Int) (i : Nat) : rd l (i : Int) = l.getD i 0 := rfl
theorem rd_cons_drop (l : List Int) (i : Nat) (h : i < l.length) : l.drop i = rd l (i : Int) :: l.drop (i + 1) := by
  rw [rd_nat, List.drop_eq_getElem_cons h, List.getD_eq_getElem?_getD, List.getElem?_eq_getElem h]; rfl
theorem set_mid {α : Type} (a b : List α) (x y : α) (i : Nat) (h : a.length = i) : (a ++ x :: b).set i y = (a ++ [y]) ++ b := by
  subst h
  rw [List.set_append_right _ _ (Nat.le_refl _), Nat.sub_self, List.set_cons_zero]; simp
theorem take_snoc {α : Type} (l : List α) (z : α) (i : Nat) (h : i < l.length) : l.take i ++ [l.getD i z] = l.take (i + 1) := by
  rw [List.take_succ_eq_append_getElem h, List.getD_eq_getElem?_getD, List.getElem?_eq_getElem h]; rfl

theorem inc (i : Nat) (h : i < 9223372036854775807) : wrap64 ((i : Int) + 1) = ((i + 1 : Nat) : Int) := w64 (by omega) (by omega)

theorem toIntS_l (l : List Int) (hm : l.length ≤ 1048576) : ∀ (d i : Nat), i + d = l.length →
    Ev (fun k => laws_toIntS.l0 k l (l.take i ++ List.replicate d 0) (i : Int)) l := by
  intro d
  induction d with
  | zero =>
    intro i h
    refine Ev.step (fun k => by rw [laws_toIntS.l0]) ?_
    refine evN (by omega) ?_
    have e : l.take i ++ List.replicate 0 0 = l := by rw [List.replicate_zero, List.append_nil, List.take_of_length_le (by omega)]
    rw [e]; exact Ev.now _
  | succ d ih =>
    intro i h
    refine Ev.step (fun k => by rw [laws_toIntS.l0]) ?_
    refine evP (by omega) (evP (by omega) (evP (by rw [List.length_append, List.length_take, List.length_replicate]; omega) ?_))
    have hi : i < l.length := by omega
    have e : (l.take i ++ List.replicate (d + 1) 0).set (i : Int).toNat (rd l i) = l.take (i + 1) ++ List.replicate d 0 := by
      rw [List.replicate_succ, Int.toNat_natCast, set_mid _ _ _ _ _ (by rw [List.length_take]; omega), rd_nat, take_snoc _ _ _ hi]
    rw [e, w64 (by omega) (by omega)]
    have := ih (i + 1) (by omega)
    exact this
theorem toIntS_ev (l : List Int) (hm : l.length ≤ 1048576) : Ev (fun k => laws_toIntS.f k l) l := by
  unfold laws_toIntS.f
  refine evP (by omega) (evP (by omega) ?_)
  rw [Int.toNat_natCast]
  have h := toIntS_l l hm l.length 0 (by omega)
  simpa using h

theorem eqIntS_l (l m : List Int) (hm : l.length ≤ 1048576) (hl : l.length = m.length) : ∀ (d i : Nat), i + d = l.length →
    Ev (fun k => laws_eqIntS.l0 k l m (i : Int)) (decide (l.drop i = m.drop i)) := by
  intro d
  induction d with
  | zero =>
    intro i h
    refine Ev.step (fun k => by rw [laws_eqIntS.l0]) ?_
    refine evN (by omega) ?_
    rw [List.drop_of_length_le (by omega), List.drop_of_length_le (by omega)]
    exact Ev.now _
  | succ d ih =>
    intro i h
    refine Ev.step (fun k => by rw [laws_eqIntS.l0]) ?_
    refine evP (by omega) (evP (by omega) (evP (by omega) ?_))
    rw [rd_cons_drop l i (by omega), rd_cons_drop m i (by omega), w64 (by omega) (by omega)]
    refine evI (fun e => ?_) (fun e => ?_)
    · rw [e]
      have := ih (i + 1) (by omega)
      simpa using this
    · have : decide (rd l (i : Int) :: l.drop (i + 1) = rd m (i : Int) :: m.drop (i + 1)) = false := by simp [e]
      rw [this]; exact Ev.now _
theorem eqIntS_ev (l m : List Int) (hm : l.length ≤ 1048576) : Ev (fun k => laws_eqIntS.f k l m) (decide (l = m)) := by
  unfold laws_eqIntS.f
  refine evI (fun e => ?_) (fun e => ?_)
  · have h := eqIntS_l l m hm (by omega) l.length 0 (by omega)
    simpa using h
  · have : decide (l = m) = false := by simp; intro h; subst h; exact e rfl
    rw [this]; exact Ev.now _
theorem eqIntS_self (l : List Int) (hm : l.length ≤ 1048576) : Ev (fun k => laws_eqIntS.f k l l) true := by
  have := eqIntS_ev l l hm
  simpa using this

/-! A number written out: both write the same. -/
def bs (l : List UInt8) : ByteArray := ⟨l.toArray⟩
theorem bs_append (a b : List UInt8) : bs a ++ bs b = bs (a ++ b) := by
  apply ByteArray.ext
  rw [ByteArray.data_append]
  simp [bs]
theorem bs_size (a : List UInt8) : (bs a).size = a.length := by simp [bs, ByteArray.size]
def digs (u : Nat) : List UInt8 := if u = 0 then [] else Go.Lib.decDigits u
theorem digs_step (u : Nat) (h : u ≠ 0) : digs u = digs (u / 10) ++ [UInt8.ofNat (48 + u % 10)] := by
  unfold digs
  rw [if_neg h, Go.Lib.decDigits]
  by_cases c : u < 10
  · rw [dif_pos c, if_pos (by omega), List.nil_append, Nat.mod_eq_of_lt c]
  · rw [dif_neg c, if_neg (by omega)]
theorem nums_one (d : Nat) (hd : d < 10) : strOfNums [(48 + (d : Int)) % 256] = bs [UInt8.ofNat (48 + d)] := by
  have : ∀ d : Fin 10, strOfNums [(48 + ((d.val : Nat) : Int)) % 256] = bs [UInt8.ofNat (48 + d.val)] := by decide +kernel
  exact this ⟨d, hd⟩
theorem dec_loop (neg : Bool) : ∀ (nd u : Nat) (x : Int) (s : List UInt8), u < 10 ^ nd → x = (if neg = true then -(u : Int) else (u : Int)) → u ≤ 9223372036854775808 → s.length + nd ≤ 1000 →
    Ev (fun k => spec_Dec.l0 k x (bs s) neg) (bs ((if neg = true then [45] else []) ++ (digs u ++ s))) := by
  intro nd
  induction nd with
  | zero =>
    intro u x s hu hx _ hs
    have hu0 : u = 0 := by rw [Nat.pow_zero] at hu; omega
    subst hu0
    have hx0 : x = 0 := by rw [hx]; cases neg <;> rfl
    refine Ev.step (fun k => by rw [spec_Dec.l0]) ?_
    refine evP hx0 ?_
    have hd : digs 0 = [] := rfl
    rw [hd, List.nil_append]
    cases neg with
    | true =>
      refine evP rfl ?_
      refine evP (by rw [bs_size]; omega) ?_
      have e : (⟨#[45]⟩ : ByteArray) ++ bs s = bs ([45] ++ s) := bs_append [45] s
      rw [e]; exact Ev.now _
    | false => exact evN (by simp) (Ev.now _)
  | succ nd ih =>
    intro u x s hu hx hb hs
    by_cases h0 : u = 0
    · subst h0
      have hx0 : x = 0 := by rw [hx]; cases neg <;> rfl
      refine Ev.step (fun k => by rw [spec_Dec.l0]) ?_
      refine evP hx0 ?_
      have hd : digs 0 = [] := rfl
      rw [hd, List.nil_append]
      cases neg with
      | true =>
        refine evP rfl ?_
        refine evP (by rw [bs_size]; omega) ?_
        have e : (⟨#[45]⟩ : ByteArray) ++ bs s = bs ([45] ++ s) := bs_append [45] s
        rw [e]; exact Ev.now _
      | false => exact evN (by simp) (Ev.now _)
    · have hdiv : u / 10 < 10 ^ nd := by rw [Nat.pow_succ] at hu; omega
      have hm : u % 10 < 10 := Nat.mod_lt _ (by decide)
      have e1 := ih (u / 10) (if neg = true then -((u / 10 : Nat) : Int) else ((u / 10 : Nat) : Int)) (UInt8.ofNat (48 + u % 10) :: s) hdiv rfl (by omega) (by rw [List.length_cons]; omega)
      have e2 : digs u ++ s = digs (u / 10) ++ UInt8.ofNat (48 + u % 10) :: s := by rw [digs_step u h0, List.append_assoc]; rfl
      rw [e2]
      have hx0 : x ≠ 0 := by rw [hx]; cases neg <;> simp <;> omega
      have htd : wrap64 (Int.tdiv x 10) = (if neg = true then -((u / 10 : Nat) : Int) else ((u / 10 : Nat) : Int)) := by
        rw [hx]
        cases neg with
        | true =>
          simp only [if_true]
          rw [Int.neg_tdiv, Int.tdiv_eq_ediv_of_nonneg (by omega)]
          rw [w64 (by omega) (by omega)]; omega
        | false =>
          simp only [Bool.false_eq_true, if_false]
          rw [Int.tdiv_eq_ediv_of_nonneg (by omega)]
          rw [w64 (by omega) (by omega)]; omega
      have htm : Int.tmod x 10 = (if neg = true then -((u % 10 : Nat) : Int) else ((u % 10 : Nat) : Int)) := by
        rw [hx]
        cases neg with
        | true =>
          simp only [if_true]
          rw [Int.neg_tmod, Int.tmod_eq_emod_of_nonneg (by omega)]; omega
        | false =>
          simp only [Bool.false_eq_true, if_false]
          rw [Int.tmod_eq_emod_of_nonneg (by omega)]; omega
      have hone := nums_one (u % 10) hm
      have hcat : strOfNums [(48 + ((u % 10 : Nat) : Int)) % 256] ++ bs s = bs (UInt8.ofNat (48 + u % 10) :: s) := by rw [hone]; exact bs_append [_] s
      have hsz : (strOfNums [(48 + ((u % 10 : Nat) : Int)) % 256]).size + (bs s).size ≤ 9223372036854775807 := by rw [hone, bs_size, bs_size, List.length_singleton]; omega
      refine Ev.step (fun k => by rw [spec_Dec.l0]) ?_
      refine evN hx0 ?_
      rw [htd]
      refine evI (fun c => ?_) (fun c => ?_)
      · have hw : wrap64 (48 + wrap64 (-(Int.tmod x 10))) = 48 + ((u % 10 : Nat) : Int) := by
          rw [htm] at c ⊢
          cases neg with
          | true =>
            simp only [if_true]
            rw [w64 (i := -(-((u % 10 : Nat) : Int))) (by omega) (by omega), w64 (by omega) (by omega)]; omega
          | false =>
            simp only [Bool.false_eq_true, if_false] at c
            omega
        rw [hw]
        refine evB ?_
        refine evP hsz ?_
        rw [hcat]; exact e1
      · have hw : wrap64 (48 + Int.tmod x 10) = 48 + ((u % 10 : Nat) : Int) := by
          rw [htm] at c ⊢
          cases neg with
          | true =>
            simp only [if_true] at c ⊢
            have : ((u % 10 : Nat) : Int) = 0 := by omega
            rw [w64 (by omega) (by omega)]; omega
          | false =>
            simp only [Bool.false_eq_true, if_false]
            rw [w64 (by omega) (by omega)]
        rw [hw]
        refine evB ?_
        refine evP hsz ?_
        rw [hcat]; exact e1
theorem dec_ev (a : Int) (h0 : -9223372036854775808 ≤ a) (h1 : a ≤ 9223372036854775807) : Ev (fun k => spec_Dec.f k a) (bs (Go.Lib.itoa a)) ∧ impl_Dec.f a = some (bs (Go.Lib.itoa a)) := by
  refine ⟨?_, ?_⟩
  · unfold spec_Dec.f
    by_cases c : a = 0
    · subst c
      refine evP rfl ?_
      have e : Go.Lib.itoa 0 = [48] := by unfold Go.Lib.itoa; rw [if_neg (by omega)]; exact Go.Lib.decDigits_one (by decide)
      rw [e]; exact Ev.now _
    · refine evN c ?_
      have hlt : a.natAbs < 10 ^ 19 := by have : (10 : Nat) ^ 19 = 10000000000000000000 := by decide
                                          omega
      by_cases hn : a < 0
      · have e := dec_loop true 19 a.natAbs a [] hlt (by rw [if_pos rfl]; omega) (by omega) (by decide)
        have ed : Go.Lib.itoa a = [45] ++ (digs a.natAbs ++ []) := by unfold Go.Lib.itoa digs; rw [if_pos hn, if_neg (by omega), List.append_nil]; rfl
        rw [decide_eq_true hn, ed]; exact e
      · have e := dec_loop false 19 a.natAbs a [] hlt (by rw [if_neg (by simp)]; omega) (by omega) (by decide)
        have ed : Go.Lib.itoa a = [] ++ (digs a.natAbs ++ []) := by
          unfold Go.Lib.itoa digs
          rw [if_neg hn, if_neg (by omega), List.append_nil, List.nil_append, show a.toNat = a.natAbs by omega]
        rw [decide_eq_false hn, ed]; exact e
  · unfold impl_Dec.f strconv_Itoa.f
    rw [if_pos ⟨h0, h1⟩]; rfl
theorem dec_size (a : Int) (h0 : -9223372036854775808 ≤ a) (h1 : a ≤ 9223372036854775807) : (bs (Go.Lib.itoa a)).size ≤ 21 := by rw [bs_size]; exact Go.Lib.itoa_length_le a h0 h1

theorem wf_in {x : Int} (h : (Lit.int .i64 x).wf = true) : -9223372036854775808 ≤ x ∧ x ≤ 9223372036854775807 := by
  have h2 : (decide ((-9223372036854775808 : Int) ≤ x) && decide (x ≤ 9223372036854775807)) = true := h
  simpa using h2
theorem showInts_ev (l : List Int) (hl : l.length ≤ 1048576) (hw : ∀ x ∈ l, -9223372036854775808 ≤ x ∧ x ≤ 9223372036854775807) : ∃ r, Ev (fun k => spec_ShowInts.f k l) r ∧ Ev (fun k => impl_ShowInts.f k l) r := by
  have loop : ∀ (d i : Nat) (s : ByteArray), i + d = l.length → s.size ≤ 22 * i → ∃ r, Ev (fun k => spec_ShowInts.l0 k l s (i : Int)) r ∧ Ev (fun k => impl_ShowInts.l0 k s l (l.length : Int) (i : Int)) r := by
    intro d
    induction d with
    | zero =>
      intro i s h hs
      refine ⟨s, Ev.step (fun k => by rw [spec_ShowInts.l0]) ?_, Ev.step (fun k => by rw [impl_ShowInts.l0]) ?_⟩
      · exact evN (by omega) (Ev.now _)
      · exact evN (by omega) (Ev.now _)
    | succ d ih =>
      intro i s h hs
      have hi : i < l.length := by omega
      have hm : rd l (i : Int) ∈ l := List.mem_of_mem_drop (i := i) (by rw [rd_cons_drop l i hi]; exact List.mem_cons_self)
      obtain ⟨d1, d2⟩ := dec_ev _ (hw _ hm).1 (hw _ hm).2
      have ds := dec_size _ (hw _ hm).1 (hw _ hm).2
      have s1 : (⟨#[32]⟩ : ByteArray).size = 1 := rfl
      have hap : s ++ (⟨#[32]⟩ : ByteArray) ++ bs (Go.Lib.itoa (rd l (i : Int))) = s ++ ((⟨#[32]⟩ : ByteArray) ++ bs (Go.Lib.itoa (rd l (i : Int)))) := ByteArray.append_assoc
      have z1 : (s ++ (⟨#[32]⟩ : ByteArray)).size = s.size + 1 := by rw [ByteArray.size_append, s1]
      have z2 : ((⟨#[32]⟩ : ByteArray) ++ bs (Go.Lib.itoa (rd l (i : Int)))).size = 1 + (bs (Go.Lib.itoa (rd l (i : Int)))).size := by rw [ByteArray.size_append, s1]
      have z3 : (s ++ ((⟨#[32]⟩ : ByteArray) ++ bs (Go.Lib.itoa (rd l (i : Int))))).size = s.size + (1 + (bs (Go.Lib.itoa (rd l (i : Int)))).size) := by rw [ByteArray.size_append, z2]
      obtain ⟨r, r1, r2⟩ := ih (i + 1) (s ++ ((⟨#[32]⟩ : ByteArray) ++ bs (Go.Lib.itoa (rd l (i : Int))))) (by omega) (by rw [z3]; omega)
      refine ⟨r, Ev.step (fun k => by rw [spec_ShowInts.l0]) ?_, Ev.step (fun k => by rw [impl_ShowInts.l0]) ?_⟩
      · refine evP (by omega) ?_
        refine evP (by omega) ?_
        refine evP (by omega) ?_
        refine Ev.bind d1 ?_
        refine evP (by rw [z1]; omega) ?_
        rw [hap, inc i (by omega)]; exact r1
      · refine evP (by omega) ?_
        refine evP (by omega) ?_
        refine evP (by omega) ?_
        refine evS d2 ?_
        refine evP (by omega) ?_
        refine evP (by rw [z2]; omega) ?_
        rw [inc i (by omega)]; exact r2
  unfold spec_ShowInts.f impl_ShowInts.f
  exact loop l.length 0 _ (by omega) (Nat.zero_le _)
theorem FnExactShowInts : ∀ (l0 : List Int), l0.length * 8 ≤ 140737488351232 → (∀ x ∈ l0, (Lit.int .i64 x).wf = true) → ∃ k, laws_FnExactShowInts.f k l0 = some true := by
  intro l0 hl hw
  apply Ev.rounds
  unfold laws_FnExactShowInts.f
  refine evI (fun _ => Ev.now _) (fun c => ?_)
  have hm : l0.length ≤ 1048576 := by omega
  obtain ⟨r, r1, r2⟩ := showInts_ev l0 hm (fun x hx => wf_in (hw x hx))
  refine Ev.bind (toIntS_ev l0 hm) ?_
  refine Ev.bind r1 ?_
  refine Ev.bind (toIntS_ev l0 hm) ?_
  refine Ev.bind r2 ?_
  refine evP rfl ?_
  refine Ev.bind (toIntS_ev l0 hm) ?_
  refine Ev.bind (eqIntS_self l0 hm) ?_
  exact evP rfl (Ev.now _)

end Go.Proofs.YthalbnikkhaobaaDoor.Pure
