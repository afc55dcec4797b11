/- The program's DropLets and the reference's return the same at every list of nodes. No condition beyond the statement's own. -/
import Derived.Test.YtoebebgeiahagaaDoorDlPFnExactDropLetsx24
namespace Go.Proofs.YtoebebgeiahagaaDoor.Pure
open Go.RowKit Go.Proofs.YtoebebgeiahagaaDoor.PFnExactDropLets Go.Proofs.YtoebebgeiahagaaDoorW.PrintWords Go.Proofs.YtoebebgeiahagaaDoorW.PrintLast
set_option linter.unusedVariables false
set_option linter.unusedSimpArgs false

/-! Small words on `Ev`. -/
theorem evP {α : Type} {c : Prop} [Decidable c] {f g : Nat → Option α} {r : α} (h : c) (hf : Ev f r) : Ev (fun k => if c then f k else g k) r :=
 Ev.congr (fun _ => if_pos h) hf
theorem evN {α : Type} {c : Prop} [Decidable c] {f g : Nat → Option α} {r : α} (h : ¬ c) (hg : Ev g r) : Ev (fun k => if c then f k else g k) r :=
 Ev.congr (fun _ => if_neg h) hg
theorem evI {α : Type} {c : Prop} [Decidable c] {f g : Nat → Option α} {r : α} (hf : c → Ev f r) (hg : ¬ c → Ev g r) : Ev (fun k => if c then f k else g k) r := by
 by_cases h : c
 ·exact evP h (hf h)
 ·exact evN h (hg h)
theorem evB {α β : Type} {a : α} {f : Nat → α → Option β} {r : β} (h : Ev (fun k => f k a) r) : Ev (fun k => (some a).bind (f k)) r := h
theorem evS {α β : Type} {x : Option α} {a : α} {f : Nat → α → Option β} {r : β} (e : x = some a) (h : Ev (fun k => f k a) r) : Ev (fun k => x.bind (f k)) r := by
 subst e; exact h
theorem evC {α : Type} {x : Option α} {r : α} (h : x = some r) : Ev (fun _ => x) r := by subst h; exact Ev.now _
theorem w64 {i : Int} (h0 : -9223372036854775808 ≤ i) (h1 : i ≤ 9223372036854775807) : wrap64 i = i := by unfold wrap64; omega
theorem rd_nat (l : List Int) (i : Nat) : rd l (i : Int) = l.getD i 0 := rfl
theorem rd_cons_drop (l : List Int) (i : Nat) (h : i < l.length) : l.drop i = rd l (i : Int) :: l.drop (i + 1) := by
 rw [rd_nat, List.drop_eq_getElem_cons h, List.getD_eq_getElem?_getD, List.getElem?_eq_getElem h]; rfl
theorem set_mid {α : Type} (a b : List α) (x y : α) (i : Nat) (h : a.length = i) : (a ++ x :: b).set i y = (a ++ [y]) ++ b := by
 subst h
 rw [List.set_append_right _ _ (Nat.le_refl _), Nat.sub_self, List.set_cons_zero]; simp
theorem take_snoc {α : Type} (l : List α) (z : α) (i : Nat) (h : i < l.length) : l.take i ++ [l.getD i z] = l.take (i + 1) := by
 rw [List.take_succ_eq_append_getElem h, List.getD_eq_getElem?_getD, List.getElem?_eq_getElem h]; rfl

theorem spec_in_eq (a b c : Int) : spec_l1In.f a b c = some (decide (a ≥ b) && decide (a ≤ c)) := by
 unfold spec_l1In.f
 by_cases h : a ≥ b <;> simp [h]

theorem impl_in_eq (a b c : Int) : impl_in.f a b c = some (decide (a ≥ b) && decide (a ≤ c)) := by
 unfold impl_in.f
 by_cases h : a ≥ b <;> simp [h]

/-! Nodes: made over, marked off, sized. -/
theorem getD_take_mapN {α β : Type} (g : α → β) (l : List α) (z : α) (i d : Nat) (y : β) (h : i < l.length) :
  (((l.take i).map g) ++ List.replicate (d + 1) y).set i (g (l.getD i z)) = ((l.take (i + 1)).map g) ++ List.replicate d y := by
 rw [List.replicate_succ, set_mid _ _ _ _ _ (by rw [List.length_map, List.length_take]; omega), ← take_snoc l z i h, List.map_append]; rfl
def ofN (e : S45) : S48 := ⟨e.f0, e.f1, e.f2, e.f3, e.f4, e.f5, e.f6⟩
theorem toNodeS_ev (l : List S45) (hm : l.length ≤ 1048576) : Ev (fun k => laws_toNodeS.f k l) (l.map ofN) := by
 have loop : ∀ (d i : Nat), i + d = l.length → Ev (fun k => laws_toNodeS.l0 k l (((l.take i).map ofN) ++ List.replicate d z48) (i : Int)) (l.map ofN) := by
  intro d
  induction d with
  | zero =>
   intro i h
   refine Ev.step (fun k => by rw [laws_toNodeS.l0]) ?_
   refine evN (by omega) ?_
   have e : ((l.take i).map ofN) ++ List.replicate 0 z48 = l.map ofN := by rw [List.replicate_zero, List.append_nil, List.take_of_length_le (by omega)]
   rw [e]; exact Ev.now _
  | succ d ih =>
   intro i h
   have hi : i < l.length := by omega
   have q : (i : Int) < ((((l.take i).map ofN) ++ List.replicate (d + 1) z48).length : Int) := by simp only [List.length_append, List.length_map, List.length_take, List.length_replicate]; omega
   have w : wrap64 ((i : Int) + 1) = ((i + 1 : Nat) : Int) := w64 (by omega) (by omega)
   refine Ev.step (fun k => by rw [laws_toNodeS.l0]) ?_
   refine evP (by omega) ?_
   refine evP (by omega) ?_
   refine evS (a := ((rd_T45 l (i : Int)).f0, (rd_T45 l (i : Int)).f1, (rd_T45 l (i : Int)).f2, (rd_T45 l (i : Int)).f3, (rd_T45 l (i : Int)).f4, (rd_T45 l (i : Int)).f5, (rd_T45 l (i : Int)).f6)) rfl ?_
   refine evP q ?_
   have e := getD_take_mapN ofN l z45 i d z48 hi
   rw [w]
   have e2 : (((l.take i).map ofN) ++ List.replicate (d + 1) z48).set (i : Int).toNat (ofN (rd_T45 l (i : Int))) = ((l.take (i + 1)).map ofN) ++ List.replicate d z48 := e
   unfold ofN at e2 ⊢
   dsimp only
   rw [e2]
   exact ih (i + 1) (by omega)
 unfold laws_toNodeS.f
 refine evP (by omega) ?_
 refine evP (by rw [Int.toNat_natCast]; omega) ?_
 rw [Int.toNat_natCast]
 exact loop l.length 0 (by omega)
theorem eqNode_self (a b c d e : Int) (f g : ByteArray) : laws_eqNode.f a b c d e f g a b c d e f g = some true := by
 unfold laws_eqNode.f
 simp
theorem eqNodeS_self (l : List S48) (hm : l.length ≤ 1048576) : Ev (fun k => laws_eqNodeS.f k l l) true := by
 have loop : ∀ (d i : Nat), i + d = l.length → Ev (fun k => laws_eqNodeS.l0 k l l (i : Int)) true := by
  intro d
  induction d with
  | zero =>
   intro i h
   refine Ev.step (fun k => by rw [laws_eqNodeS.l0]) ?_
   exact evN (by omega) (Ev.now _)
  | succ d ih =>
   intro i h
   have w : wrap64 ((i : Int) + 1) = ((i + 1 : Nat) : Int) := w64 (by omega) (by omega)
   refine Ev.step (fun k => by rw [laws_eqNodeS.l0]) ?_
   refine evP (by omega) ?_
   refine evP (by omega) ?_
   refine evP (by omega) ?_
   refine evS (eqNode_self _ _ _ _ _ _ _) ?_
   refine evP rfl ?_
   rw [w]
   exact ih (i + 1) (by omega)
 unfold laws_eqNodeS.f
 refine evP rfl ?_
 exact loop l.length 0 (by omega)
theorem szNodeS_ev (l : List S45) (hl : l.length * 72 ≤ 140737488351232) : ∃ r, Ev (fun k => laws_szNodeS.f k l 1048576) r ∧ (1048576 < l.length → r < 0) := by
 have loop : ∀ (d i : Nat) (x : Int), i + d = l.length → ∃ r, Ev (fun k => laws_szNodeS.l0 k l x (i : Int)) r := by
  intro d
  induction d with
  | zero =>
   intro i x h
   refine ⟨x, Ev.step (fun k => by rw [laws_szNodeS.l0]) ?_⟩
   exact evN (by omega) (Ev.now _)
  | succ d ih =>
   intro i x h
   have w : wrap64 ((i : Int) + 1) = ((i + 1 : Nat) : Int) := w64 (by omega) (by omega)
   have tot : ∀ a b c d e f g h, ∃ t, laws_szNode.f a b c d e f g h = some t := by
    intro a b c d e f g h
    unfold laws_szNode.f
    repeat' split
    all_goals exact ⟨_, rfl⟩
   obtain ⟨t, ht⟩ := tot ((rd_T45 l (i : Int)).f0) ((rd_T45 l (i : Int)).f1) ((rd_T45 l (i : Int)).f2) ((rd_T45 l (i : Int)).f3) ((rd_T45 l (i : Int)).f4) ((rd_T45 l (i : Int)).f5) ((rd_T45 l (i : Int)).f6) x
   obtain ⟨r, hr⟩ := ih (i + 1) t (by omega)
   by_cases c : t < 0
   ·refine ⟨-1, Ev.step (fun k => by rw [laws_szNodeS.l0]) ?_⟩
    refine evP (by omega) ?_
    refine evP (by omega) ?_
    refine evS ht ?_
    exact evP c (Ev.now _)
   ·refine ⟨r, Ev.step (fun k => by rw [laws_szNodeS.l0]) ?_⟩
    refine evP (by omega) ?_
    refine evP (by omega) ?_
    refine evS ht ?_
    refine evN c ?_
    rw [w]; exact hr
 unfold laws_szNodeS.f
 rw [w64 (by omega) (by omega)]
 by_cases h : l.length ≤ 1048576
 ·obtain ⟨r, hr⟩ := loop l.length 0 (1048576 - (l.length : Int)) (by omega)
  exact ⟨r, evN (by omega) hr, fun _ => by omega⟩
 ·exact ⟨-1, evP (by omega) (Ev.now _), fun _ => by omega⟩

/-! Words and keys: both answer alike. -/
theorem word_ev (s : ByteArray) (hs : s.size ≤ 9223372036854775807) : ∃ r, Ev (fun k => spec_IsWord.f k s) r ∧ Ev (fun k => impl_IsWord.f k s) r ∧ (s.size = 0 → r = false) := by
 have loop : ∀ (d i : Nat), i + d = s.size → ∃ r, Ev (fun k => spec_IsWord.l0 k s (i : Int)) r ∧ Ev (fun k => impl_IsWord.l0 k s (i : Int)) r ∧ (s.size = 0 → r = false) := by
  intro d
  induction d with
  | zero =>
   intro i h
   refine ⟨decide ((s.size : Int) ≥ 1) && decide ((s.size : Int) ≤ 8), Ev.step (fun k => by rw [spec_IsWord.l0]) ?_, Ev.step (fun k => by rw [impl_IsWord.l0]) ?_, fun h => by rw [h]; rfl⟩
   ·exact evN (by omega) (evS (spec_in_eq _ _ _) (Ev.now _))
   ·exact evN (by omega) (evS (impl_in_eq _ _ _) (Ev.now _))
  | succ d ih =>
   intro i h
   have w : wrap64 ((i : Int) + 1) = ((i + 1 : Nat) : Int) := w64 (by omega) (by omega)
   obtain ⟨r, e1, e2, e3⟩ := ih (i + 1) (by omega)
   have let_ : ∀ b, spec_l2Letter.f b = some (decide (b ≥ 97) && decide (b ≤ 122)) := by
    intro b; unfold spec_l2Letter.f
    by_cases h : b ≥ 97 <;> simp [h]
   by_cases c1 : bt s (i : Int) < 97
   ·refine ⟨false, Ev.step (fun k => by rw [spec_IsWord.l0]) ?_, Ev.step (fun k => by rw [impl_IsWord.l0]) ?_, fun _ => rfl⟩
    ·refine evP (by omega) ?_
     refine evP (by omega) ?_
     refine evS (let_ _) ?_
     refine evN (by simp; omega) (Ev.now _)
    ·refine evP (by omega) ?_
     refine evP (by omega) ?_
     exact evP c1 (Ev.now _)
   ·by_cases c2 : bt s (i : Int) > 122
    ·refine ⟨false, Ev.step (fun k => by rw [spec_IsWord.l0]) ?_, Ev.step (fun k => by rw [impl_IsWord.l0]) ?_, fun _ => rfl⟩
     ·refine evP (by omega) ?_
      refine evP (by omega) ?_
      refine evS (let_ _) ?_
      refine evN (by simp; omega) (Ev.now _)
     ·refine evP (by omega) ?_
      refine evP (by omega) ?_
      exact evN c1 (evP c2 (Ev.now _))
    ·refine ⟨r, Ev.step (fun k => by rw [spec_IsWord.l0]) ?_, Ev.step (fun k => by rw [impl_IsWord.l0]) ?_, e3⟩
     ·refine evP (by omega) ?_
      refine evP (by omega) ?_
      refine evS (let_ _) ?_
      refine evP (by simp; omega) ?_
      rw [w]; exact e1
     ·refine evP (by omega) ?_
      refine evP (by omega) ?_
      refine evN c1 (evN c2 ?_)
      rw [w]; exact e2
 exact loop s.size 0 (by omega)
def keyL : List ByteArray := [(⟨#[102, 117, 110]⟩ : ByteArray), (⟨#[97, 112, 112]⟩ : ByteArray), (⟨#[108, 101, 116]⟩ : ByteArray), (⟨#[114, 101, 99]⟩ : ByteArray), (⟨#[105, 102]⟩ : ByteArray), (⟨#[97, 100, 100]⟩ : ByteArray), (⟨#[115, 117, 98]⟩ : ByteArray), (⟨#[108, 101, 115, 115]⟩ : ByteArray), (⟨#[115, 97, 109, 101]⟩ : ByteArray), (⟨#[112, 97, 105, 114]⟩ : ByteArray), (⟨#[102, 115, 116]⟩ : ByteArray), (⟨#[115, 110, 100]⟩ : ByteArray), (⟨#[110, 105, 108]⟩ : ByteArray), (⟨#[99, 111, 110, 115]⟩ : ByteArray), (⟨#[109, 97, 116, 99, 104]⟩ : ByteArray), (⟨#[114, 101, 102]⟩ : ByteArray), (⟨#[103, 101, 116]⟩ : ByteArray), (⟨#[115, 101, 116]⟩ : ByteArray), (⟨#[114, 97, 105, 115, 101]⟩ : ByteArray), (⟨#[116, 114, 121]⟩ : ByteArray)]
def keyS : ByteArray := ⟨#[102, 117, 110, 32, 97, 112, 112, 32, 108, 101, 116, 32, 114, 101, 99, 32, 105, 102, 32, 97, 100, 100, 32, 115, 117, 98, 32, 108, 101, 115, 115, 32, 115, 97, 109, 101, 32, 112, 97, 105, 114, 32, 102, 115, 116, 32, 115, 110, 100, 32, 110, 105, 108, 32, 99, 111, 110, 115, 32, 109, 97, 116, 99, 104, 32, 114, 101, 102, 32, 103, 101, 116, 32, 115, 101, 116, 32, 114, 97, 105, 115, 101, 32, 116, 114, 121]⟩
theorem keys_split : strings_Split.f keyS (⟨#[32]⟩ : ByteArray) = some keyL := by decide +kernel
theorem key_ev (s : ByteArray) : ∃ r, Ev (fun k => spec_IsKey.f k s) r ∧ Ev (fun k => impl_IsKey.f k s) r := by
 have h20 : keyL.length = 20 := rfl
 have loop : ∀ (d i : Nat), i + d = 20 → ∃ r, Ev (fun k => spec_IsKey.l0 k s keyL (i : Int)) r ∧ Ev (fun k => impl_IsKey.l0 k s keyL (keyL.length : Int) (i : Int)) r := by
  intro d
  induction d with
  | zero =>
   intro i h
   refine ⟨false, Ev.step (fun k => by rw [spec_IsKey.l0]) ?_, Ev.step (fun k => by rw [impl_IsKey.l0]) ?_⟩
   ·exact evN (by omega) (Ev.now _)
   ·exact evN (by omega) (Ev.now _)
  | succ d ih =>
   intro i h
   have w : wrap64 ((i : Int) + 1) = ((i + 1 : Nat) : Int) := w64 (by omega) (by omega)
   obtain ⟨r, e1, e2⟩ := ih (i + 1) (by omega)
   by_cases c : (rdOf ByteArray.empty keyL (i : Int)).toList = s.toList
   ·refine ⟨true, Ev.step (fun k => by rw [spec_IsKey.l0]) ?_, Ev.step (fun k => by rw [impl_IsKey.l0]) ?_⟩
    ·exact evP (by omega) (evP (by omega) (evP c (Ev.now _)))
    ·exact evP (by omega) (evP (by omega) (evP (by omega) (evP c (Ev.now _))))
   ·refine ⟨r, Ev.step (fun k => by rw [spec_IsKey.l0]) ?_, Ev.step (fun k => by rw [impl_IsKey.l0]) ?_⟩
    ·refine evP (by omega) (evP (by omega) (evN c ?_))
     rw [w]; exact e1
    ·refine evP (by omega) (evP (by omega) (evP (by omega) (evN c ?_)))
     rw [w]; exact e2
 obtain ⟨r, e1, e2⟩ := loop 20 0 rfl
 refine ⟨r, ?_, ?_⟩
 ·unfold spec_IsKey.f
  exact evS (a := keyL) rfl e1
 ·unfold impl_IsKey.f
  exact evS (a := keyL) keys_split e2
theorem name_ev (s : ByteArray) (hs : s.size ≤ 9223372036854775807) : ∃ r, Ev (fun k => spec_l3Name.f k s) r ∧ Ev (fun k => impl_isName.f k s) r ∧ (s.size = 0 → r = false) := by
 obtain ⟨a, a1, a2, a3⟩ := word_ev s hs
 obtain ⟨b, b1, b2⟩ := key_ev s
 unfold spec_l3Name.f impl_isName.f
 cases a with
 | false => exact ⟨false, Ev.bind a1 (evN (by simp) (Ev.now _)), Ev.bind a2 (evN (by simp) (Ev.now _)), fun _ => rfl⟩
 | true => exact ⟨!b, Ev.bind a1 (evP rfl (Ev.bind b1 (Ev.now _))), Ev.bind a2 (evP rfl (Ev.bind b2 (Ev.now _))), fun h => absurd (a3 h) (by simp)⟩

/-! Arity, names, fields: both answer alike. -/
def arityM (t : Int) : Nat := if t = 3 ∨ t = 10 ∨ t = 11 ∨ t = 15 ∨ t = 16 ∨ t = 18 then 1 else if t = 4 ∨ t = 5 ∨ t = 6 ∨ t = 8 ∨ t = 9 ∨ t = 13 ∨ t = 17 ∨ t = 19 then 2 else if t = 7 ∨ t = 14 then 3 else 0
theorem arityM_le (t : Int) : arityM t ≤ 3 := by
 unfold arityM
 repeat' split
 all_goals omega
theorem ev_two {α : Type} {g : Nat → Option α} {r : α} (h : ∀ k, g (k + 2) = some r) : Ev g r := by
 refine ⟨2, fun k hk => ?_⟩
 obtain ⟨j, rfl⟩ := Nat.exists_eq_add_of_le' hk
 exact h j
theorem spec_arity_ev (t : Int) : Ev (fun k => spec_Arity.f k t) (arityM t : Int) := by
 refine ev_two (fun k => ?_)
 unfold spec_Arity.f spec_Arity.j0 spec_Arity.j1 arityM
 dsimp only
 by_cases h3 : t = 3
 ·subst h3; rfl
 by_cases h10 : t = 10
 ·subst h10; rfl
 by_cases h11 : t = 11
 ·subst h11; rfl
 by_cases h15 : t = 15
 ·subst h15; rfl
 by_cases h16 : t = 16
 ·subst h16; rfl
 by_cases h18 : t = 18
 ·subst h18; rfl
 by_cases h4 : t = 4
 ·subst h4; rfl
 by_cases h5 : t = 5
 ·subst h5; rfl
 by_cases h6 : t = 6
 ·subst h6; rfl
 by_cases h8 : t = 8
 ·subst h8; rfl
 by_cases h9 : t = 9
 ·subst h9; rfl
 by_cases h13 : t = 13
 ·subst h13; rfl
 by_cases h17 : t = 17
 ·subst h17; rfl
 by_cases h19 : t = 19
 ·subst h19; rfl
 by_cases h7 : t = 7
 ·subst h7; rfl
 by_cases h14 : t = 14
 ·subst h14; rfl
 simp [h3, h10, h11, h15, h16, h18, h4, h5, h6, h8, h9, h13, h17, h19, h7, h14]
theorem impl_arity_ev (t : Int) : Ev (fun k => impl_Arity.f k t) (arityM t : Int) := by
 refine ev_two (fun k => ?_)
 unfold impl_Arity.f impl_Arity.j0 impl_Arity.j1 arityM
 dsimp only
 by_cases h3 : t = 3
 ·subst h3; rfl
 by_cases h10 : t = 10
 ·subst h10; rfl
 by_cases h11 : t = 11
 ·subst h11; rfl
 by_cases h15 : t = 15
 ·subst h15; rfl
 by_cases h16 : t = 16
 ·subst h16; rfl
 by_cases h18 : t = 18
 ·subst h18; rfl
 by_cases h4 : t = 4
 ·subst h4; rfl
 by_cases h5 : t = 5
 ·subst h5; rfl
 by_cases h6 : t = 6
 ·subst h6; rfl
 by_cases h8 : t = 8
 ·subst h8; rfl
 by_cases h9 : t = 9
 ·subst h9; rfl
 by_cases h13 : t = 13
 ·subst h13; rfl
 by_cases h17 : t = 17
 ·subst h17; rfl
 by_cases h19 : t = 19
 ·subst h19; rfl
 by_cases h7 : t = 7
 ·subst h7; rfl
 by_cases h14 : t = 14
 ·subst h14; rfl
 simp [h3, h10, h11, h15, h16, h18, h4, h5, h6, h8, h9, h13, h17, h19, h7, h14]
def namesM (t : Int) : Nat := if t = 1 ∨ t = 3 ∨ t = 5 ∨ t = 19 then 1 else if t = 6 ∨ t = 14 then 2 else 0
theorem spec_names_ev (t : Int) : Ev (fun k => spec_l3Names.f k t) (namesM t : Int) := by
 refine ev_two (fun k => ?_)
 unfold spec_l3Names.f spec_l3Names.j0 namesM
 dsimp only
 by_cases h1 : t = 1
 ·subst h1; rfl
 by_cases h3 : t = 3
 ·subst h3; rfl
 by_cases h5 : t = 5
 ·subst h5; rfl
 by_cases h19 : t = 19
 ·subst h19; rfl
 by_cases h6 : t = 6
 ·subst h6; rfl
 by_cases h14 : t = 14
 ·subst h14; rfl
 simp [h1, h3, h5, h19, h6, h14]
theorem impl_names_ev (t : Int) : Ev (fun k => impl_namesOf.f k t) (namesM t : Int) := by
 refine ev_two (fun k => ?_)
 unfold impl_namesOf.f impl_namesOf.j0 namesM
 dsimp only
 by_cases h1 : t = 1
 ·subst h1; rfl
 by_cases h3 : t = 3
 ·subst h3; rfl
 by_cases h5 : t = 5
 ·subst h5; rfl
 by_cases h19 : t = 19
 ·subst h19; rfl
 by_cases h6 : t = 6
 ·subst h6; rfl
 by_cases h14 : t = 14
 ·subst h14; rfl
 simp [h1, h3, h5, h19, h6, h14]
def kidsM (n : S48) : List Int := ([n.f1, n.f2, n.f3] : List Int).take (arityM n.f0)
theorem kidsM_length (n : S48) : (kidsM n).length = arityM n.f0 := by
 unfold kidsM
 rw [List.length_take]
 exact Nat.min_eq_left (arityM_le n.f0)
theorem spec_kids_ev (n : S48) : Ev (fun k => spec_Kids.f k n.f0 n.f1 n.f2 n.f3 n.f4 n.f5 n.f6) (kidsM n) := by
 have := arityM_le n.f0
 unfold spec_Kids.f
 refine evB ?_
 refine Ev.bind (spec_arity_ev n.f0) ?_
 refine evP (by omega) ?_
 refine evP (by simp; omega) ?_
 exact Ev.now _
theorem impl_kids_ev (n : S48) : Ev (fun k => impl_Kids.f k n.f0 n.f1 n.f2 n.f3 n.f4 n.f5 n.f6) (kidsM n) := by
 have := arityM_le n.f0
 unfold impl_Kids.f
 refine evB ?_
 refine Ev.bind (impl_arity_ev n.f0) ?_
 refine Ev.bind (impl_arity_ev n.f0) ?_
 refine evP (by omega) ?_
 refine evP (by omega) ?_
 refine evP (by simp; omega) ?_
 exact Ev.now _
def valM (t v : Int) : Bool := if t = 2 then decide (v ≥ 0) && decide (v ≤ 65535) else if t = 8 then decide (v ≥ 0) && decide (v ≤ 3) else v == 0
/-- What is beyond the arity is zero. -/
def restM (n : S48) : Bool := (decide (arityM n.f0 < 1) && n.f1 != 0) || (decide (arityM n.f0 < 2) && n.f2 != 0) || (decide (arityM n.f0 < 3) && n.f3 != 0)
theorem spec_j1 (n : S48) (b : Bool) : Ev (fun k => spec_l3Fields.j1 k b n.f0 n.f1 n.f2 n.f3 n.f4 n.f5 n.f6) (!b && valM n.f0 n.f4) := by
 refine Ev.step (fun k => by rw [spec_l3Fields.j1]) ?_
 cases b with
 | true => exact evP rfl (Ev.now _)
 | false =>
  refine evN (by simp) ?_
  unfold valM
  by_cases h2 : n.f0 = 2
  ·refine evP h2 (evS (spec_in_eq _ _ _) ?_)
   rw [if_pos h2]; exact Ev.now _
  ·refine evN h2 ?_
   rw [if_neg h2]
   by_cases h8 : n.f0 = 8
   ·refine evP h8 (evS (spec_in_eq _ _ _) ?_)
    rw [if_pos h8]; exact Ev.now _
   ·refine evN h8 ?_
    rw [if_neg h8]; exact Ev.now _
theorem size_toList (s : ByteArray) : s.toList = ([] : List UInt8) ↔ s.size = 0 := by
 rw [ByteArray.toList_eq, ← data_length s]
 cases s.data.toList <;> simp
def fieldsM (n : S48) (a b : Bool) : Bool :=
 decide (n.f0 ≥ 1) && decide (n.f0 ≤ 19) && !restM n && (if namesM n.f0 > 0 then a else decide (n.f5.size = 0)) && (if namesM n.f0 > 1 then b else decide (n.f6.size = 0)) && valM n.f0 n.f4
theorem spec_j0_tail (n : S48) (b : Bool) (hb : Ev (fun k => spec_l3Name.f k n.f6) b) (hb0 : n.f6.size = 0 → b = false) :
  Ev (fun k => (spec_l3Name.f k n.f6).bind fun t => (if ((decide ((namesM n.f0 : Int) > 1)) != t) = true then (spec_l3Fields.j1 k true n.f0 n.f1 n.f2 n.f3 n.f4 n.f5 n.f6) else (if (namesM n.f0 : Int) < 2 then (spec_l3Fields.j1 k (n.f6.toList != ([] : List UInt8)) n.f0 n.f1 n.f2 n.f3 n.f4 n.f5 n.f6) else (spec_l3Fields.j1 k false n.f0 n.f1 n.f2 n.f3 n.f4 n.f5 n.f6))))
   ((if namesM n.f0 > 1 then b else decide (n.f6.size = 0)) && valM n.f0 n.f4) := by
 refine Ev.bind hb ?_
 by_cases c : namesM n.f0 > 1
 ·rw [if_pos c]
  have c' : decide ((namesM n.f0 : Int) > 1) = true := decide_eq_true (by omega)
  cases b with
  | true =>
   refine evN (by rw [c']; decide) ?_
   refine evN (by omega) ?_
   exact spec_j1 n false
  | false =>
   refine evP (by rw [c']; decide) ?_
   exact spec_j1 n true
 ·rw [if_neg c]
  have c' : decide ((namesM n.f0 : Int) > 1) = false := decide_eq_false (by omega)
  cases b with
  | true =>
   refine evP (by rw [c']; decide) ?_
   rw [decide_eq_false (fun h => by have := hb0 h; cases this)]
   exact spec_j1 n true
  | false =>
   refine evN (by rw [c']; decide) ?_
   refine evP (by omega) ?_
   have e : (n.f6.toList != ([] : List UInt8)) = !decide (n.f6.size = 0) := by
    by_cases h : n.f6.size = 0
    ·rw [(size_toList _).2 h, decide_eq_true h]; rfl
    ·rw [decide_eq_false h]
     have := fun x => h ((size_toList _).1 x)
     simpa using this
   have := spec_j1 n (n.f6.toList != ([] : List UInt8))
   rw [e] at this ⊢
   rw [Bool.not_not] at this
   exact this
theorem spec_j0 (n : S48) (a b x : Bool) (ha : Ev (fun k => spec_l3Name.f k n.f5) a) (ha0 : n.f5.size = 0 → a = false) (hb : Ev (fun k => spec_l3Name.f k n.f6) b) (hb0 : n.f6.size = 0 → b = false) :
  Ev (fun k => spec_l3Fields.j0 k x n.f0 n.f1 n.f2 n.f3 n.f4 n.f5 n.f6) (!x && ((if namesM n.f0 > 0 then a else decide (n.f5.size = 0)) && ((if namesM n.f0 > 1 then b else decide (n.f6.size = 0)) && valM n.f0 n.f4))) := by
 refine Ev.step (fun k => by rw [spec_l3Fields.j0]) ?_
 cases x with
 | true => exact evP rfl (Ev.now _)
 | false =>
  refine evN (by simp) ?_
  refine Ev.bind (spec_names_ev n.f0) ?_
  refine Ev.bind ha ?_
  have tl := spec_j0_tail n b hb hb0
  by_cases c : namesM n.f0 > 0
  ·rw [if_pos c]
   have c' : decide ((namesM n.f0 : Int) > 0) = true := decide_eq_true (by omega)
   cases a with
   | true =>
    refine evN (by rw [c']; decide) ?_
    refine evN (by omega) ?_
    exact tl
   | false =>
    refine evP (by rw [c']; decide) ?_
    exact spec_j1 n true
  ·rw [if_neg c]
   have c' : decide ((namesM n.f0 : Int) > 0) = false := decide_eq_false (by omega)
   cases a with
   | true =>
    refine evP (by rw [c']; decide) ?_
    rw [decide_eq_false (fun h => by have := ha0 h; cases this)]
    exact spec_j1 n true
   | false =>
    refine evN (by rw [c']; decide) ?_
    refine evP (by omega) ?_
    by_cases h : n.f5.size = 0
    ·refine evP ((size_toList _).2 h) ?_
     rw [decide_eq_true h]
     exact tl
    ·refine evN (fun x => h ((size_toList _).1 x)) ?_
     rw [decide_eq_false h]
     exact spec_j1 n true
theorem spec_fields_ev (n : S48) (a b : Bool) (ha : Ev (fun k => spec_l3Name.f k n.f5) a) (ha0 : n.f5.size = 0 → a = false) (hb : Ev (fun k => spec_l3Name.f k n.f6) b) (hb0 : n.f6.size = 0 → b = false) :
  Ev (fun k => spec_l3Fields.f k n.f0 n.f1 n.f2 n.f3 n.f4 n.f5 n.f6) (fieldsM n a b) := by
 have j := spec_j0 n a b
 unfold spec_l3Fields.f fieldsM
 refine evS (spec_in_eq _ _ _) ?_
 by_cases hin : (decide (n.f0 ≥ 1) && decide (n.f0 ≤ 19)) = true
 ·refine evP hin ?_
  rw [hin, Bool.true_and, Bool.and_assoc, Bool.and_assoc]
  refine Ev.bind (spec_arity_ev n.f0) ?_
  have y : Ev (fun k => if (arityM n.f0 : Int) < 3 then spec_l3Fields.j0 k (n.f3 != 0) n.f0 n.f1 n.f2 n.f3 n.f4 n.f5 n.f6 else spec_l3Fields.j0 k false n.f0 n.f1 n.f2 n.f3 n.f4 n.f5 n.f6)
    (!(decide (arityM n.f0 < 3) && n.f3 != 0) && ((if namesM n.f0 > 0 then a else decide (n.f5.size = 0)) && ((if namesM n.f0 > 1 then b else decide (n.f6.size = 0)) && valM n.f0 n.f4))) := by
   by_cases c : arityM n.f0 < 3
   ·refine evP (by omega) ?_
    rw [decide_eq_true c, Bool.true_and]; exact j _ ha ha0 hb hb0
   ·refine evN (by omega) ?_
    rw [decide_eq_false c, Bool.false_and]; exact j _ ha ha0 hb hb0
  have z : Ev (fun k => if (arityM n.f0 : Int) < 2 then (if n.f2 = 0 then (if (arityM n.f0 : Int) < 3 then spec_l3Fields.j0 k (n.f3 != 0) n.f0 n.f1 n.f2 n.f3 n.f4 n.f5 n.f6 else spec_l3Fields.j0 k false n.f0 n.f1 n.f2 n.f3 n.f4 n.f5 n.f6) else spec_l3Fields.j0 k true n.f0 n.f1 n.f2 n.f3 n.f4 n.f5 n.f6) else (if (arityM n.f0 : Int) < 3 then spec_l3Fields.j0 k (n.f3 != 0) n.f0 n.f1 n.f2 n.f3 n.f4 n.f5 n.f6 else spec_l3Fields.j0 k false n.f0 n.f1 n.f2 n.f3 n.f4 n.f5 n.f6))
    (!((decide (arityM n.f0 < 2) && n.f2 != 0) || (decide (arityM n.f0 < 3) && n.f3 != 0)) && ((if namesM n.f0 > 0 then a else decide (n.f5.size = 0)) && ((if namesM n.f0 > 1 then b else decide (n.f6.size = 0)) && valM n.f0 n.f4))) := by
   by_cases c : arityM n.f0 < 2
   ·refine evP (by omega) ?_
    rw [decide_eq_true c, Bool.true_and]
    by_cases h : n.f2 = 0
    ·refine evP h ?_
     rw [show (n.f2 != 0) = false by simp [h], Bool.false_or]; exact y
    ·refine evN h ?_
     rw [show (n.f2 != 0) = true by simp [h], Bool.true_or]; exact j _ ha ha0 hb hb0
   ·refine evN (by omega) ?_
    rw [decide_eq_false c, Bool.false_and, Bool.false_or]; exact y
  have r : restM n = ((decide (arityM n.f0 < 1) && n.f1 != 0) || ((decide (arityM n.f0 < 2) && n.f2 != 0) || (decide (arityM n.f0 < 3) && n.f3 != 0))) := by
   unfold restM; rw [Bool.or_assoc]
  rw [r]
  by_cases c : arityM n.f0 < 1
  ·refine evP (by omega) ?_
   rw [decide_eq_true c, Bool.true_and]
   by_cases h : n.f1 = 0
   ·refine evP h ?_
    rw [show (n.f1 != 0) = false by simp [h], Bool.false_or]; exact z
   ·refine evN h ?_
    rw [show (n.f1 != 0) = true by simp [h], Bool.true_or]; exact j _ ha ha0 hb hb0
  ·refine evN (by omega) ?_
   rw [decide_eq_false c, Bool.false_and, Bool.false_or]; exact z
 ·refine evN hin ?_
  rw [Bool.not_eq_true] at hin
  rw [hin]; exact Ev.now _
theorem impl_fits_ev (s : ByteArray) (a u : Bool) (ha : Ev (fun k => impl_isName.f k s) a) : Ev (fun k => impl_nameFits.f k s u) (if u = true then a else decide (s.size = 0)) := by
 unfold impl_nameFits.f
 cases u with
 | true => exact evP rfl (Ev.bind ha (Ev.now _))
 | false =>
  refine evN (by simp) ?_
  rw [if_neg (by simp)]
  have e : (s.toList == ([] : List UInt8)) = decide (s.size = 0) := by
   by_cases h : s.size = 0
   ·rw [(size_toList _).2 h, decide_eq_true h]; rfl
   ·rw [decide_eq_false h]
    have := fun x => h ((size_toList _).1 x)
    simpa using this
  rw [e]; exact Ev.now _
theorem impl_rest_ev (n : S48) : Ev (fun k => impl_fieldsOk.l0 k [n.f1, n.f2, n.f3] ((([n.f1, n.f2, n.f3] : List Int).length : Int)) 0 n.f0 n.f1 n.f2 n.f3 n.f4 n.f5 n.f6) (!restM n && valM n.f0 n.f4) := by
 have e3 : Ev (fun k => impl_fieldsOk.l0 k [n.f1, n.f2, n.f3] ((([n.f1, n.f2, n.f3] : List Int).length : Int)) 3 n.f0 n.f1 n.f2 n.f3 n.f4 n.f5 n.f6) (valM n.f0 n.f4) := by
  refine Ev.step (fun k => by rw [impl_fieldsOk.l0]) ?_
  refine evN (by simp) ?_
  unfold valM
  by_cases h2 : n.f0 = 2
  ·refine evP h2 (evS (impl_in_eq _ _ _) ?_)
   rw [if_pos h2]; exact Ev.now _
  ·refine evN h2 ?_
   rw [if_neg h2]
   by_cases h8 : n.f0 = 8
   ·refine evP h8 (evS (impl_in_eq _ _ _) ?_)
    rw [if_pos h8]; exact Ev.now _
   ·refine evN h8 ?_
    rw [if_neg h8]; exact Ev.now _
 have step : ∀ (i : Nat) (x : Int) (r : Bool), i < 3 → rd [n.f1, n.f2, n.f3] (i : Int) = x → Ev (fun k => impl_fieldsOk.l0 k [n.f1, n.f2, n.f3] ((([n.f1, n.f2, n.f3] : List Int).length : Int)) ((i + 1 : Nat) : Int) n.f0 n.f1 n.f2 n.f3 n.f4 n.f5 n.f6) r →
   Ev (fun k => impl_fieldsOk.l0 k [n.f1, n.f2, n.f3] ((([n.f1, n.f2, n.f3] : List Int).length : Int)) (i : Int) n.f0 n.f1 n.f2 n.f3 n.f4 n.f5 n.f6) (!(decide (arityM n.f0 < i + 1) && x != 0) && r) := by
  intro i x r hi hx hr
  have w : wrap64 ((i : Int) + 1) = ((i + 1 : Nat) : Int) := w64 (by omega) (by omega)
  refine Ev.step (fun k => by rw [impl_fieldsOk.l0]) ?_
  refine evP (by simp; omega) ?_
  refine evP (by omega) ?_
  refine evP (by simp; omega) ?_
  refine Ev.bind (impl_arity_ev n.f0) ?_
  rw [hx, w]
  by_cases c : arityM n.f0 < i + 1
  ·refine evP (by omega) ?_
   rw [decide_eq_true c, Bool.true_and]
   by_cases h : x = 0
   ·refine evP h ?_
    rw [show (x != 0) = false by simp [h]]; exact hr
   ·refine evN h ?_
    rw [show (x != 0) = true by simp [h]]; exact Ev.now _
  ·refine evN (by omega) ?_
   rw [decide_eq_false c]; exact hr
 have e2 := step 2 n.f3 _ (by omega) rfl e3
 have e1 := step 1 n.f2 _ (by omega) rfl e2
 have e0 := step 0 n.f1 _ (by omega) rfl e1
 have : (!restM n && valM n.f0 n.f4) = (!(decide (arityM n.f0 < 0 + 1) && n.f1 != 0) && (!(decide (arityM n.f0 < 1 + 1) && n.f2 != 0) && (!(decide (arityM n.f0 < 2 + 1) && n.f3 != 0) && valM n.f0 n.f4))) := by
  unfold restM
  cases valM n.f0 n.f4 <;> simp [Bool.and_assoc]
 rw [this]; exact e0
theorem impl_fields_ev (n : S48) (a b : Bool) (ha : Ev (fun k => impl_isName.f k n.f5) a) (hb : Ev (fun k => impl_isName.f k n.f6) b) :
  Ev (fun k => impl_fieldsOk.f k n.f0 n.f1 n.f2 n.f3 n.f4 n.f5 n.f6) (fieldsM n a b) := by
 have jt : Ev (fun k => impl_fieldsOk.j0 k true n.f0 n.f1 n.f2 n.f3 n.f4 n.f5 n.f6) false := Ev.step (fun k => by rw [impl_fieldsOk.j0]) (evP rfl (Ev.now _))
 have jf : Ev (fun k => impl_fieldsOk.j0 k false n.f0 n.f1 n.f2 n.f3 n.f4 n.f5 n.f6) (!restM n && valM n.f0 n.f4) := by
  refine Ev.step (fun k => by rw [impl_fieldsOk.j0]) ?_
  refine evN (by simp) ?_
  exact evB (f := fun k y => impl_fieldsOk.l0 k y (y.length : Int) 0 n.f0 n.f1 n.f2 n.f3 n.f4 n.f5 n.f6) (impl_rest_ev n)
 unfold impl_fieldsOk.f fieldsM
 refine evS (impl_in_eq _ _ _) ?_
 by_cases hin : (decide (n.f0 ≥ 1) && decide (n.f0 ≤ 19)) = true
 ·refine evP hin ?_
  rw [hin, Bool.true_and]
  refine Ev.bind (impl_names_ev n.f0) ?_
  refine Ev.bind (impl_fits_ev n.f5 a _ ha) ?_
  have i0 : (if decide ((namesM n.f0 : Int) > 0) = true then a else decide (n.f5.size = 0)) = (if namesM n.f0 > 0 then a else decide (n.f5.size = 0)) := by
   by_cases c : namesM n.f0 > 0
   ·rw [if_pos (decide_eq_true (by omega)), if_pos c]
   ·rw [if_neg (fun h => c (by have := of_decide_eq_true h; omega)), if_neg c]
  have i1 : (if decide ((namesM n.f0 : Int) > 1) = true then b else decide (n.f6.size = 0)) = (if namesM n.f0 > 1 then b else decide (n.f6.size = 0)) := by
   by_cases c : namesM n.f0 > 1
   ·rw [if_pos (decide_eq_true (by omega)), if_pos c]
   ·rw [if_neg (fun h => c (by have := of_decide_eq_true h; omega)), if_neg c]
  rw [i0]
  generalize (if namesM n.f0 > 0 then a else decide (n.f5.size = 0)) = A
  cases A with
  | false =>
   refine evN (by simp) ?_
   rw [Bool.and_false]; exact jt
  | true =>
   refine evP rfl ?_
   refine Ev.bind (impl_names_ev n.f0) ?_
   refine Ev.bind (impl_fits_ev n.f6 b _ hb) ?_
   rw [i1]
   generalize (if namesM n.f0 > 1 then b else decide (n.f6.size = 0)) = B
   cases B with
   | false => rw [Bool.and_false]; exact jt
   | true => rw [Bool.and_true, Bool.and_true]; exact jf
 ·refine evN hin ?_
  rw [Bool.not_eq_true] at hin
  rw [hin]; exact jt
theorem fields_ev (n : S48) (h5 : n.f5.size ≤ 9223372036854775807) (h6 : n.f6.size ≤ 9223372036854775807) :
  ∃ r, Ev (fun k => spec_l3Fields.f k n.f0 n.f1 n.f2 n.f3 n.f4 n.f5 n.f6) r ∧ Ev (fun k => impl_fieldsOk.f k n.f0 n.f1 n.f2 n.f3 n.f4 n.f5 n.f6) r ∧ (r = true → restM n = false) := by
 obtain ⟨a, a1, a2, a3⟩ := name_ev n.f5 h5
 obtain ⟨b, b1, b2, b3⟩ := name_ev n.f6 h6
 refine ⟨_, spec_fields_ev n a b a1 a3 b1 b3, impl_fields_ev n a b a2 b2, fun h => ?_⟩
 unfold fieldsM at h
 cases c : restM n with
 | false => rfl
 | true => rw [c] at h; simp at h

/-! NodesOk: both answer alike; and where they answer true, the nodes lie as a tree: what a node's kids cover are stretches beside one another, up to the node. -/
def Down (l : List S48) : Prop := ∀ (j : Nat), j < l.length → ∀ x ∈ kidsM (rd_T48 l (j : Int)), 0 ≤ x ∧ x < (j : Int)
/-- The kids of node j tile what lies from its start up to it. -/
def TileAt (K : List Int) (st : List Int) (s j : Int) : Prop :=
 (∀ x ∈ K, 0 ≤ x ∧ x < j ∧ s ≤ rd st x ∧ rd st x ≤ x) ∧ (∀ i : Int, s ≤ i → i < j → ∃ y ∈ K, rd st y ≤ i ∧ i ≤ y) ∧ (∀ x ∈ K, ∀ y ∈ K, x = y ∨ x < rd st y ∨ y < rd st x) ∧ (K.map fun x => x - rd st x + 1).sum = j - s
def Tiled (l : List S48) (st : List Int) : Prop := ∀ (j : Nat), j < l.length → TileAt (kidsM (rd_T48 l (j : Int))) st (rd st (j : Int)) (j : Int)
theorem rd_append_left (a b : List Int) (x : Int) (h0 : 0 ≤ x) (h : x < (a.length : Int)) : rd (a ++ b) x = rd a x := by
 show (a ++ b).getD x.toNat 0 = a.getD x.toNat 0
 rw [List.getD_eq_getElem?_getD, List.getD_eq_getElem?_getD, List.getElem?_append_left (by omega)]
theorem rd_append_last (a b : List Int) (x : Int) (y : Int) (h : x = (a.length : Int)) : rd (a ++ y :: b) x = y := by
 show (a ++ y :: b).getD x.toNat 0 = y
 rw [h, Int.toNat_natCast, List.getD_eq_getElem?_getD, List.getElem?_append_right (Nat.le_refl _), Nat.sub_self]; rfl
theorem tileAt_append {K st : List Int} {s j : Int} (b : List Int) (hj : j ≤ (st.length : Int)) (h : TileAt K st s j) : TileAt K (st ++ b) s j := by
 obtain ⟨h1, h2, h3, h5⟩ := h
 have e : ∀ x ∈ K, rd (st ++ b) x = rd st x := fun x hx => rd_append_left _ _ _ (h1 x hx).1 (by have := (h1 x hx).2.1; omega)
 refine ⟨fun x hx => by rw [e x hx]; exact h1 x hx, fun i hi hij => ?_, fun x hx y hy => by rw [e x hx, e y hy]; exact h3 x hx y hy, ?_⟩
 ·obtain ⟨y, hy, h4⟩ := h2 i hi hij
  exact ⟨y, hy, by rw [e y hy]; exact h4⟩
 ·rw [← h5]; exact congrArg List.sum (List.map_congr_left fun x hx => by rw [e x hx])
theorem tileAt_nil (st : List Int) (j : Int) : TileAt [] st j j := ⟨fun x h => absurd h List.not_mem_nil, fun i h1 h2 => by omega, fun x h => absurd h List.not_mem_nil, by show (0 : Int) = j - j; omega⟩
theorem tileAt_cons {K st : List Int} {x j : Int} (h : TileAt K st x j) (hx0 : 0 ≤ x - 1) (hxj : x ≤ j) (hst : rd st (x - 1) ≤ x - 1) : TileAt ((x - 1) :: K) st (rd st (x - 1)) j := by
 obtain ⟨h1, h2, h3, h5⟩ := h
 refine ⟨fun y hy => ?_, fun i hi hij => ?_, fun y hy z hz => ?_, by rw [List.map_cons, List.sum_cons, h5]; omega⟩
 ·rcases List.mem_cons.1 hy with rfl | hy
  ·exact ⟨hx0, by omega, Int.le_refl _, hst⟩
  ·have := h1 y hy
   exact ⟨this.1, this.2.1, by omega, this.2.2.2⟩
 ·by_cases c : i < x
  ·exact ⟨x - 1, List.mem_cons_self, hi, by omega⟩
  ·obtain ⟨y, hy, h4⟩ := h2 i (by omega) hij
   exact ⟨y, List.mem_cons_of_mem _ hy, h4⟩
 ·rcases List.mem_cons.1 hy with rfl | hy <;> rcases List.mem_cons.1 hz with rfl | hz
  ·exact .inl rfl
  ·have := h1 z hz; right; left; omega
  ·have := h1 y hy; right; right; omega
  ·exact h3 y hy z hz
theorem nodesOk_tiled (l : List S48) (hq : ∀ x ∈ l, x.f5.size ≤ 9223372036854775807 ∧ x.f6.size ≤ 9223372036854775807) :
  ∃ r, Ev (fun k => spec_NodesOk.f k l) r ∧ Ev (fun k => impl_NodesOk.f k l) r ∧ (r = true → 1 ≤ l.length ∧ l.length ≤ 150 ∧ (∃ st, Tiled l st ∧ ∀ j : Nat, j < l.length → 0 ≤ rd st (j : Int) ∧ rd st (j : Int) ≤ (j : Int)) ∧ ∀ j : Nat, j < l.length → restM (rd_T48 l (j : Int)) = false) := by
 by_cases hn : 1 ≤ l.length ∧ l.length ≤ 150
 rotate_left
 ·refine ⟨false, ?_, ?_, fun h => by cases h⟩
  ·unfold spec_NodesOk.f
   refine evS (spec_in_eq _ _ _) (evN ?_ (Ev.now _))
   simp; omega
  ·unfold impl_NodesOk.f
   refine evS (impl_in_eq _ _ _) (evN ?_ (Ev.now _))
   simp; omega
 obtain ⟨n1, n2⟩ := hn
 -- what the walk over the nodes says, at node i with the starts of the nodes before
 have outer : ∀ (d i : Nat) (st : List Int), i + d = l.length → st.length = i → (∀ j : Nat, j < i → 0 ≤ rd st (j : Int) ∧ rd st (j : Int) ≤ (j : Int)) →
   (∀ j : Nat, j < i → TileAt (kidsM (rd_T48 l (j : Int))) st (rd st (j : Int)) (j : Int)) → (∀ j : Nat, j < i → restM (rd_T48 l (j : Int)) = false) →
   ∃ (r : Bool) (q : List Int × Bool), Ev (fun k => spec_l3Starts.l0 k l st (i : Int)) q ∧ Ev (fun k => impl_NodesOk.l0 k l (st ++ List.replicate d 0) l (l.length : Int) (i : Int)) r ∧
    ((q.2 = false ∧ r = false) ∨ (q.2 = true ∧ q.1.length = l.length ∧ r = (rd q.1 ((l.length : Int) - 1) == 0) ∧ (∃ st, Tiled l st ∧ ∀ j : Nat, j < l.length → 0 ≤ rd st (j : Int) ∧ rd st (j : Int) ≤ (j : Int)) ∧ ∀ j : Nat, j < l.length → restM (rd_T48 l (j : Int)) = false)) := by
  intro d
  induction d with
  | zero =>
   intro i st h hs hst hk hrs
   have hw : wrap64 ((l.length : Int) - 1) = (l.length : Int) - 1 := w64 (by omega) (by omega)
   refine ⟨rd st ((l.length : Int) - 1) == 0, (st, true), Ev.step (fun k => by rw [spec_l3Starts.l0]) ?_, Ev.step (fun k => by rw [impl_NodesOk.l0]) ?_, .inr ⟨rfl, show st.length = l.length by omega, rfl, ⟨st, ?_, fun j hj => hst j (by omega)⟩, fun j hj => hrs j (by omega)⟩⟩
   ·exact evN (by omega) (Ev.now _)
   ·refine evN (by omega) ?_
    rw [List.replicate_zero, List.append_nil, hw]
    refine evP (by omega) ?_
    refine evP (by omega) ?_
    exact Ev.now _
   ·intro j hj; exact hk j (by omega)
  | succ d ih =>
   intro i st h hs hst hk hrs
   have hi : i < l.length := by omega
   have wi : wrap64 ((i : Int) + 1) = ((i + 1 : Nat) : Int) := w64 (by omega) (by omega)
   have hmem : rd_T48 l (i : Int) ∈ l := by
    show l.getD i z48 ∈ l
    rw [List.getD_eq_getElem?_getD, List.getElem?_eq_getElem hi]; exact List.getElem_mem hi
   obtain ⟨fr, f1, f2, f3⟩ := fields_ev (rd_T48 l (i : Int)) (hq _ hmem).1 (hq _ hmem).2
   have lenx : (i : Int) < (l.length : Int) := by omega
   have lst : (i : Int) < ((st ++ List.replicate (d + 1) 0).length : Int) := by rw [List.length_append, List.length_replicate]; omega
   -- what the walk back over the node's kids says
   have inner : restM (rd_T48 l (i : Int)) = false → ∀ (m : Nat) (x : Int), m ≤ (kidsM (rd_T48 l (i : Int))).length → 0 ≤ x → x ≤ (i : Int) → TileAt ((kidsM (rd_T48 l (i : Int))).drop m) st x (i : Int) →
     ∃ (r : Bool) (q : List Int × Bool), Ev (fun k => spec_l3Starts.l1 k l st (i : Int) x (kidsM (rd_T48 l (i : Int))) ((m : Int) - 1)) q ∧ Ev (fun k => impl_NodesOk.l1 k l (st ++ List.replicate (d + 1) 0) (i : Int) (kidsM (rd_T48 l (i : Int))) x ((m : Int) - 1) l (l.length : Int) (i : Int)) r ∧
      ((q.2 = false ∧ r = false) ∨ (q.2 = true ∧ q.1.length = l.length ∧ r = (rd q.1 ((l.length : Int) - 1) == 0) ∧ (∃ st, Tiled l st ∧ ∀ j : Nat, j < l.length → 0 ≤ rd st (j : Int) ∧ rd st (j : Int) ≤ (j : Int)) ∧ ∀ j : Nat, j < l.length → restM (rd_T48 l (j : Int)) = false)) := by
    intro hfr m
    induction m with
    | zero =>
     intro x hm x0 x1 hy
     obtain ⟨r, q, e1, e2, e3⟩ := ih (i + 1) (st ++ [x]) (by omega) (by rw [List.length_append, hs]; rfl) (by
      intro j hj
      by_cases c : j < i
      ·rw [rd_append_left _ _ _ (by omega) (by omega)]; exact hst j c
      ·have : j = i := by omega
       subst this
       rw [rd_append_last _ _ _ _ (by omega)]; exact ⟨x0, x1⟩) (by
      intro j hj
      by_cases c : j < i
      ·rw [rd_append_left _ _ _ (by omega) (by omega)]
       exact tileAt_append _ (by omega) (hk j c)
      ·have : j = i := by omega
       subst this
       rw [rd_append_last _ _ _ _ (by omega)]
       rw [List.drop_zero] at hy
       exact tileAt_append _ (by omega) hy) (fun j hj => by
      by_cases c : j < i
      ·exact hrs j c
      ·have : j = i := by omega
       rw [this]; exact hfr)
     have es : (st ++ List.replicate (d + 1) 0).set (i : Int).toNat x = (st ++ [x]) ++ List.replicate d 0 := by
      rw [List.replicate_succ, Int.toNat_natCast, set_mid _ _ _ _ _ hs]
     refine ⟨r, q, Ev.step (fun k => by rw [spec_l3Starts.l1]) ?_, Ev.step (fun k => by rw [impl_NodesOk.l1]) ?_, e3⟩
     ·refine evN (by omega) ?_
      refine evP (by omega) ?_
      rw [wi]; exact e1
     ·refine evN (by omega) ?_
      refine evP (by omega) ?_
      refine evP lst ?_
      rw [wi, es]; exact e2
    | succ m ihm =>
     intro x hm x0 x1 hy
     have wm : ((m + 1 : Nat) : Int) - 1 = (m : Int) := by omega
     have wm1 : wrap64 ((m : Int) - 1) = (m : Int) - 1 := w64 (by have := arityM_le (rd_T48 l (i : Int)).f0; rw [kidsM_length] at hm; omega) (by have := arityM_le (rd_T48 l (i : Int)).f0; rw [kidsM_length] at hm; omega)
     have wx : wrap64 (x - 1) = x - 1 := w64 (by omega) (by omega)
     rw [wm]
     by_cases c0 : x = 0
     ·refine ⟨false, (([] : List Int), false), Ev.step (fun k => by rw [spec_l3Starts.l1]) ?_, Ev.step (fun k => by rw [impl_NodesOk.l1]) ?_, .inl ⟨rfl, rfl⟩⟩
      ·refine evP (by omega) ?_
       refine evP (by omega) ?_
       refine evP (by omega) ?_
       rw [wx]
       refine evI (fun c => ?_) (fun _ => Ev.now _)
       exact evP (by omega) (Ev.now _)
      ·refine evP (by omega) ?_
       exact evP c0 (Ev.now _)
     by_cases c1 : rd (kidsM (rd_T48 l (i : Int))) (m : Int) = x - 1
     rotate_left
     ·refine ⟨false, (([] : List Int), false), Ev.step (fun k => by rw [spec_l3Starts.l1]) ?_, Ev.step (fun k => by rw [impl_NodesOk.l1]) ?_, .inl ⟨rfl, rfl⟩⟩
      ·refine evP (by omega) ?_
       refine evP (by omega) ?_
       refine evP (by omega) ?_
       rw [wx]
       exact evN c1 (Ev.now _)
      ·refine evP (by omega) ?_
       refine evN c0 ?_
       refine evP (by omega) ?_
       refine evP (by omega) ?_
       rw [wx]
       exact evN c1 (Ev.now _)
     have hx := hst (x - 1).toNat (by omega)
     have hxn : (((x - 1).toNat : Nat) : Int) = x - 1 := by omega
     rw [hxn] at hx
     have hd : (kidsM (rd_T48 l (i : Int))).drop m = rd (kidsM (rd_T48 l (i : Int))) (m : Int) :: (kidsM (rd_T48 l (i : Int))).drop (m + 1) := rd_cons_drop _ m (by omega)
     obtain ⟨r, q, e1, e2, e3⟩ := ihm (rd st (x - 1)) (by omega) hx.1 (by omega) (by
      rw [hd, c1]
      exact tileAt_cons hy (by omega) x1 (by omega))
     refine ⟨r, q, Ev.step (fun k => by rw [spec_l3Starts.l1]) ?_, Ev.step (fun k => by rw [impl_NodesOk.l1]) ?_, e3⟩
     ·refine evP (by omega) ?_
      refine evP (by omega) ?_
      refine evP (by omega) ?_
      rw [wx, wm1, c1]
      refine evP rfl ?_
      refine evN (by omega) ?_
      refine evP (by omega) ?_
      refine evP (by omega) ?_
      exact e1
     ·refine evP (by omega) ?_
      refine evN c0 ?_
      refine evP (by omega) ?_
      refine evP (by omega) ?_
      rw [wx, wm1]
      refine evP c1 ?_
      refine evP (by omega) ?_
      refine evP (by rw [List.length_append]; omega) ?_
      rw [rd_append_left _ _ _ (by omega) (by omega)]
      exact e2
   cases fr with
   | false =>
    refine ⟨false, (([] : List Int), false), Ev.step (fun k => by rw [spec_l3Starts.l0]) ?_, Ev.step (fun k => by rw [impl_NodesOk.l0]) ?_, .inl ⟨rfl, rfl⟩⟩
    ·refine evP lenx ?_
     refine evP (by omega) ?_
     refine Ev.bind f1 ?_
     exact evN (by simp) (Ev.now _)
    ·refine evP lenx ?_
     refine evP (by omega) ?_
     refine evP lenx ?_
     refine Ev.bind f2 ?_
     exact evN (by simp) (Ev.now _)
   | true =>
    have hkl := kidsM_length (rd_T48 l (i : Int))
    have hka := arityM_le (rd_T48 l (i : Int)).f0
    obtain ⟨r, q, e1, e2, e3⟩ := inner (f3 rfl) (kidsM (rd_T48 l (i : Int))).length (i : Int) (Nat.le_refl _) (by omega) (Int.le_refl _) (by rw [List.drop_length]; exact tileAt_nil _ _)
    have wk : wrap64 (((kidsM (rd_T48 l (i : Int))).length : Int) - 1) = ((kidsM (rd_T48 l (i : Int))).length : Int) - 1 := w64 (by omega) (by omega)
    refine ⟨r, q, Ev.step (fun k => by rw [spec_l3Starts.l0]) ?_, Ev.step (fun k => by rw [impl_NodesOk.l0]) ?_, e3⟩
    ·refine evP lenx ?_
     refine evP (by omega) ?_
     refine Ev.bind f1 ?_
     refine evP rfl ?_
     refine Ev.bind (spec_kids_ev (rd_T48 l (i : Int))) ?_
     rw [wk]; exact e1
    ·refine evP lenx ?_
     refine evP (by omega) ?_
     refine evP lenx ?_
     refine Ev.bind f2 ?_
     refine evP rfl ?_
     refine Ev.bind (impl_kids_ev (rd_T48 l (i : Int))) ?_
     rw [wk]; exact e2
 obtain ⟨r, q, e1, e2, e3⟩ := outer l.length 0 [] (by omega) rfl (fun j hj => by omega) (fun j hj => by omega) (fun j hj => by omega)
 have hw : wrap64 ((l.length : Int) - 1) = (l.length : Int) - 1 := w64 (by omega) (by omega)
 have hin : (decide ((l.length : Int) ≥ 1) && decide ((l.length : Int) ≤ 150)) = true := by simp; omega
 refine ⟨r, ?_, ?_, ?_⟩
 ·unfold spec_NodesOk.f
  refine evS (spec_in_eq _ _ _) ?_
  refine evP hin ?_
  refine Ev.bind (a := q) (by unfold spec_l3Starts.f; exact e1) ?_
  rcases e3 with ⟨h1, h2⟩ | ⟨h1, h2, h3, _⟩
  ·refine evN (by rw [h1]; simp) ?_
   rw [h2]; exact Ev.now _
  ·refine evP h1 ?_
   rw [hw]
   refine evP (by omega) ?_
   refine evP (by omega) ?_
   rw [h3]; exact Ev.now _
 ·unfold impl_NodesOk.f
  refine evS (impl_in_eq _ _ _) ?_
  refine evP hin ?_
  refine evP (by omega) ?_
  refine evP (by rw [Int.toNat_natCast]; omega) ?_
  rw [Int.toNat_natCast]
  simpa using e2
 ·intro hr
  rcases e3 with ⟨_, h2⟩ | ⟨_, _, _, h4⟩
  ·rw [h2] at hr; cases hr
  ·exact ⟨n1, n2, h4⟩
theorem nodesOk_ev (l : List S48) (hq : ∀ x ∈ l, x.f5.size ≤ 9223372036854775807 ∧ x.f6.size ≤ 9223372036854775807) :
  ∃ r, Ev (fun k => spec_NodesOk.f k l) r ∧ Ev (fun k => impl_NodesOk.f k l) r ∧ (r = true → 1 ≤ l.length ∧ l.length ≤ 150 ∧ Down l) := by
 obtain ⟨r, h1, h2, h3⟩ := nodesOk_tiled l hq
 refine ⟨r, h1, h2, fun hr => ?_⟩
 obtain ⟨n1, n2, ⟨st, ht, _⟩, _⟩ := h3 hr
 exact ⟨n1, n2, fun j hj x hx => ⟨((ht j hj).1 x hx).1, ((ht j hj).1 x hx).2.1⟩⟩

theorem inc (i : Nat) (h : i < 9223372036854775807) : wrap64 ((i : Int) + 1) = ((i + 1 : Nat) : Int) := w64 (by omega) (by omega)

/-! The node above a node: one at most; the first that the reference finds is the last that the program writes. -/
theorem tiled_within {l : List S48} {st : List Int} (ht : Tiled l st) : ∀ (n : Nat) (y : Nat), y < n → y < l.length → ∀ i : Nat, rd st (y : Int) ≤ (i : Int) → i ≤ y → rd st (y : Int) ≤ rd st (i : Int) := by
 intro n
 induction n with
 | zero => intro y h; omega
 | succ n ih =>
  intro y hy hl i hi hiy
  by_cases c : i = y
  ·rw [c]; exact Int.le_refl _
  ·obtain ⟨z, hz, h1, h2⟩ := (ht y hl).2.1 (i : Int) hi (by omega)
   have hz2 := (ht y hl).1 z hz
   have := ih z.toNat (by omega) (by omega) i (by rw [Int.toNat_of_nonneg hz2.1]; exact h1) (by omega)
   rw [Int.toNat_of_nonneg hz2.1] at this
   omega
theorem tiled_lt {l : List S48} {st : List Int} (ht : Tiled l st) {i j : Nat} (hij : i < j) (hj : j < l.length) {x : Int} (hi : x ∈ kidsM (rd_T48 l (i : Int))) (hx : x ∈ kidsM (rd_T48 l (j : Int))) : False := by
 obtain ⟨j1, j2, j3, _⟩ := ht j hj
 have i1 := (ht i (by omega)).1 x hi
 have j1x := j1 x hx
 have hst : rd st x ≤ x := j1x.2.2.2
 obtain ⟨y, hy, h1, h2⟩ := j2 (i : Int) (by omega) (by omega)
 have hy2 := j1 y hy
 have w := tiled_within ht (y.toNat + 1) y.toNat (by omega) (by omega) i (by rw [Int.toNat_of_nonneg hy2.1]; exact h1) (by omega)
 rw [Int.toNat_of_nonneg hy2.1] at w
 rcases j3 x hx y hy with h | h | h
 ·omega
 ·omega
 ·omega
theorem tiled_one {l : List S48} {st : List Int} (ht : Tiled l st) {i j : Nat} (hi : i < l.length) (hj : j < l.length) {x : Int} (h1 : x ∈ kidsM (rd_T48 l (i : Int))) (h2 : x ∈ kidsM (rd_T48 l (j : Int))) : i = j := by
 rcases Nat.lt_trichotomy i j with h | h | h
 ·exact absurd (tiled_lt ht h hj h1 h2) id
 ·exact h
 ·exact absurd (tiled_lt ht h hi h2 h1) id
/-- p is the node above n; -1 where there is none. -/
def IsPar (l : List S48) (n p : Int) : Prop := (p = -1 ∧ ∀ j : Nat, j < l.length → n ∉ kidsM (rd_T48 l (j : Int))) ∨ ∃ j : Nat, j < l.length ∧ p = (j : Int) ∧ n ∈ kidsM (rd_T48 l (j : Int))
theorem isPar_one {l : List S48} {st : List Int} (ht : Tiled l st) {n p q : Int} (hp : IsPar l n p) (hq : IsPar l n q) : p = q := by
 rcases hp with ⟨rfl, h⟩ | ⟨i, hi, rfl, h⟩ <;> rcases hq with ⟨rfl, h'⟩ | ⟨j, hj, rfl, h'⟩
 ·rfl
 ·exact absurd h' (h j hj)
 ·exact absurd h (h' i hi)
 ·rw [tiled_one ht hi hj h h']
theorem spec_l4Has_ev (l : List Int) (n : Int) (hm : l.length ≤ 1048576) : Ev (fun k => spec_l4Has.f k l n) (decide (n ∈ l)) := by
 have loop : ∀ (d i : Nat), i + d = l.length → Ev (fun k => spec_l4Has.l0 k l n (i : Int)) (decide (n ∈ l.drop i)) := by
  intro d
  induction d with
  | zero =>
   intro i h
   refine Ev.step (fun k => by rw [spec_l4Has.l0]) ?_
   refine evN (by omega) ?_
   rw [List.drop_of_length_le (by omega)]
   simpa using Ev.now false
  | succ d ih =>
   intro i h
   refine Ev.step (fun k => by rw [spec_l4Has.l0]) ?_
   refine evP (by omega) (evP (by omega) ?_)
   rw [rd_cons_drop l i (by omega)]
   refine evI (fun e => ?_) (fun e => ?_)
   ·rw [e, decide_eq_true List.mem_cons_self]; exact Ev.now _
   ·have e2 : decide (n ∈ rd l (i : Int) :: l.drop (i + 1)) = decide (n ∈ l.drop (i + 1)) := by
     rw [decide_eq_decide, List.mem_cons]
     exact ⟨fun h => h.resolve_left (fun h => e h.symm), .inr⟩
    rw [inc i (by omega), e2]; exact ih (i + 1) (by omega)
 have := loop l.length 0 (by omega)
 rwa [List.drop_zero] at this
theorem spec_parent_ev (l : List S48) (hl : l.length ≤ 150) (hok : Ev (fun k => spec_NodesOk.f k l) true) (n : Int) : ∃ p, Ev (fun k => spec_ParentOf.f k l n) p ∧ IsPar l n p := by
 have loop : ∀ (d i : Nat), i + d = l.length → (∀ j : Nat, j < i → n ∉ kidsM (rd_T48 l (j : Int))) → ∃ p, Ev (fun k => spec_ParentOf.l0 k l n (i : Int)) p ∧ IsPar l n p := by
  intro d
  induction d with
  | zero =>
   intro i h hn
   refine ⟨-1, Ev.step (fun k => by rw [spec_ParentOf.l0]) (evN (by omega) (Ev.now _)), .inl ⟨rfl, fun j hj => hn j (by omega)⟩⟩
  | succ d ih =>
   intro i h hn
   have hk := kidsM_length (rd_T48 l (i : Int))
   have ha := arityM_le (rd_T48 l (i : Int)).f0
   have hh := spec_l4Has_ev (kidsM (rd_T48 l (i : Int))) n (by omega)
   by_cases c : n ∈ kidsM (rd_T48 l (i : Int))
   ·refine ⟨(i : Int), Ev.step (fun k => by rw [spec_ParentOf.l0]) ?_, .inr ⟨i, by omega, rfl, c⟩⟩
    refine evP (by omega) ?_
    refine evP (by omega) ?_
    refine Ev.bind (spec_kids_ev (rd_T48 l (i : Int))) ?_
    refine Ev.bind hh ?_
    exact evP (decide_eq_true c) (Ev.now _)
   ·obtain ⟨p, h1, h2⟩ := ih (i + 1) (by omega) (fun j hj => by
     by_cases e : j < i
     ·exact hn j e
     ·have : j = i := by omega
      rw [this]; exact c)
    refine ⟨p, Ev.step (fun k => by rw [spec_ParentOf.l0]) ?_, h2⟩
    refine evP (by omega) ?_
    refine evP (by omega) ?_
    refine Ev.bind (spec_kids_ev (rd_T48 l (i : Int))) ?_
    refine Ev.bind hh ?_
    refine evN (by simp [c]) ?_
    rw [inc i (by omega)]; exact h1
 obtain ⟨p, h1, h2⟩ := loop l.length 0 (by omega) (fun j hj => by omega)
 refine ⟨p, ?_, h2⟩
 unfold spec_ParentOf.f
 exact Ev.bind hok (evP rfl h1)
theorem rd_set (l : List Int) (a : Nat) (b x : Int) (ha : a < l.length) (hb : 0 ≤ b) : rd (l.set a x) b = if b = (a : Int) then x else rd l b := by
 show (l.set a x).getD b.toNat 0 = if b = (a : Int) then x else l.getD b.toNat 0
 rw [List.getD_eq_getElem?_getD, List.getD_eq_getElem?_getD]
 by_cases c : b = (a : Int)
 ·rw [if_pos c, c, Int.toNat_natCast, List.getElem?_set_self ha]; rfl
 ·rw [if_neg c, List.getElem?_set_ne (by omega)]
theorem impl_parents_ev (l : List S48) (hl : l.length ≤ 150) (hd : Down l) : ∃ q, Ev (fun k => impl_parents.f k l) q ∧ q.length = l.length ∧ ∀ n : Nat, n < l.length → IsPar l (n : Int) (rd q (n : Int)) := by
 have outer : ∀ (d i : Nat) (q : List Int), i + d = l.length → q.length = l.length →
   (∀ n : Nat, n < l.length → (rd q (n : Int) = -1 ∧ ∀ j : Nat, j < i → (n : Int) ∉ kidsM (rd_T48 l (j : Int))) ∨ ∃ j : Nat, j < i ∧ rd q (n : Int) = (j : Int) ∧ (n : Int) ∈ kidsM (rd_T48 l (j : Int))) →
   ∃ r, Ev (fun k => impl_parents.l1 k q l (l.length : Int) (i : Int)) r ∧ r.length = l.length ∧ ∀ n : Nat, n < l.length → IsPar l (n : Int) (rd r (n : Int)) := by
  intro d
  induction d with
  | zero =>
   intro i q h hq hn
   refine ⟨q, Ev.step (fun k => by rw [impl_parents.l1]) (evN (by omega) (Ev.now _)), hq, fun n hnl => ?_⟩
   rcases hn n hnl with ⟨h1, h2⟩ | ⟨j, h1, h2, h3⟩
   ·exact .inl ⟨h1, fun j hj => h2 j (by omega)⟩
   ·exact .inr ⟨j, by omega, h2, h3⟩
  | succ d ih =>
   intro i q h hq hn
   have hk := kidsM_length (rd_T48 l (i : Int))
   have ha := arityM_le (rd_T48 l (i : Int)).f0
   have hdi := hd i (by omega)
   have inner : ∀ (e m : Nat) (q : List Int), m + e = (kidsM (rd_T48 l (i : Int))).length → q.length = l.length →
     (∀ n : Nat, n < l.length → (rd q (n : Int) = -1 ∧ (∀ j : Nat, j < i → (n : Int) ∉ kidsM (rd_T48 l (j : Int))) ∧ (n : Int) ∉ (kidsM (rd_T48 l (i : Int))).take m) ∨ (∃ j : Nat, j < i ∧ rd q (n : Int) = (j : Int) ∧ (n : Int) ∈ kidsM (rd_T48 l (j : Int))) ∨ (rd q (n : Int) = (i : Int) ∧ (n : Int) ∈ (kidsM (rd_T48 l (i : Int))).take m)) →
     ∃ r, Ev (fun k => impl_parents.l2 k q (i : Int) l (l.length : Int) (i : Int) (kidsM (rd_T48 l (i : Int))) ((kidsM (rd_T48 l (i : Int))).length : Int) (m : Int)) r ∧ r.length = l.length ∧ ∀ n : Nat, n < l.length → IsPar l (n : Int) (rd r (n : Int)) := by
    intro e
    induction e with
    | zero =>
     intro m q hm hq hn
     obtain ⟨r, h1, h2, h3⟩ := ih (i + 1) q (by omega) hq (fun n hnl => by
      have ht : (kidsM (rd_T48 l (i : Int))).take m = kidsM (rd_T48 l (i : Int)) := List.take_of_length_le (by omega)
      rcases hn n hnl with ⟨h1, h2, h3⟩ | ⟨j, h1, h2, h3⟩ | ⟨h1, h2⟩
      ·refine .inl ⟨h1, fun j hj => ?_⟩
       by_cases c : j < i
       ·exact h2 j c
       ·have : j = i := by omega
        rw [this, ← ht]; exact h3
      ·exact .inr ⟨j, by omega, h2, h3⟩
      ·exact .inr ⟨i, by omega, h1, by rw [← ht]; exact h2⟩)
     refine ⟨r, Ev.step (fun k => by rw [impl_parents.l2]) ?_, h2, h3⟩
     refine evN (by omega) ?_
     rw [inc i (by omega)]; exact h1
    | succ e ih2 =>
     intro m q hm hq hn
     have hml : m < (kidsM (rd_T48 l (i : Int))).length := by omega
     have hmem : rd (kidsM (rd_T48 l (i : Int))) (m : Int) ∈ kidsM (rd_T48 l (i : Int)) := List.mem_of_mem_drop (i := m) (by rw [rd_cons_drop _ m hml]; exact List.mem_cons_self)
     have hx := hdi _ hmem
     have htk : (kidsM (rd_T48 l (i : Int))).take (m + 1) = (kidsM (rd_T48 l (i : Int))).take m ++ [rd (kidsM (rd_T48 l (i : Int))) (m : Int)] := (take_snoc _ 0 m hml).symm
     obtain ⟨r, h1, h2, h3⟩ := ih2 (m + 1) (q.set (rd (kidsM (rd_T48 l (i : Int))) (m : Int)).toNat (i : Int)) (by omega) (by rw [List.length_set]; exact hq) (fun n hnl => by
      rw [rd_set _ _ _ _ (by omega) (by omega), Int.toNat_of_nonneg hx.1, htk]
      by_cases c : (n : Int) = rd (kidsM (rd_T48 l (i : Int))) (m : Int)
      ·rw [if_pos c]
       exact .inr (.inr ⟨rfl, by rw [c]; simp⟩)
      ·rw [if_neg c]
       rcases hn n hnl with ⟨h1, h2, h3⟩ | h1 | ⟨h1, h2⟩
       ·exact .inl ⟨h1, h2, by rw [List.mem_append, List.mem_singleton]; rintro (h | h); exact h3 h; exact c h⟩
       ·exact .inr (.inl h1)
       ·exact .inr (.inr ⟨h1, List.mem_append_left _ h2⟩))
     refine ⟨r, Ev.step (fun k => by rw [impl_parents.l2]) ?_, h2, h3⟩
     refine evP (by omega) ?_
     refine evP (by omega) ?_
     refine evP (by omega) ?_
     refine evP hx.1 ?_
     refine evP (by omega) ?_
     rw [inc m (by omega)]; exact h1
   obtain ⟨r, h1, h2, h3⟩ := inner _ 0 q (Nat.zero_add _) hq (fun n hnl => by
    rcases hn n hnl with ⟨h1, h2⟩ | h1
    ·exact .inl ⟨h1, h2, by simp⟩
    ·exact .inr (.inl h1))
   refine ⟨r, Ev.step (fun k => by rw [impl_parents.l1]) ?_, h2, h3⟩
   refine evP (by omega) ?_
   refine evP (by omega) ?_
   refine evP (by omega) ?_
   refine Ev.bind (impl_kids_ev (rd_T48 l (i : Int))) ?_
   exact h1
 have fill : ∀ (d i : Nat), i + d = l.length → ∃ r, Ev (fun k => impl_parents.l0 k l (List.replicate i (-1) ++ List.replicate d 0) (l.length : Int) (i : Int)) r ∧ r.length = l.length ∧ ∀ n : Nat, n < l.length → IsPar l (n : Int) (rd r (n : Int)) := by
  intro d
  induction d with
  | zero =>
   intro i h
   obtain ⟨r, h1, h2, h3⟩ := outer l.length 0 (List.replicate i (-1)) (by omega) (by rw [List.length_replicate]; omega) (fun n hnl => by
    refine .inl ⟨?_, fun j hj => by omega⟩
    show (List.replicate i (-1 : Int)).getD n 0 = -1
    rw [List.getD_eq_getElem?_getD, List.getElem?_replicate, if_pos (by omega)]; rfl)
   refine ⟨r, Ev.step (fun k => by rw [impl_parents.l0]) ?_, h2, h3⟩
   refine evN (by omega) ?_
   rw [List.replicate_zero, List.append_nil]; exact h1
  | succ d ih =>
   intro i h
   obtain ⟨r, h1, h2⟩ := ih (i + 1) (by omega)
   refine ⟨r, Ev.step (fun k => by rw [impl_parents.l0]) ?_, h2⟩
   refine evP (by omega) ?_
   refine evP (by omega) ?_
   refine evP (by simp only [List.length_append, List.length_replicate]; omega) ?_
   have e : (List.replicate i (-1 : Int) ++ List.replicate (d + 1) 0).set (i : Int).toNat (-1) = List.replicate (i + 1) (-1) ++ List.replicate d 0 := by
    rw [List.replicate_succ (n := d), Int.toNat_natCast, set_mid _ _ _ _ _ (by rw [List.length_replicate]), List.replicate_succ']
   rw [inc i (by omega), e]; exact h1
 obtain ⟨r, h1, h2⟩ := fill l.length 0 (by omega)
 refine ⟨r, ?_, h2⟩
 unfold impl_parents.f
 refine evP (by omega) ?_
 refine evP (by rw [Int.toNat_natCast]; omega) ?_
 rw [Int.toNat_natCast]
 refine evB ?_
 rw [List.length_replicate]
 simpa using h1

/-! What a node binds; the binder of a name: both answer alike. -/
def bindM (n : S48) (x : Int) : List ByteArray × List Int :=
 if n.f0 = 3 then ([n.f5], [0]) else if n.f0 = 5 ∨ n.f0 = 19 then (if x = n.f2 then ([n.f5], [0]) else ([], [])) else if n.f0 = 6 then (if x = n.f1 then ([n.f6, n.f5], [1, 0]) else ([n.f5], [0])) else if n.f0 = 14 then (if x = n.f3 then ([n.f6, n.f5], [1, 0]) else ([], [])) else ([], [])
theorem bindM_len (n : S48) (x : Int) : (bindM n x).1.length = (bindM n x).2.length ∧ (bindM n x).1.length ≤ 2 := by
 unfold bindM
 repeat' split
 all_goals exact ⟨rfl, by simp⟩
theorem ev_three {α : Type} {g : Nat → Option α} {r : α} (h : ∀ k, g (k + 3) = some r) : Ev g r := by
 refine ⟨3, fun k hk => ?_⟩
 obtain ⟨j, rfl⟩ := Nat.exists_eq_add_of_le' hk
 exact h j
theorem spec_bound_ev (n : S48) (x : Int) : Ev (fun k => spec_l6Bound.f k n.f0 n.f1 n.f2 n.f3 n.f4 n.f5 n.f6 x) (bindM n x) := by
 refine ev_three (fun k => ?_)
 unfold spec_l6Bound.f spec_l6Bound.j0 bindM
 generalize n.f0 = t
 by_cases h3 : t = 3
 ·subst h3; rfl
 by_cases h5 : t = 5
 ·subst h5; by_cases c : x = n.f2 <;> simp [c]
 by_cases h19 : t = 19
 ·subst h19; by_cases c : x = n.f2 <;> simp [c]
 by_cases h6 : t = 6
 ·subst h6; by_cases c : x = n.f1 <;> simp [c]
 by_cases h14 : t = 14
 ·subst h14; by_cases c : x = n.f3 <;> simp [c]
 simp [h3, h5, h19, h6, h14]
theorem impl_bound_ev (n : S48) (x : Int) : Ev (fun k => impl_bindsIn.f k n.f0 n.f1 n.f2 n.f3 n.f4 n.f5 n.f6 x) (bindM n x) := by
 refine ev_three (fun k => ?_)
 unfold impl_bindsIn.f impl_bindsIn.j0 impl_bindsIn.j1 impl_bindsIn.j2 bindM
 generalize n.f0 = t
 by_cases h3 : t = 3
 ·subst h3; rfl
 by_cases h5 : t = 5
 ·subst h5; by_cases c : x = n.f2 <;> simp [c]
 by_cases h19 : t = 19
 ·subst h19; by_cases c : x = n.f2 <;> simp [c]
 by_cases h6 : t = 6
 ·subst h6; by_cases c : x = n.f1 <;> simp [c]
 by_cases h14 : t = 14
 ·subst h14; by_cases c : x = n.f3 <;> simp [c]
 simp [h3, h5, h19, h6, h14]
theorem binder_ev (l : List S48) (hl : l.length ≤ 150) {st : List Int} (ht : Tiled l st) (hok : Ev (fun k => spec_NodesOk.f k l) true) (q : List Int) (hq : q.length = l.length) (hqp : ∀ n : Nat, n < l.length → IsPar l (n : Int) (rd q (n : Int))) (n : Nat) (hn : n < l.length) :
  ∀ (m a : Nat), l.length < m + a → a < l.length → ∃ r : Int × Int, (∀ p, IsPar l (a : Int) p → Ev (fun k => spec_BinderOf.l0 k l (n : Int) (a : Int) p (-1) (-1)) r) ∧ Ev (fun k => impl_binderOf.l0 k l q (a : Int) (rd_T48 l (n : Int)).f5) r := by
 intro m
 induction m with
 | zero => intro a h1 h2; omega
 | succ m ih =>
  intro a ham ha
  have hpa := hqp a ha
  by_cases c : rd q (a : Int) = -1
  ·refine ⟨(-1, -1), fun p hp => ?_, Ev.step (fun k => by rw [impl_binderOf.l0]) ?_⟩
   ·have e := isPar_one ht hp hpa
    refine Ev.step (fun k => by rw [spec_BinderOf.l0]) ?_
    exact evN (by omega) (Ev.now _)
   ·refine evP (by omega) ?_
    refine evP (by omega) ?_
    exact evN (by omega) (Ev.now _)
  ·obtain ⟨j, hj, hjq, hjm⟩ := hpa.resolve_left (fun h => c h.1)
   have hja := (ht j hj).1 _ hjm
   have hjlt : a < j := by omega
   obtain ⟨r0, r1, r2⟩ := ih j (by omega) hj
   obtain ⟨pj, pj1, pj2⟩ := spec_parent_ev l hl hok (j : Int)
   obtain ⟨bl1, bl2⟩ := bindM_len (rd_T48 l (j : Int)) (a : Int)
   have scan : ∀ (d i : Nat), i + d = (bindM (rd_T48 l (j : Int)) (a : Int)).1.length → ∃ r : Int × Int, Ev (fun k => spec_BinderOf.l1 k l (n : Int) (j : Int) (bindM (rd_T48 l (j : Int)) (a : Int)).1 (bindM (rd_T48 l (j : Int)) (a : Int)).2 (i : Int) (-1) (-1)) r ∧
     Ev (fun k => impl_binderOf.l1 k l q (a : Int) (rd_T48 l (n : Int)).f5 (bindM (rd_T48 l (j : Int)) (a : Int)).2 (bindM (rd_T48 l (j : Int)) (a : Int)).1 ((bindM (rd_T48 l (j : Int)) (a : Int)).1.length : Int) (i : Int)) r := by
    intro d
    induction d with
    | zero =>
     intro i h
     refine ⟨r0, Ev.step (fun k => by rw [spec_BinderOf.l1]) ?_, Ev.step (fun k => by rw [impl_binderOf.l1]) ?_⟩
     ·refine evN (by omega) ?_
      refine Ev.bind pj1 ?_
      exact r1 pj pj2
     ·refine evN (by omega) ?_
      refine evP (by omega) ?_
      refine evP (by omega) ?_
      rw [hjq]; exact r2
    | succ d ih2 =>
     intro i h
     obtain ⟨r, e1, e2⟩ := ih2 (i + 1) (by omega)
     by_cases e : (rdOf ByteArray.empty (bindM (rd_T48 l (j : Int)) (a : Int)).1 (i : Int)).toList = ((rd_T48 l (n : Int)).f5).toList
     ·refine ⟨((j : Int), rd (bindM (rd_T48 l (j : Int)) (a : Int)).2 (i : Int)), Ev.step (fun k => by rw [spec_BinderOf.l1]) ?_, Ev.step (fun k => by rw [impl_binderOf.l1]) ?_⟩
      ·refine evP (by omega) ?_
       refine evP (by omega) ?_
       refine evP (by omega) ?_
       refine evP (by omega) ?_
       refine evP e ?_
       exact evP (by omega) (Ev.now _)
      ·refine evP (by omega) ?_
       refine evP (by omega) ?_
       refine evP (by omega) ?_
       refine evP e ?_
       refine evP (by omega) ?_
       refine evP (by omega) ?_
       refine evP (by omega) ?_
       rw [hjq]; exact Ev.now _
     ·refine ⟨r, Ev.step (fun k => by rw [spec_BinderOf.l1]) ?_, Ev.step (fun k => by rw [impl_binderOf.l1]) ?_⟩
      ·refine evP (by omega) ?_
       refine evP (by omega) ?_
       refine evP (by omega) ?_
       refine evP (by omega) ?_
       refine evN e ?_
       rw [inc i (by omega)]; exact e1
      ·refine evP (by omega) ?_
       refine evP (by omega) ?_
       refine evP (by omega) ?_
       refine evN e ?_
       rw [inc i (by omega)]; exact e2
   obtain ⟨r, s1, s2⟩ := scan _ 0 (Nat.zero_add _)
   refine ⟨r, fun p hp => ?_, Ev.step (fun k => by rw [impl_binderOf.l0]) ?_⟩
   ·have e := isPar_one ht hp hpa
    rw [e, hjq]
    refine Ev.step (fun k => by rw [spec_BinderOf.l0]) ?_
    refine evP (by omega) ?_
    refine evP (by omega) ?_
    refine evP (by omega) ?_
    exact Ev.bind (spec_bound_ev (rd_T48 l (j : Int)) (a : Int)) s1
   ·refine evP (by omega) ?_
    refine evP (by omega) ?_
    rw [hjq]
    refine evP (by omega) ?_
    refine evP (by omega) ?_
    refine evP (by omega) ?_
    exact Ev.bind (impl_bound_ev (rd_T48 l (j : Int)) (a : Int)) s2
/-- b is the binder of node n, as the reference finds it; of a node that is no name there is none. -/
def Binds (l : List S48) (n : Nat) (b : S32) : Prop := ((rd_T48 l (n : Int)).f0 = 1 → Ev (fun k => spec_BinderOf.f k l (n : Int)) (b.f0, b.f1)) ∧ ((rd_T48 l (n : Int)).f0 ≠ 1 → b.f0 = -1)
theorem binders_ev (l : List S48) (hl : l.length ≤ 150) {st : List Int} (ht : Tiled l st) (hok : Ev (fun k => spec_NodesOk.f k l) true) :
  ∃ B : List S32, Ev (fun k => impl_binders.f k l) B ∧ B.length = l.length ∧ ∀ n : Nat, n < l.length → Binds l n (rd_T32 B (n : Int)) := by
 obtain ⟨q, q1, q2, q3⟩ := impl_parents_ev l hl (fun j hj x hx => ⟨((ht j hj).1 x hx).1, ((ht j hj).1 x hx).2.1⟩)
 have one : ∀ n : Nat, n < l.length → (rd_T48 l (n : Int)).f0 = 1 → ∃ r : Int × Int, Ev (fun k => spec_BinderOf.f k l (n : Int)) r ∧ Ev (fun k => impl_binderOf.f k l q (n : Int) (rd_T48 l (n : Int)).f5) r := by
  intro n hn h1
  obtain ⟨r, r1, r2⟩ := binder_ev l hl ht hok q q2 q3 n hn (l.length + 1) n (by omega) hn
  obtain ⟨p, p1, p2⟩ := spec_parent_ev l hl hok (n : Int)
  refine ⟨r, ?_, r2⟩
  unfold spec_BinderOf.f
  refine Ev.bind hok (evP rfl ?_)
  refine evS (spec_in_eq _ _ _) ?_
  have hin : (decide ((n : Int) ≥ 0) && decide ((n : Int) ≤ wrap64 ((l.length : Int) - 1))) = true := by
   rw [w64 (by omega) (by omega)]; simp; omega
  refine evP hin ?_
  refine evP (by omega) ?_
  refine evP (by omega) ?_
  refine Ev.step (fun k => by rw [spec_BinderOf.j0]) ?_
  refine evN (by rw [h1]; decide) ?_
  exact Ev.bind p1 (r1 p p2)
 have loop : ∀ (d i : Nat) (B : List S32), i + d = l.length → B.length = i → (∀ n : Nat, n < i → Binds l n (rd_T32 B (n : Int))) →
   ∃ R : List S32, Ev (fun k => impl_binders.l0 k l q B l (l.length : Int) (i : Int)) R ∧ R.length = l.length ∧ ∀ n : Nat, n < l.length → Binds l n (rd_T32 R (n : Int)) := by
  intro d
  induction d with
  | zero =>
   intro i B h hB hb
   exact ⟨B, Ev.step (fun k => by rw [impl_binders.l0]) (evN (by omega) (Ev.now _)), by omega, fun n hn => hb n (by omega)⟩
  | succ d ih =>
   intro i B h hB hb
   have add : ∀ b : S32, Binds l i b → ∃ R : List S32, Ev (fun k => impl_binders.l0 k l q (B ++ [b]) l (l.length : Int) ((i + 1 : Nat) : Int)) R ∧ R.length = l.length ∧ ∀ n : Nat, n < l.length → Binds l n (rd_T32 R (n : Int)) := by
    intro b hbi
    refine ih (i + 1) (B ++ [b]) (by omega) (by rw [List.length_append, hB]; rfl) (fun n hn => ?_)
    have e : rd_T32 (B ++ [b]) (n : Int) = if n < i then rd_T32 B (n : Int) else b := by
     show (B ++ [b]).getD n z32 = if n < i then B.getD n z32 else b
     rw [List.getD_eq_getElem?_getD, List.getD_eq_getElem?_getD]
     by_cases c : n < i
     ·rw [if_pos c, List.getElem?_append_left (by omega)]
     ·have : n = B.length := by omega
      rw [if_neg c, List.getElem?_append_right (by omega), this, Nat.sub_self]; rfl
    rw [e]
    by_cases c : n < i
    ·rw [if_pos c]; exact hb n c
    ·have : n = i := by omega
     rw [if_neg c, this]; exact hbi
   by_cases c : (rd_T48 l (i : Int)).f0 = 1
   ·obtain ⟨r, r1, r2⟩ := one i (by omega) c
    obtain ⟨R, e1, e2⟩ := add ⟨r.1, r.2⟩ ⟨fun _ => r1, fun h => absurd c h⟩
    refine ⟨R, Ev.step (fun k => by rw [impl_binders.l0]) ?_, e2⟩
    refine evP (by omega) ?_
    refine evP (by omega) ?_
    refine evP (by omega) ?_
    refine evP c ?_
    refine Ev.bind r2 ?_
    refine evP (by omega) ?_
    rw [inc i (by omega)]; exact e1
   ·obtain ⟨R, e1, e2⟩ := add ⟨-1, -1⟩ ⟨fun h => absurd h c, fun _ => rfl⟩
    refine ⟨R, Ev.step (fun k => by rw [impl_binders.l0]) ?_, e2⟩
    refine evP (by omega) ?_
    refine evP (by omega) ?_
    refine evP (by omega) ?_
    refine evN c ?_
    refine evP (by omega) ?_
    rw [inc i (by omega)]; exact e1
 obtain ⟨R, e1, e2⟩ := loop l.length 0 [] (by omega) rfl (fun n hn => by omega)
 refine ⟨R, ?_, e2⟩
 unfold impl_binders.f
 exact Ev.bind q1 e1

/-! EffectOf: both answer alike. -/
theorem bits_or_all : ∀ a b : Fin 32, 0 ≤ Go.bits .or .i64 (a.val : Int) (b.val : Int) ∧ Go.bits .or .i64 (a.val : Int) (b.val : Int) < 32 ∧ Go.bits .or .i64 0 (b.val : Int) = (b.val : Int) := by decide +kernel
theorem bits_or {a b : Int} (ha : 0 ≤ a ∧ a < 32) (hb : 0 ≤ b ∧ b < 32) : 0 ≤ Go.bits .or .i64 a b ∧ Go.bits .or .i64 a b < 32 := by
 obtain ⟨n, rfl⟩ := Int.eq_ofNat_of_zero_le ha.1
 obtain ⟨m, rfl⟩ := Int.eq_ofNat_of_zero_le hb.1
 have := bits_or_all ⟨n, by omega⟩ ⟨m, by omega⟩
 exact ⟨this.1, this.2.1⟩
theorem bits_or_zero {b : Int} (hb : 0 ≤ b ∧ b < 32) : Go.bits .or .i64 0 b = b := by
 obtain ⟨m, rfl⟩ := Int.eq_ofNat_of_zero_le hb.1
 exact (bits_or_all 0 ⟨m, by omega⟩).2.2
theorem isFun_eq (l : List S48) (a : Nat) (h : a < l.length) : impl_isFun.f l (a : Int) = some (decide ((rd_T48 l (a : Int)).f0 = 3) || (rd_T48 l (a : Int)).f0 == 6) := by
 unfold impl_isFun.f
 rw [if_pos (by omega), if_pos (by omega)]
 by_cases c : (rd_T48 l (a : Int)).f0 = 3
 ·rw [if_pos c, decide_eq_true c]; rfl
 ·rw [if_neg c, decide_eq_false c]; rfl
theorem effect_ev (l : List S48) (hl : l.length ≤ 150) (hd : Down l) : ∀ (n a : Nat), a < n → a < l.length →
  ∃ r : Int, Ev (fun k => spec_l23Effect.f k l (a : Int)) r ∧ Ev (fun k => impl_effectOf.f k l (a : Int)) r ∧ 0 ≤ r ∧ r < 32 := by
 intro n
 induction n with
 | zero => intro a h; omega
 | succ n ih =>
  intro a han ha
  have kid : ∀ x ∈ kidsM (rd_T48 l (a : Int)), ∃ r : Int, Ev (fun k => spec_l23Effect.f k l x) r ∧ Ev (fun k => impl_effectOf.f k l x) r ∧ 0 ≤ r ∧ r < 32 := by
   intro x hx
   have h := hd a ha x hx
   have := ih x.toNat (by omega) (by omega)
   rwa [Int.toNat_of_nonneg h.1] at this
  have hkl := kidsM_length (rd_T48 l (a : Int))
  have hka := arityM_le (rd_T48 l (a : Int)).f0
  have hfun := isFun_eq l a ha
  have loop : ∀ (d i : Nat) (e : Int), i + d = (kidsM (rd_T48 l (a : Int))).length → 0 ≤ e ∧ e < 32 → (0 < i ∨ ((rd_T48 l (a : Int)).f0 ≠ 3 ∧ (rd_T48 l (a : Int)).f0 ≠ 6)) →
    ∃ r : Int, Ev (fun k => spec_l23Effect.l0 k l e (kidsM (rd_T48 l (a : Int))) (i : Int)) r ∧ Ev (fun k => impl_effectOf.l0 k l (a : Int) e (kidsM (rd_T48 l (a : Int))) ((kidsM (rd_T48 l (a : Int))).length : Int) (i : Int)) r ∧ 0 ≤ r ∧ r < 32 := by
   intro d
   induction d with
   | zero =>
    intro i e h he _
    refine ⟨e, Ev.step (fun k => by rw [spec_l23Effect.l0]) ?_, Ev.step (fun k => by rw [impl_effectOf.l0]) ?_, he.1, he.2⟩
    ·exact evN (by omega) (Ev.now _)
    ·exact evN (by omega) (Ev.now _)
   | succ d ih2 =>
    intro i e h he hf
    have hi : i < (kidsM (rd_T48 l (a : Int))).length := by omega
    have w : wrap64 ((i : Int) + 1) = ((i + 1 : Nat) : Int) := w64 (by omega) (by omega)
    have hm : rd (kidsM (rd_T48 l (a : Int))) (i : Int) ∈ kidsM (rd_T48 l (a : Int)) := by
     have := rd_cons_drop _ i hi
     exact List.mem_of_mem_drop (i := i) (by rw [this]; exact List.mem_cons_self)
    obtain ⟨x, x1, x2, x3⟩ := kid _ hm
    obtain ⟨r, r1, r2, r3⟩ := ih2 (i + 1) (Go.bits .or .i64 e x) (by omega) (bits_or he x3) (.inl (by omega))
    refine ⟨r, Ev.step (fun k => by rw [spec_l23Effect.l0]) ?_, Ev.step (fun k => by rw [impl_effectOf.l0]) ?_, r3⟩
    ·refine evP (by omega) ?_
     refine evP (by omega) ?_
     refine Ev.bind x1 ?_
     rw [w]; exact r1
    ·refine evP (by omega) ?_
     refine evP (by omega) ?_
     refine evP (by omega) ?_
     rw [w]
     refine evI (fun _ => Ev.bind x2 r2) (fun c => ?_)
     rcases hf with hf | hf
     ·omega
     ·refine evS hfun ?_
      refine evN (by simp [hf.1, hf.2]) ?_
      exact Ev.bind x2 r2
  have hsk : ∀ e : Int, Ev (fun k => spec_Kids.f k (rd_T48 l (a : Int)).f0 (rd_T48 l (a : Int)).f1 (rd_T48 l (a : Int)).f2 (rd_T48 l (a : Int)).f3 (rd_T48 l (a : Int)).f4 (rd_T48 l (a : Int)).f5 (rd_T48 l (a : Int)).f6) (kidsM (rd_T48 l (a : Int))) := fun _ => spec_kids_ev _
  -- the kids of a node that is not a function
  have both : ∀ e : Int, 0 ≤ e ∧ e < 32 → ((rd_T48 l (a : Int)).f0 ≠ 3 ∧ (rd_T48 l (a : Int)).f0 ≠ 6) →
    ∃ r : Int, Ev (fun k => spec_l23Effect.j0 k l e (rd_T48 l (a : Int)).f0 (rd_T48 l (a : Int)).f1 (rd_T48 l (a : Int)).f2 (rd_T48 l (a : Int)).f3 (rd_T48 l (a : Int)).f4 (rd_T48 l (a : Int)).f5 (rd_T48 l (a : Int)).f6) r ∧
     Ev (fun k => impl_effectOf.j0 k l (a : Int) e (rd_T48 l (a : Int)).f0 (rd_T48 l (a : Int)).f1 (rd_T48 l (a : Int)).f2 (rd_T48 l (a : Int)).f3 (rd_T48 l (a : Int)).f4 (rd_T48 l (a : Int)).f5 (rd_T48 l (a : Int)).f6) r ∧ 0 ≤ r ∧ r < 32 := by
   intro e he hf
   obtain ⟨r, r1, r2, r3⟩ := loop _ 0 e (Nat.zero_add _) he (.inr hf)
   refine ⟨r, Ev.step (fun k => by rw [spec_l23Effect.j0]) ?_, Ev.step (fun k => by rw [impl_effectOf.j0]) ?_, r3⟩
   ·exact Ev.bind (spec_kids_ev (rd_T48 l (a : Int))) r1
   ·exact Ev.bind (impl_kids_ev (rd_T48 l (a : Int))) r2
  have h0 : (0 : Int) ≤ (a : Int) := by omega
  have h1 : (a : Int) < (l.length : Int) := by omega
  -- the kids of a function: the first is left out
  have skip : ∀ (r : Int), ((rd_T48 l (a : Int)).f0 = 3 ∨ (rd_T48 l (a : Int)).f0 = 6) → Ev (fun k => impl_effectOf.l0 k l (a : Int) 0 (kidsM (rd_T48 l (a : Int))) ((kidsM (rd_T48 l (a : Int))).length : Int) 1) r → 0 < (kidsM (rd_T48 l (a : Int))).length →
    Ev (fun k => impl_effectOf.j0 k l (a : Int) 0 (rd_T48 l (a : Int)).f0 (rd_T48 l (a : Int)).f1 (rd_T48 l (a : Int)).f2 (rd_T48 l (a : Int)).f3 (rd_T48 l (a : Int)).f4 (rd_T48 l (a : Int)).f5 (rd_T48 l (a : Int)).f6) r := by
   intro r hf hr hlen
   have w : wrap64 ((0 : Int) + 1) = 1 := w64 (by omega) (by omega)
   refine Ev.step (fun k => by rw [impl_effectOf.j0]) ?_
   refine Ev.bind (impl_kids_ev (rd_T48 l (a : Int))) ?_
   refine Ev.step (fun k => by rw [impl_effectOf.l0]) ?_
   refine evP (by omega) ?_
   refine evP (by omega) ?_
   refine evP (by omega) ?_
   refine evN (by omega) ?_
   refine evS hfun ?_
   refine evP (by rcases hf with h | h <;> simp [h]) ?_
   rw [w]; exact hr
  by_cases t3 : (rd_T48 l (a : Int)).f0 = 3
  ·have hlen : (kidsM (rd_T48 l (a : Int))).length = 1 := by rw [hkl, t3]; rfl
   have hr : Ev (fun k => impl_effectOf.l0 k l (a : Int) 0 (kidsM (rd_T48 l (a : Int))) ((kidsM (rd_T48 l (a : Int))).length : Int) 1) 0 :=
    Ev.step (fun k => by rw [impl_effectOf.l0]) (evN (by omega) (Ev.now _))
   have sk := skip 0 (.inl t3) hr (by omega)
   refine ⟨0, Ev.step (fun k => by rw [spec_l23Effect.f]) ?_, Ev.step (fun k => by rw [impl_effectOf.f]) ?_, by omega, by omega⟩
   ·exact evP h0 (evP h1 (evP t3 (Ev.now _)))
   ·refine evP h0 (evP h1 ?_)
    refine evN (by omega) ?_
    refine evN (by omega) ?_
    refine evN (by omega) ?_
    refine evN (by omega) ?_
    refine evN (by omega) ?_
    exact sk
  by_cases t6 : (rd_T48 l (a : Int)).f0 = 6
  ·have hlen : (kidsM (rd_T48 l (a : Int))).length = 2 := by rw [hkl, t6]; rfl
   have hK : kidsM (rd_T48 l (a : Int)) = [(rd_T48 l (a : Int)).f1, (rd_T48 l (a : Int)).f2] := by unfold kidsM; rw [t6]; rfl
   obtain ⟨x, x1, x2, x3⟩ := kid (rd_T48 l (a : Int)).f2 (by rw [hK]; simp)
   have w : wrap64 ((1 : Int) + 1) = 2 := w64 (by omega) (by omega)
   have hr : Ev (fun k => impl_effectOf.l0 k l (a : Int) 0 (kidsM (rd_T48 l (a : Int))) ((kidsM (rd_T48 l (a : Int))).length : Int) 1) x := by
    refine Ev.step (fun k => by rw [impl_effectOf.l0]) ?_
    refine evP (by omega) ?_
    refine evP (by omega) ?_
    refine evP (by omega) ?_
    refine evP (by omega) ?_
    rw [show rd (kidsM (rd_T48 l (a : Int))) 1 = (rd_T48 l (a : Int)).f2 by rw [hK]; rfl]
    refine Ev.bind x2 ?_
    rw [w, bits_or_zero x3]
    refine Ev.step (fun k => by rw [impl_effectOf.l0]) ?_
    exact evN (by omega) (Ev.now _)
   have sk := skip x (.inr t6) hr (by omega)
   refine ⟨x, Ev.step (fun k => by rw [spec_l23Effect.f]) ?_, Ev.step (fun k => by rw [impl_effectOf.f]) ?_, x3⟩
   ·exact evP h0 (evP h1 (evN t3 (evP t6 (Ev.bind x1 (Ev.now _)))))
   ·refine evP h0 (evP h1 ?_)
    refine evN (by omega) ?_
    refine evN (by omega) ?_
    refine evN (by omega) ?_
    refine evN (by omega) ?_
    refine evN (by omega) ?_
    exact sk
  have fin : ∀ e : Int, 0 ≤ e ∧ e < 32 → (∀ r, Ev (fun k => spec_l23Effect.j0 k l e (rd_T48 l (a : Int)).f0 (rd_T48 l (a : Int)).f1 (rd_T48 l (a : Int)).f2 (rd_T48 l (a : Int)).f3 (rd_T48 l (a : Int)).f4 (rd_T48 l (a : Int)).f5 (rd_T48 l (a : Int)).f6) r → Ev (fun k => spec_l23Effect.f k l (a : Int)) r) →
    (∀ r, Ev (fun k => impl_effectOf.j0 k l (a : Int) e (rd_T48 l (a : Int)).f0 (rd_T48 l (a : Int)).f1 (rd_T48 l (a : Int)).f2 (rd_T48 l (a : Int)).f3 (rd_T48 l (a : Int)).f4 (rd_T48 l (a : Int)).f5 (rd_T48 l (a : Int)).f6) r → Ev (fun k => impl_effectOf.f k l (a : Int)) r) →
    ∃ r : Int, Ev (fun k => spec_l23Effect.f k l (a : Int)) r ∧ Ev (fun k => impl_effectOf.f k l (a : Int)) r ∧ 0 ≤ r ∧ r < 32 := by
   intro e he s1 s2
   obtain ⟨r, r1, r2, r3⟩ := both e he ⟨t3, t6⟩
   exact ⟨r, s1 r r1, s2 r r2, r3⟩
  by_cases c1 : (rd_T48 l (a : Int)).f0 = 16
  ·exact fin 1 (by omega) (fun r hr => Ev.step (fun k => by rw [spec_l23Effect.f]) (evP h0 (evP h1 (evN t3 (evN t6 (evP c1 hr)))))) (fun r hr => Ev.step (fun k => by rw [impl_effectOf.f]) (evP h0 (evP h1 (evP c1 hr))))
  by_cases c2 : (rd_T48 l (a : Int)).f0 = 17
  ·exact fin 2 (by omega) (fun r hr => Ev.step (fun k => by rw [spec_l23Effect.f]) (evP h0 (evP h1 (evN t3 (evN t6 (evN c1 (evP c2 hr))))))) (fun r hr => Ev.step (fun k => by rw [impl_effectOf.f]) (evP h0 (evP h1 (evN c1 (evP c2 hr)))))
  by_cases c3 : (rd_T48 l (a : Int)).f0 = 18
  ·exact fin 4 (by omega) (fun r hr => Ev.step (fun k => by rw [spec_l23Effect.f]) (evP h0 (evP h1 (evN t3 (evN t6 (evN c1 (evN c2 (evP c3 hr)))))))) (fun r hr => Ev.step (fun k => by rw [impl_effectOf.f]) (evP h0 (evP h1 (evN c1 (evN c2 (evP c3 hr))))))
  by_cases c4 : (rd_T48 l (a : Int)).f0 = 15
  ·exact fin 8 (by omega) (fun r hr => Ev.step (fun k => by rw [spec_l23Effect.f]) (evP h0 (evP h1 (evN t3 (evN t6 (evN c1 (evN c2 (evN c3 (evP c4 hr))))))))) (fun r hr => Ev.step (fun k => by rw [impl_effectOf.f]) (evP h0 (evP h1 (evN c1 (evN c2 (evN c3 (evP c4 hr)))))))
  by_cases c5 : (rd_T48 l (a : Int)).f0 = 4
  ·exact fin 16 (by omega) (fun r hr => Ev.step (fun k => by rw [spec_l23Effect.f]) (evP h0 (evP h1 (evN t3 (evN t6 (evN c1 (evN c2 (evN c3 (evN c4 (evP c5 hr)))))))))) (fun r hr => Ev.step (fun k => by rw [impl_effectOf.f]) (evP h0 (evP h1 (evN c1 (evN c2 (evN c3 (evN c4 (evP c5 hr))))))))
  exact fin 0 (by omega) (fun r hr => Ev.step (fun k => by rw [spec_l23Effect.f]) (evP h0 (evP h1 (evN t3 (evN t6 (evN c1 (evN c2 (evN c3 (evN c4 (evN c5 hr)))))))))) (fun r hr => Ev.step (fun k => by rw [impl_effectOf.f]) (evP h0 (evP h1 (evN c1 (evN c2 (evN c3 (evN c4 (evN c5 hr))))))))

/-! A tree laid flat, and the parts put together: both build the same. -/
def shN (b : Int) (n : S48) : S48 := ⟨n.f0, if 0 < arityM n.f0 then wrap64 (n.f1 + b) else n.f1, if 1 < arityM n.f0 then wrap64 (n.f2 + b) else n.f2, if 2 < arityM n.f0 then wrap64 (n.f3 + b) else n.f3, n.f4, n.f5, n.f6⟩
theorem wrap_wrap (x a b : Int) : wrap64 (wrap64 (x + a) + b) = wrap64 (x + (a + b)) := by unfold wrap64; omega
theorem shN_shN (a b : Int) (n : S48) : shN b (shN a n) = shN (a + b) n := by
 unfold shN
 simp only [S48.mk.injEq, true_and, and_true]
 refine ⟨?_, ?_, ?_⟩
 ·split
  ·exact wrap_wrap _ _ _
  ·rfl
 ·split
  ·exact wrap_wrap _ _ _
  ·rfl
 ·split
  ·exact wrap_wrap _ _ _
  ·rfl
def wf3 (n : S48) : Prop := (-9223372036854775808 ≤ n.f1 ∧ n.f1 ≤ 9223372036854775807) ∧ (-9223372036854775808 ≤ n.f2 ∧ n.f2 ≤ 9223372036854775807) ∧ (-9223372036854775808 ≤ n.f3 ∧ n.f3 ≤ 9223372036854775807)
theorem wrap_in (x : Int) : -9223372036854775808 ≤ wrap64 x ∧ wrap64 x ≤ 9223372036854775807 := by unfold wrap64; omega
theorem wf3_shN (b : Int) {n : S48} (h : wf3 n) : wf3 (shN b n) := by
 obtain ⟨h1, h2, h3⟩ := h
 unfold shN wf3
 refine ⟨?_, ?_, ?_⟩
 ·show -9223372036854775808 ≤ (if _ then _ else _) ∧ (if _ then _ else _) ≤ _
  split
  ·exact wrap_in _
  ·exact h1
 ·show -9223372036854775808 ≤ (if _ then _ else _) ∧ (if _ then _ else _) ≤ _
  split
  ·exact wrap_in _
  ·exact h2
 ·show -9223372036854775808 ≤ (if _ then _ else _) ∧ (if _ then _ else _) ≤ _
  split
  ·exact wrap_in _
  ·exact h3
theorem shN_zero {n : S48} (h : wf3 n) : shN 0 n = n := by
 obtain ⟨h1, h2, h3⟩ := h
 have w : ∀ x : Int, -9223372036854775808 ≤ x ∧ x ≤ 9223372036854775807 → wrap64 (x + 0) = x := fun x hx => by rw [Int.add_zero]; exact w64 hx.1 hx.2
 obtain ⟨f0, f1, f2, f3, f4, f5, f6⟩ := n
 unfold shN
 dsimp only at h1 h2 h3 ⊢
 rw [w _ h1, w _ h2, w _ h3, ite_self, ite_self, ite_self]
theorem spec_shift_ev (l : List S48) (b : Int) (hl : l.length ≤ 1048576) : Ev (fun k => spec_l3Shift.f k l b) (l.map (shN b)) := by
 have loop : ∀ (d i : Nat), i + d = l.length → Ev (fun k => spec_l3Shift.l0 k l b ((l.take i).map (shN b)) (i : Int)) (l.map (shN b)) := by
  intro d
  induction d with
  | zero =>
   intro i h
   refine Ev.step (fun k => by rw [spec_l3Shift.l0]) ?_
   refine evN (by omega) ?_
   rw [List.take_of_length_le (by omega)]; exact Ev.now _
  | succ d ih =>
   intro i h
   have hi : i < l.length := by omega
   have e1 := ih (i + 1) (by omega)
   have et : (l.take (i + 1)).map (shN b) = (l.take i).map (shN b) ++ [shN b (rd_T48 l (i : Int))] := by
    rw [← take_snoc l z48 i hi, List.map_append]; rfl
   rw [et] at e1
   have hlen : ((l.take i).map (shN b)).length < 1954687338268 := by rw [List.length_map, List.length_take]; omega
   have ha := arityM_le (rd_T48 l (i : Int)).f0
   refine Ev.step (fun k => by rw [spec_l3Shift.l0]) ?_
   refine evP (by omega) ?_
   refine evP (by omega) ?_
   refine Ev.bind (spec_arity_ev (rd_T48 l (i : Int)).f0) ?_
   have fin : ∀ (x : S48), x = shN b (rd_T48 l (i : Int)) → Ev (fun k => spec_l3Shift.l0 k l b ((l.take i).map (shN b) ++ [x]) (wrap64 ((i : Int) + 1))) (l.map (shN b)) := by
    intro x hx
    rw [hx, inc i (by omega)]; exact e1
   unfold shN at fin
   refine evI (fun c0 => ?_) (fun c0 => ?_)
   ·have c0' : 0 < arityM (rd_T48 l (i : Int)).f0 := by omega
    refine Ev.step (fun k => by rw [spec_l3Shift.j1]) ?_
    refine evI (fun c1 => ?_) (fun c1 => ?_)
    ·have c1' : 1 < arityM (rd_T48 l (i : Int)).f0 := by omega
     refine evI (fun c2 => ?_) (fun c2 => ?_)
     ·have c2' : 2 < arityM (rd_T48 l (i : Int)).f0 := by omega
      exact evP hlen (fin _ (by rw [if_pos c0', if_pos c1', if_pos c2']))
     ·have c2' : ¬ 2 < arityM (rd_T48 l (i : Int)).f0 := by omega
      exact evP hlen (fin _ (by rw [if_pos c0', if_pos c1', if_neg c2']))
    ·have c1' : ¬ 1 < arityM (rd_T48 l (i : Int)).f0 := by omega
     have c2' : ¬ 2 < arityM (rd_T48 l (i : Int)).f0 := by omega
     refine evN (by omega) ?_
     exact evP hlen (fin _ (by rw [if_pos c0', if_neg c1', if_neg c2']))
   ·have c0' : ¬ 0 < arityM (rd_T48 l (i : Int)).f0 := by omega
    have c1' : ¬ 1 < arityM (rd_T48 l (i : Int)).f0 := by omega
    have c2' : ¬ 2 < arityM (rd_T48 l (i : Int)).f0 := by omega
    refine Ev.step (fun k => by rw [spec_l3Shift.j1]) ?_
    refine evN (by omega) ?_
    refine evN (by omega) ?_
    exact evP hlen (fin _ (by rw [if_neg c0', if_neg c1', if_neg c2']))
 have := loop l.length 0 (by omega)
 exact this
def setK (n : S48) (i : Nat) (v : Int) : S48 := if i = 0 then ⟨n.f0, v, n.f2, n.f3, n.f4, n.f5, n.f6⟩ else if i = 1 then ⟨n.f0, n.f1, v, n.f3, n.f4, n.f5, n.f6⟩ else ⟨n.f0, n.f1, n.f2, v, n.f4, n.f5, n.f6⟩
/-- Parts behind what is there, each moved to its place; then the node over them. -/
def mkS : List S48 → S48 → Nat → List (List S48) → List S48
 | out, n, _, [] => out ++ [n]
 | out, n, i, p :: ps => mkS (out ++ p.map (shN (out.length : Int))) (setK n i (wrap64 (((out ++ p.map (shN (out.length : Int))).length : Int) - 1))) (i + 1) ps
theorem rd_LNodes_drop (ps : List (List S48)) (i : Nat) (p : List S48) (r : List (List S48)) (h : ps.drop i = p :: r) : rd_L5 ps (i : Int) = p := by
 show ps.getD i [] = p
 have hi : i < ps.length := by
  by_cases c : i < ps.length
  ·exact c
  ·rw [List.drop_of_length_le (by omega)] at h; cases h
 rw [List.drop_eq_getElem_cons hi] at h
 rw [List.getD_eq_getElem?_getD, List.getElem?_eq_getElem hi]
 exact (List.cons.inj h).1
theorem drop_next {α : Type} (ps : List α) (i : Nat) (p : α) (r : List α) (h : ps.drop i = p :: r) : ps.drop (i + 1) = r := by
 have hi : i < ps.length := by
  by_cases c : i < ps.length
  ·exact c
  ·rw [List.drop_of_length_le (by omega)] at h; cases h
 rw [List.drop_eq_getElem_cons hi] at h
 exact (List.cons.inj h).2
theorem spec_make_ev (ps : List (List S48)) : ∀ (r : List (List S48)) (i : Nat) (out : List S48) (n : S48), ps.drop i = r → i + r.length = ps.length → out.length + (r.map List.length).sum ≤ 1000000 → ps.length ≤ 3 →
  Ev (fun k => spec_l3Make.l0 k ps out (i : Int) n.f0 n.f1 n.f2 n.f3 n.f4 n.f5 n.f6) (mkS out n i r) := by
 intro r
 induction r with
 | nil =>
  intro i out n hd hi hs h3
  refine Ev.step (fun k => by rw [spec_l3Make.l0]) ?_
  rw [List.length_nil] at hi
  refine evN (by omega) ?_
  refine evP (by rw [List.map_nil, List.sum_nil] at hs; omega) ?_
  exact Ev.now _
 | cons p r ih =>
  intro i out n hd hi hs h3
  rw [List.length_cons] at hi
  rw [List.map_cons, List.sum_cons] at hs
  have hlen : (out ++ p.map (shN (out.length : Int))).length = out.length + p.length := by rw [List.length_append, List.length_map]
  have e := ih (i + 1) (out ++ p.map (shN (out.length : Int))) (setK n i (wrap64 (((out ++ p.map (shN (out.length : Int))).length : Int) - 1))) (drop_next _ _ _ _ hd) (by omega) (by rw [hlen]; omega) h3
  refine Ev.step (fun k => by rw [spec_l3Make.l0]) ?_
  refine evP (by omega) ?_
  refine evP (by omega) ?_
  rw [rd_LNodes_drop ps i p r hd]
  refine Ev.bind (spec_shift_ev p (out.length : Int) (by omega)) ?_
  refine evP (by rw [List.length_map]; omega) ?_
  refine evB ?_
  rw [inc i (by omega)]
  rw [mkS]
  refine evI (fun c => ?_) (fun c => evI (fun c1 => ?_) (fun c1 => ?_))
  ·have c' : i = 0 := by omega
   subst c'; exact e
  ·have c' : i = 1 := by omega
   subst c'; exact e
  ·have c' : i = 2 := by omega
   subst c'; exact e
theorem rd_Tree_drop (ts : List S56) (i : Nat) (t : S56) (r : List S56) (h : ts.drop i = t :: r) : rd_T56 ts (i : Int) = t := by
 show ts.getD i z56 = t
 have hi : i < ts.length := by
  by_cases c : i < ts.length
  ·exact c
  ·rw [List.drop_of_length_le (by omega)] at h; cases h
 rw [List.drop_eq_getElem_cons hi] at h
 rw [List.getD_eq_getElem?_getD, List.getElem?_eq_getElem hi]
 exact (List.cons.inj h).1
/-- t, laid flat behind whatever is there, is p moved to its place. -/
def Flat (t : S56) (p : List S48) : Prop := ∀ out : List S48, out.length + p.length ≤ 100000 → Ev (fun k => impl_flat.f k out t.f0.f0 t.f0.f1 t.f0.f2 t.f0.f3 t.f0.f4 t.f0.f5 t.f0.f6 t.f1) (out ++ p.map (shN (out.length : Int)))
theorem impl_flat_ev (ts : List S56) : ∀ (r : List (S56 × List S48)) (i : Nat) (out : List S48) (n : S48), ts.drop i = r.map Prod.fst → (∀ y ∈ r, Flat y.1 y.2) → i + r.length = ts.length → out.length + ((r.map Prod.snd).map List.length).sum ≤ 100000 → ts.length ≤ 3 →
  Ev (fun k => impl_flat.l0 k out ts (ts.length : Int) (i : Int) n.f0 n.f1 n.f2 n.f3 n.f4 n.f5 n.f6) (mkS out n i (r.map Prod.snd)) := by
 intro r
 induction r with
 | nil =>
  intro i out n hd hf hi hs h3
  refine Ev.step (fun k => by rw [impl_flat.l0]) ?_
  rw [List.length_nil] at hi
  refine evN (by omega) ?_
  refine evP (by rw [List.map_nil, List.map_nil, List.sum_nil] at hs; omega) ?_
  exact Ev.now _
 | cons y r ih =>
  intro i out n hd hf hi hs h3
  rw [List.length_cons] at hi
  rw [List.map_cons, List.map_cons, List.sum_cons] at hs
  rw [List.map_cons] at hd
  have hlen : (out ++ y.2.map (shN (out.length : Int))).length = out.length + y.2.length := by rw [List.length_append, List.length_map]
  have e := ih (i + 1) (out ++ y.2.map (shN (out.length : Int))) (setK n i (wrap64 (((out ++ y.2.map (shN (out.length : Int))).length : Int) - 1))) (drop_next _ _ _ _ hd) (fun z hz => hf z (List.mem_cons_of_mem _ hz)) (by omega) (by rw [hlen]; omega) h3
  have hy := hf y List.mem_cons_self out (by omega)
  refine Ev.step (fun k => by rw [impl_flat.l0]) ?_
  refine evP (by omega) ?_
  refine evP (by omega) ?_
  refine evP (by omega) ?_
  rw [rd_Tree_drop ts i y.1 (r.map Prod.fst) hd]
  refine Ev.bind hy ?_
  rw [inc i (by omega)]
  rw [List.map_cons, mkS]
  refine evI (fun c => ?_) (fun c => evI (fun c1 => ?_) (fun c1 => evI (fun c2 => ?_) (fun c2 => ?_)))
  ·have c' : i = 0 := by omega
   subst c'; exact e
  ·have c' : i = 1 := by omega
   subst c'; exact e
  ·have c' : i = 2 := by omega
   subst c'; exact e
  ·omega

/-- A node with its places of kids at 0. -/
def bare (n : S48) : S48 := ⟨n.f0, 0, 0, 0, n.f4, n.f5, n.f6⟩
theorem rest_zero (n : S48) (h : restM n = false) : (arityM n.f0 < 1 → n.f1 = 0) ∧ (arityM n.f0 < 2 → n.f2 = 0) ∧ (arityM n.f0 < 3 → n.f3 = 0) := by
 unfold restM at h
 simp only [Bool.or_eq_false_iff, Bool.and_eq_false_iff, decide_eq_false_iff_not, bne_eq_false_iff_eq] at h
 refine ⟨fun c => ?_, fun c => ?_, fun c => ?_⟩
 ·exact h.1.1.resolve_left (fun x => x c)
 ·exact h.1.2.resolve_left (fun x => x c)
 ·exact h.2.resolve_left (fun x => x c)
theorem map_shN (a b : Int) (p : List S48) : (p.map (shN a)).map (shN b) = p.map (shN (a + b)) := by
 rw [List.map_map]
 exact List.map_congr_left fun n _ => shN_shN a b n
theorem wrap_len (a b : Nat) (h : a + b < 1000000) : wrap64 (((a + b : Nat) : Int) - 1) = wrap64 (wrap64 ((b : Int) - 1) + (a : Int)) := by
 unfold wrap64; omega
theorem mkS_shift (n : S48) (ps : List (List S48)) (out : List S48) (hr : restM n = false) (ha : ps.length = arityM n.f0) (hs : out.length + (ps.map List.length).sum ≤ 200000) :
  mkS out n 0 ps = out ++ (mkS [] (bare n) 0 ps).map (shN (out.length : Int)) := by
 obtain ⟨r1, r2, r3⟩ := rest_zero n hr
 obtain ⟨f0, f1, f2, f3, f4, f5, f6⟩ := n
 dsimp only at r1 r2 r3 ha
 match ps, ha, hs with
 | [], ha, hs =>
  rw [List.length_nil] at ha
  rw [mkS, mkS, List.nil_append, List.map_cons, List.map_nil, r1 (by omega), r2 (by omega), r3 (by omega)]
  unfold shN bare
  dsimp only
  rw [if_neg (by omega), if_neg (by omega), if_neg (by omega)]
 | [p0], ha, hs =>
  rw [List.length_cons, List.length_nil] at ha
  simp only [List.map_cons, List.map_nil, List.sum_cons, List.sum_nil] at hs
  rw [mkS, mkS, mkS, mkS, r2 (by omega), r3 (by omega)]
  simp only [List.nil_append, List.map_append, List.map_cons, List.map_nil, map_shN, List.append_assoc, List.length_nil, List.length_append, List.length_map]
  congr 1
  have e0 : ((0 : Nat) : Int) + (out.length : Int) = (out.length : Int) := by omega
  rw [e0]
  congr 1
  unfold shN bare setK
  simp only [if_true]
  rw [if_pos (by omega), if_neg (by omega), if_neg (by omega), wrap_len _ _ (by omega)]
 | [p0, p1], ha, hs =>
  simp only [List.length_cons, List.length_nil] at ha
  simp only [List.map_cons, List.map_nil, List.sum_cons, List.sum_nil] at hs
  rw [mkS, mkS, mkS, mkS, mkS, mkS, r3 (by omega)]
  simp only [List.nil_append, List.map_append, List.map_cons, List.map_nil, map_shN, List.append_assoc, List.length_nil, List.length_append, List.length_map]
  congr 1
  have e0 : ((0 : Nat) : Int) + (out.length : Int) = (out.length : Int) := by omega
  have e1 : ((out.length + p0.length : Nat) : Int) = (p0.length : Int) + (out.length : Int) := by omega
  rw [e0, e1]
  congr 1
  congr 1
  unfold shN bare setK
  simp only [if_true, Nat.zero_add, if_false, Nat.one_ne_zero]
  rw [if_pos (by omega), if_pos (by omega), if_neg (by omega), ← e1, wrap_len _ _ (by omega), wrap_len _ _ (by omega)]
 | [p0, p1, p2], ha, hs =>
  simp only [List.length_cons, List.length_nil] at ha
  simp only [List.map_cons, List.map_nil, List.sum_cons, List.sum_nil] at hs
  rw [mkS, mkS, mkS, mkS, mkS, mkS, mkS, mkS]
  simp only [List.nil_append, List.map_append, List.map_cons, List.map_nil, map_shN, List.append_assoc, List.length_nil, List.length_append, List.length_map]
  congr 1
  have e0 : ((0 : Nat) : Int) + (out.length : Int) = (out.length : Int) := by omega
  have e1 : ((out.length + p0.length : Nat) : Int) = (p0.length : Int) + (out.length : Int) := by omega
  have e2 : ((out.length + (p0.length + p1.length) : Nat) : Int) = ((p0.length + p1.length : Nat) : Int) + (out.length : Int) := by omega
  rw [e0, e1, e2]
  congr 1
  congr 1
  congr 1
  unfold shN bare setK
  simp only [if_true, Nat.zero_add, if_false, Nat.one_ne_zero, Nat.reduceAdd, Nat.reduceEqDiff]
  rw [if_pos (by omega), if_pos (by omega), if_pos (by omega)]
  have w1 := wrap_len out.length p0.length (by omega)
  have w2 := wrap_len out.length (p0.length + p1.length) (by omega)
  have w3 := wrap_len out.length (p0.length + (p1.length + p2.length)) (by omega)
  rw [← e1, ← e2, w1, w2, w3]
 | _ :: _ :: _ :: _ :: _, ha, hs =>
  simp only [List.length_cons] at ha
  have := arityM_le f0
  omega
theorem mkS_length (ps : List (List S48)) : ∀ (out : List S48) (n : S48) (i : Nat), (mkS out n i ps).length = out.length + (ps.map List.length).sum + 1 := by
 induction ps with
 | nil => intro out n i; rw [mkS, List.length_append]; rfl
 | cons p ps ih => intro out n i; rw [mkS, ih, List.length_append, List.length_map, List.map_cons, List.sum_cons]; omega
theorem setK_wf3 {n : S48} (h : wf3 n) (i : Nat) (v : Int) : wf3 (setK n i (wrap64 v)) := by
 unfold setK
 split
 ·exact ⟨wrap_in _, h.2.1, h.2.2⟩
 ·split
  ·exact ⟨h.1, wrap_in _, h.2.2⟩
  ·exact ⟨h.1, h.2.1, wrap_in _⟩
theorem mkS_wf3 (ps : List (List S48)) : ∀ (out : List S48) (n : S48) (i : Nat), (∀ x ∈ out, wf3 x) → wf3 n → (∀ p ∈ ps, ∀ x ∈ p, wf3 x) → ∀ x ∈ mkS out n i ps, wf3 x := by
 induction ps with
 | nil =>
  intro out n i ho hn _ x hx
  rw [mkS, List.mem_append, List.mem_singleton] at hx
  rcases hx with h | rfl
  ·exact ho x h
  ·exact hn
 | cons p ps ih =>
  intro out n i ho hn hp x hx
  rw [mkS] at hx
  refine ih _ _ _ (fun y hy => ?_) (setK_wf3 hn _ _) (fun q hq => hp q (List.mem_cons_of_mem _ hq)) x hx
  rw [List.mem_append] at hy
  rcases hy with h | h
  ·exact ho y h
  ·obtain ⟨z, hz, rfl⟩ := List.mem_map.1 h
   exact wf3_shN _ (hp p List.mem_cons_self z hz)

/-! DropLets: the lets that do nothing, out. -/
def hit (B : List S32) (a : Int) (j : Nat) : Bool := (rd_T32 B (j : Int)).f0 == a && ((rd_T32 B (j : Int)).f1 == 0)
def hits (B : List S32) (a : Int) : Nat → Nat → Bool
 | 0, _ => false
 | d + 1, i => hit B a i || hits B a d (i + 1)
theorem used_ev (l : List S48) (hl : l.length ≤ 150) (hok : Ev (fun k => spec_NodesOk.f k l) true) (B : List S32) (hB : B.length = l.length) (hb : ∀ n : Nat, n < l.length → Binds l n (rd_T32 B (n : Int))) (a : Int) (ha : 0 ≤ a) :
  Ev (fun k => spec_UsedName.f k l a 0) (hits B a l.length 0) := by
 have loop : ∀ (d i : Nat) (o : List Int), i + d = l.length → o.length ≤ i → ∃ r : List Int, Ev (fun k => spec_UsesOf.l0 k l o (i : Int) a 0) r ∧ decide ((r.length : Int) > 0) = (decide (o.length > 0) || hits B a d i) := by
  intro d
  induction d with
  | zero =>
   intro i o h ho
   refine ⟨o, Ev.step (fun k => by rw [spec_UsesOf.l0]) ?_, ?_⟩
   ·refine evN (by omega) ?_
    exact Ev.step (fun k => by rw [spec_UsesOf.j1]) (evN (by simp) (Ev.now _))
   ·rw [hits, Bool.or_false, decide_eq_decide]; omega
  | succ d ih =>
   intro i o h ho
   obtain ⟨x1, x2⟩ := hb i (by omega)
   have head : ∀ r : List Int, Ev (fun k => spec_UsesOf.j1 k l o (i : Int) true a 0) r → Ev (fun k => spec_UsesOf.l0 k l o (i : Int) a 0) r := by
    intro r hr
    refine Ev.step (fun k => by rw [spec_UsesOf.l0]) ?_
    refine evP (by omega) ?_
    refine Ev.bind hok ?_
    refine evP rfl ?_
    rw [decide_eq_true (show a ≥ 0 by omega)]
    exact hr
   by_cases c : (rd_T48 l (i : Int)).f0 = 1
   ·by_cases e : hit B a i = true
    ·obtain ⟨r, r1, r2⟩ := ih (i + 1) (o ++ [(i : Int)]) (by omega) (by rw [List.length_append]; exact Nat.add_le_add_right ho 1)
     refine ⟨r, head r ?_, ?_⟩
     ·refine Ev.step (fun k => by rw [spec_UsesOf.j1]) ?_
      refine evP rfl ?_
      refine evP (by omega) ?_
      refine evP (by omega) ?_
      refine evP c ?_
      refine Ev.bind (x1 c) ?_
      refine evP e ?_
      refine evP (by omega) ?_
      rw [inc i (by omega)]; exact r1
     ·rw [r2, hits, e, List.length_append]; simp
    ·obtain ⟨r, r1, r2⟩ := ih (i + 1) o (by omega) (by omega)
     refine ⟨r, head r ?_, ?_⟩
     ·refine Ev.step (fun k => by rw [spec_UsesOf.j1]) ?_
      refine evP rfl ?_
      refine evP (by omega) ?_
      refine evP (by omega) ?_
      refine evP c ?_
      refine Ev.bind (x1 c) ?_
      refine evN e ?_
      rw [inc i (by omega)]; exact r1
     ·rw [Bool.not_eq_true] at e
      rw [r2, hits, e, Bool.false_or]
   ·have e : hit B a i = false := by
     unfold hit
     rw [x2 c]
     have : ((-1 : Int) == a) = false := by simp; omega
     rw [this, Bool.false_and]
    obtain ⟨r, r1, r2⟩ := ih (i + 1) o (by omega) (by omega)
    refine ⟨r, head r ?_, ?_⟩
    ·refine Ev.step (fun k => by rw [spec_UsesOf.j1]) ?_
     refine evP rfl ?_
     refine evP (by omega) ?_
     refine evP (by omega) ?_
     refine evN c ?_
     rw [inc i (by omega)]; exact r1
    ·rw [r2, hits, e, Bool.false_or]
 obtain ⟨r, r1, r2⟩ := loop l.length 0 [] (by omega) (Nat.le_refl _)
 unfold spec_UsedName.f spec_UsesOf.f
 refine Ev.bind r1 ?_
 rw [r2]
 exact Ev.now _
theorem drop_used (l : List S48) (B : List S32) (a : Int) (n : S48) (hB : B.length ≤ 150) (R : Int × Int × Int × Int × Int × ByteArray × ByteArray × List S56)
  (hy : hits B a B.length 0 = true → Ev (fun k => impl_dropTree.j2 k l B n.f0 n.f1 n.f2 n.f3 n.f4 n.f5 n.f6) R) (hn : hits B a B.length 0 = false → Ev (fun k => impl_dropTree.f k l B n.f2) R) :
  Ev (fun k => impl_dropTree.l0 k l B a false B (B.length : Int) 0 n.f0 n.f1 n.f2 n.f3 n.f4 n.f5 n.f6) R := by
 have loop : ∀ (d i : Nat) (u : Bool), i + d = B.length → (u || hits B a d i) = hits B a B.length 0 → Ev (fun k => impl_dropTree.l0 k l B a u B (B.length : Int) (i : Int) n.f0 n.f1 n.f2 n.f3 n.f4 n.f5 n.f6) R := by
  intro d
  induction d with
  | zero =>
   intro i u h hu
   rw [hits, Bool.or_false] at hu
   refine Ev.step (fun k => by rw [impl_dropTree.l0]) ?_
   refine evN (by omega) ?_
   cases u with
   | true => exact evP rfl (hy hu.symm)
   | false =>
    refine evN (by simp) ?_
    exact Ev.bind (hn hu.symm) (Ev.now _)
  | succ d ih =>
   intro i u h hu
   rw [hits] at hu
   refine Ev.step (fun k => by rw [impl_dropTree.l0]) ?_
   refine evP (by omega) ?_
   refine evP (by omega) ?_
   refine evP (by omega) ?_
   rw [inc i (by omega)]
   cases u with
   | true =>
    refine evP rfl ?_
    exact ih (i + 1) true (by omega) (by rw [Bool.true_or] at hu ⊢; exact hu)
   | false =>
    refine evN (by simp) ?_
    exact ih (i + 1) (hit B a i) (by omega) (by rw [Bool.false_or] at hu; exact hu)
 exact loop B.length 0 false (by omega) (by rw [Bool.false_or])

/-- What is said of node x: the reference's part p, the program's tree t; t laid flat is p. -/
def DropAt (l : List S48) (B : List S32) (st : List Int) (x : Int) (y : S56 × List S48) : Prop :=
 Ev (fun k => spec_l23Part.f k l x) y.2 ∧ Ev (fun k => impl_dropTree.f k l B x) (y.1.f0.f0, y.1.f0.f1, y.1.f0.f2, y.1.f0.f3, y.1.f0.f4, y.1.f0.f5, y.1.f0.f6, y.1.f1) ∧ Flat y.1 y.2 ∧ (y.2.length : Int) ≤ x - rd st x + 1 ∧ (∀ z ∈ y.2, wf3 z)
theorem drop_ev (l : List S48) (B : List S32) (st : List Int) (hl : l.length ≤ 150) (hok : Ev (fun k => spec_NodesOk.f k l) true) (hB : B.length = l.length) (hb : ∀ n : Nat, n < l.length → Binds l n (rd_T32 B (n : Int))) (ht : Tiled l st) (hst : ∀ j : Nat, j < l.length → 0 ≤ rd st (j : Int) ∧ rd st (j : Int) ≤ (j : Int)) (hr : ∀ j : Nat, j < l.length → restM (rd_T48 l (j : Int)) = false) :
  ∀ (m a : Nat), a < m → a < l.length → ∃ y, DropAt l B st (a : Int) y := by
 have hdown : Down l := fun j hj x hx => ⟨((ht j hj).1 x hx).1, ((ht j hj).1 x hx).2.1⟩
 intro m
 induction m with
 | zero => intro a h; omega
 | succ m ih =>
  intro a ham ha
  have hsa := hst a ha
  obtain ⟨t1, t2, t3, t4⟩ := ht a ha
  have kid : ∀ x, ∃ y, x ∈ kidsM (rd_T48 l (a : Int)) → DropAt l B st x y := by
   intro x
   by_cases hx : x ∈ kidsM (rd_T48 l (a : Int))
   ·have h := t1 x hx
    obtain ⟨y, hy⟩ := ih x.toNat (by omega) (by omega)
    rw [Int.toNat_of_nonneg h.1] at hy
    exact ⟨y, fun _ => hy⟩
   ·exact ⟨(z56, []), fun h => absurd h hx⟩
  obtain ⟨F, hF⟩ := Classical.axiomOfChoice kid
  have hkl := kidsM_length (rd_T48 l (a : Int))
  have hka := arityM_le (rd_T48 l (a : Int)).f0
  have hsum : ∀ K : List Int, (∀ x ∈ K, x ∈ kidsM (rd_T48 l (a : Int))) → (((K.map fun x => (F x).2).map List.length).sum : Int) ≤ (K.map fun x => x - rd st x + 1).sum := by
   intro K
   induction K with
   | nil => intro _; exact Int.le_refl _
   | cons x K ihK =>
    intro hK
    have h1 := (hF x (hK x List.mem_cons_self)).2.2.2.1
    have h2 := ihK (fun y hy => hK y (List.mem_cons_of_mem _ hy))
    simp only [List.map_cons, List.sum_cons]
    omega
  have hs := hsum _ (fun _ h => h)
  rw [t4] at hs
  have hrs := hr a ha
  -- the walk over the kids, of the reference: it ends where the parts are whole
  have kids_spec : ∀ R : List S48, Ev (fun k => spec_l23Part.l0 k l (a : Int) (kidsM (rd_T48 l (a : Int))) ((kidsM (rd_T48 l (a : Int))).map fun x => (F x).2) ((kidsM (rd_T48 l (a : Int))).length : Int) (rd_T48 l (a : Int)).f0 (rd_T48 l (a : Int)).f1 (rd_T48 l (a : Int)).f2 (rd_T48 l (a : Int)).f3 (rd_T48 l (a : Int)).f4 (rd_T48 l (a : Int)).f5 (rd_T48 l (a : Int)).f6) R →
    Ev (fun k => spec_l23Part.f k l (a : Int)) R := by
   intro R hR
   have loop : ∀ (d i : Nat), i + d = (kidsM (rd_T48 l (a : Int))).length → Ev (fun k => spec_l23Part.l0 k l (a : Int) (kidsM (rd_T48 l (a : Int))) (((kidsM (rd_T48 l (a : Int))).take i).map fun x => (F x).2) (i : Int) (rd_T48 l (a : Int)).f0 (rd_T48 l (a : Int)).f1 (rd_T48 l (a : Int)).f2 (rd_T48 l (a : Int)).f3 (rd_T48 l (a : Int)).f4 (rd_T48 l (a : Int)).f5 (rd_T48 l (a : Int)).f6) R := by
    intro d
    induction d with
    | zero =>
     intro i h
     have hi : i = (kidsM (rd_T48 l (a : Int))).length := by omega
     rw [hi, List.take_length]; exact hR
    | succ d ihd =>
     intro i h
     have hi2 : i < (kidsM (rd_T48 l (a : Int))).length := by omega
     have hm : rd (kidsM (rd_T48 l (a : Int))) (i : Int) ∈ kidsM (rd_T48 l (a : Int)) := List.mem_of_mem_drop (i := i) (by rw [rd_cons_drop _ i hi2]; exact List.mem_cons_self)
     have e1 := ihd (i + 1) (by omega)
     rw [← take_snoc _ 0 i hi2, List.map_append] at e1
     refine Ev.step (fun k => by rw [spec_l23Part.l0]) ?_
     refine evP (by omega) ?_
     refine evP (by omega) ?_
     refine Ev.bind (hF _ hm).1 ?_
     refine evP (by rw [List.length_map, List.length_take]; omega) ?_
     rw [inc i (by omega)]; exact e1
   refine Ev.step (fun k => by rw [spec_l23Part.f]) ?_
   refine evP (by omega) ?_
   refine evP (by omega) ?_
   refine Ev.bind (spec_kids_ev (rd_T48 l (a : Int))) ?_
   exact loop _ 0 (Nat.zero_add _)
  have hq : ((((kidsM (rd_T48 l (a : Int))).map fun x => (F x).2)).map List.length).sum ≤ 1000 := by omega
  have hlen : ((kidsM (rd_T48 l (a : Int))).map fun x => (F x).2).length ≤ 3 := by rw [List.length_map]; omega
  -- the node stays
  have stay : (∀ R : List S48, Ev (fun k => spec_l23Part.j1 k ((kidsM (rd_T48 l (a : Int))).map fun x => (F x).2) false (rd_T48 l (a : Int)).f0 (rd_T48 l (a : Int)).f1 (rd_T48 l (a : Int)).f2 (rd_T48 l (a : Int)).f3 (rd_T48 l (a : Int)).f4 (rd_T48 l (a : Int)).f5 (rd_T48 l (a : Int)).f6) R → Ev (fun k => spec_l23Part.f k l (a : Int)) R) →
    (∀ R, Ev (fun k => impl_dropTree.j2 k l B (rd_T48 l (a : Int)).f0 (rd_T48 l (a : Int)).f1 (rd_T48 l (a : Int)).f2 (rd_T48 l (a : Int)).f3 (rd_T48 l (a : Int)).f4 (rd_T48 l (a : Int)).f5 (rd_T48 l (a : Int)).f6) R → Ev (fun k => impl_dropTree.f k l B (a : Int)) R) →
    ∃ y, DropAt l B st (a : Int) y := by
   intro hspec himpl
   refine ⟨(⟨rd_T48 l (a : Int), (kidsM (rd_T48 l (a : Int))).map fun x => (F x).1⟩, mkS [] (bare (rd_T48 l (a : Int))) 0 ((kidsM (rd_T48 l (a : Int))).map fun x => (F x).2)), ?_, ?_, ?_, ?_, ?_⟩
   ·apply hspec
    refine Ev.step (fun k => by rw [spec_l23Part.j1]) ?_
    refine evN (by simp) ?_
    have mk := fun (ps : List (List S48)) (h3 : ps.length ≤ 3) (hq : (ps.map List.length).sum ≤ 1000) => spec_make_ev ps ps 0 [] (bare (rd_T48 l (a : Int))) rfl (by omega) (by rw [List.length_nil]; omega) h3
    generalize ((kidsM (rd_T48 l (a : Int))).map fun x => (F x).2) = ps at hq hlen ⊢
    match ps, hq, hlen with
    | [], _, _ => exact evP rfl (Ev.now _)
    | [p0], hq, hlen =>
     refine evN (by simp) ?_
     refine evP rfl ?_
     refine evP (by simp) ?_
     exact Ev.bind (mk [p0] hlen hq) (Ev.now _)
    | [p0, p1], hq, hlen =>
     refine evN (by simp) ?_
     refine evN (by simp) ?_
     refine evP rfl ?_
     refine evP (by simp) ?_
     refine evP (by simp) ?_
     exact Ev.bind (mk [p0, p1] hlen hq) (Ev.now _)
    | [p0, p1, p2], hq, hlen =>
     refine evN (by simp) ?_
     refine evN (by simp) ?_
     refine evN (by simp) ?_
     refine evP (by simp) ?_
     refine evP (by simp) ?_
     refine evP (by simp) ?_
     exact Ev.bind (mk [p0, p1, p2] hlen hq) (Ev.now _)
    | _ :: _ :: _ :: _ :: _, _, hlen => simp only [List.length_cons] at hlen; omega
   ·apply himpl
    have loop : ∀ (d i : Nat), i + d = (kidsM (rd_T48 l (a : Int))).length → Ev (fun k => impl_dropTree.l1 k l B (kidsM (rd_T48 l (a : Int))) ((kidsM (rd_T48 l (a : Int))).length : Int) (i : Int) (rd_T48 l (a : Int)).f0 (rd_T48 l (a : Int)).f1 (rd_T48 l (a : Int)).f2 (rd_T48 l (a : Int)).f3 (rd_T48 l (a : Int)).f4 (rd_T48 l (a : Int)).f5 (rd_T48 l (a : Int)).f6 (((kidsM (rd_T48 l (a : Int))).take i).map fun x => (F x).1))
      ((rd_T48 l (a : Int)).f0, (rd_T48 l (a : Int)).f1, (rd_T48 l (a : Int)).f2, (rd_T48 l (a : Int)).f3, (rd_T48 l (a : Int)).f4, (rd_T48 l (a : Int)).f5, (rd_T48 l (a : Int)).f6, (kidsM (rd_T48 l (a : Int))).map fun x => (F x).1) := by
     intro d
     induction d with
     | zero =>
      intro i h
      refine Ev.step (fun k => by rw [impl_dropTree.l1]) ?_
      refine evN (by omega) ?_
      rw [List.take_of_length_le (by omega)]; exact Ev.now _
     | succ d ihd =>
      intro i h
      have hi2 : i < (kidsM (rd_T48 l (a : Int))).length := by omega
      have hm : rd (kidsM (rd_T48 l (a : Int))) (i : Int) ∈ kidsM (rd_T48 l (a : Int)) := List.mem_of_mem_drop (i := i) (by rw [rd_cons_drop _ i hi2]; exact List.mem_cons_self)
      have e1 := ihd (i + 1) (by omega)
      rw [← take_snoc _ 0 i hi2, List.map_append] at e1
      have e3 : List.map (fun x => (F x).1) [(kidsM (rd_T48 l (a : Int))).getD i 0] = [(F (rd (kidsM (rd_T48 l (a : Int))) (i : Int))).1] := rfl
      rw [e3] at e1
      have hFm := (hF _ hm).2.1
      generalize (F (rd (kidsM (rd_T48 l (a : Int))) (i : Int))).1 = z at e1 hFm
      refine Ev.step (fun k => by rw [impl_dropTree.l1]) ?_
      refine evP (by omega) ?_
      refine evP (by omega) ?_
      refine evP (by omega) ?_
      refine Ev.bind hFm ?_
      refine evP (by rw [List.length_map, List.length_take]; omega) ?_
      rw [inc i (by omega)]
      obtain ⟨⟨z0, z1, z2, z3, z4, z5, z6⟩, z7⟩ := z
      exact e1
    refine Ev.step (fun k => by rw [impl_dropTree.j2]) ?_
    refine Ev.bind (impl_kids_ev (rd_T48 l (a : Int))) ?_
    exact loop _ 0 (Nat.zero_add _)
   ·intro out ho
    have ho2 : out.length + (mkS [] (bare (rd_T48 l (a : Int))) 0 ((kidsM (rd_T48 l (a : Int))).map fun x => (F x).2)).length ≤ 100000 := ho
    rw [mkS_length, List.length_nil] at ho2
    have e := impl_flat_ev ((kidsM (rd_T48 l (a : Int))).map fun x => (F x).1) ((kidsM (rd_T48 l (a : Int))).map F) 0 out (rd_T48 l (a : Int)) (by rw [List.drop_zero, List.map_map]; rfl) (fun y hy => by
      obtain ⟨x, hx, rfl⟩ := List.mem_map.1 hy
      exact (hF x hx).2.2.1) (by rw [List.length_map, List.length_map, Nat.zero_add]) (by
      rw [List.map_map (f := F) (g := Prod.snd)]
      show out.length + (((kidsM (rd_T48 l (a : Int))).map fun x => (F x).2).map List.length).sum ≤ 100000
      omega) (by rw [List.length_map]; omega)
    rw [List.map_map (f := F) (g := Prod.snd)] at e
    have e2 := mkS_shift (rd_T48 l (a : Int)) ((kidsM (rd_T48 l (a : Int))).map fun x => (F x).2) out hrs (by rw [List.length_map]; exact hkl) (by omega)
    refine Ev.step (fun k => by rw [impl_flat.f]) ?_
    dsimp only
    rw [← e2]
    exact e
   ·show (((mkS [] (bare (rd_T48 l (a : Int))) 0 ((kidsM (rd_T48 l (a : Int))).map fun x => (F x).2)).length : Nat) : Int) ≤ _
    rw [mkS_length, List.length_nil]
    omega
   ·refine mkS_wf3 _ _ _ _ (fun x hx => by cases hx) ?_ (fun p hp x hx => ?_)
    ·exact ⟨⟨by show (-9223372036854775808 : Int) ≤ 0; decide, by show (0 : Int) ≤ 9223372036854775807; decide⟩, ⟨by show (-9223372036854775808 : Int) ≤ 0; decide, by show (0 : Int) ≤ 9223372036854775807; decide⟩, ⟨by show (-9223372036854775808 : Int) ≤ 0; decide, by show (0 : Int) ≤ 9223372036854775807; decide⟩⟩
    ·obtain ⟨y, hy, rfl⟩ := List.mem_map.1 hp
     exact (hF y hy).2.2.2.2 x hx
  have h0 : (0 : Int) ≤ (a : Int) := by omega
  have h1 : (a : Int) < (l.length : Int) := by omega
  have j0f : ∀ R, Ev (fun k => impl_dropTree.j2 k l B (rd_T48 l (a : Int)).f0 (rd_T48 l (a : Int)).f1 (rd_T48 l (a : Int)).f2 (rd_T48 l (a : Int)).f3 (rd_T48 l (a : Int)).f4 (rd_T48 l (a : Int)).f5 (rd_T48 l (a : Int)).f6) R → Ev (fun k => impl_dropTree.j0 k l B (a : Int) false (rd_T48 l (a : Int)).f0 (rd_T48 l (a : Int)).f1 (rd_T48 l (a : Int)).f2 (rd_T48 l (a : Int)).f3 (rd_T48 l (a : Int)).f4 (rd_T48 l (a : Int)).f5 (rd_T48 l (a : Int)).f6) R :=
   fun R hR => Ev.step (fun k => by rw [impl_dropTree.j0]) (evN (by simp) hR)
  have whole : ¬ ((kidsM (rd_T48 l (a : Int))).length : Int) < ((kidsM (rd_T48 l (a : Int))).length : Int) := by omega
  by_cases c5 : (rd_T48 l (a : Int)).f0 = 5
  ·have hK : kidsM (rd_T48 l (a : Int)) = [(rd_T48 l (a : Int)).f1, (rd_T48 l (a : Int)).f2] := by unfold kidsM; rw [c5]; rfl
   have m1 : (rd_T48 l (a : Int)).f1 ∈ kidsM (rd_T48 l (a : Int)) := by rw [hK]; simp
   have m2 : (rd_T48 l (a : Int)).f2 ∈ kidsM (rd_T48 l (a : Int)) := by rw [hK]; simp
   have k1 := t1 _ m1
   have k2 := t1 _ m2
   obtain ⟨e, e1, e2, _⟩ := effect_ev l hl hdown ((rd_T48 l (a : Int)).f1.toNat + 1) (rd_T48 l (a : Int)).f1.toNat (by omega) (by omega)
   rw [Int.toNat_of_nonneg k1.1] at e1 e2
   have hu := used_ev l hl hok B hB hb (a : Int) h0
   have jj : ∀ R, e = 0 → Ev (fun k => impl_dropTree.l0 k l B (a : Int) false B (B.length : Int) 0 (rd_T48 l (a : Int)).f0 (rd_T48 l (a : Int)).f1 (rd_T48 l (a : Int)).f2 (rd_T48 l (a : Int)).f3 (rd_T48 l (a : Int)).f4 (rd_T48 l (a : Int)).f5 (rd_T48 l (a : Int)).f6) R → Ev (fun k => impl_dropTree.f k l B (a : Int)) R := by
    intro R he hR
    refine Ev.step (fun k => by rw [impl_dropTree.f]) ?_
    refine evP h0 (evP h1 (evP c5 ?_))
    refine Ev.bind e2 ?_
    refine Ev.step (fun k => by rw [impl_dropTree.j0]) ?_
    refine evP (by simp [he]) hR
   by_cases ce : e = 0
   ·cases hh : hits B (a : Int) l.length 0 with
    | false =>
     rw [hh] at hu
     have hh2 : hits B (a : Int) B.length 0 = false := by rw [hB]; exact hh
     obtain ⟨d1, d2, d3, d4, d5⟩ := hF _ m2
     refine ⟨F (rd_T48 l (a : Int)).f2, kids_spec _ ?_, jj _ ce (drop_used l B (a : Int) (rd_T48 l (a : Int)) (by omega) _ (fun h => by rw [hh2] at h; cases h) (fun _ => d2)), d3, by omega, d5⟩
     refine Ev.step (fun k => by rw [spec_l23Part.l0]) ?_
     refine evN whole ?_
     refine evP c5 ?_
     refine Ev.bind e1 ?_
     refine evP ce ?_
     refine Ev.bind hu ?_
     refine Ev.step (fun k => by rw [spec_l23Part.j1]) ?_
     refine evP rfl ?_
     rw [hK]
     refine evP (by simp) ?_
     exact Ev.now _
    | true =>
     rw [hh] at hu
     have hh2 : hits B (a : Int) B.length 0 = true := by rw [hB]; exact hh
     refine stay (fun R hR => kids_spec R ?_) (fun R hR => jj R ce (drop_used l B (a : Int) (rd_T48 l (a : Int)) (by omega) _ (fun _ => hR) (fun h => by rw [hh2] at h; cases h)))
     refine Ev.step (fun k => by rw [spec_l23Part.l0]) ?_
     refine evN whole ?_
     refine evP c5 ?_
     refine Ev.bind e1 ?_
     refine evP ce ?_
     refine Ev.bind hu ?_
     exact hR
   ·refine stay (fun R hR => kids_spec R ?_) (fun R hR => ?_)
    ·refine Ev.step (fun k => by rw [spec_l23Part.l0]) ?_
     refine evN whole ?_
     refine evP c5 ?_
     refine Ev.bind e1 ?_
     exact evN ce hR
    ·refine Ev.step (fun k => by rw [impl_dropTree.f]) ?_
     refine evP h0 (evP h1 (evP c5 ?_))
     refine Ev.bind e2 ?_
     have : (e == 0) = false := by simp [ce]
     rw [this]
     exact j0f R hR
  ·refine stay (fun R hR => kids_spec R ?_) (fun R hR => ?_)
   ·refine Ev.step (fun k => by rw [spec_l23Part.l0]) ?_
    refine evN whole ?_
    exact evN c5 hR
   ·refine Ev.step (fun k => by rw [impl_dropTree.f]) ?_
    exact evP h0 (evP h1 (evN c5 (j0f R hR)))

/-! The marks of nodes: what is written is found again. -/
theorem strOfNums_size (xs : List Int) : (strOfNums xs).size = xs.length := by
 simp [strOfNums, ByteArray.size]
theorem markText_ev (a : Int) (ha : a ≤ 1000000000) : ∃ t, Ev (fun k => laws_markText.f k a) t := by
 have loop : ∀ (m : Nat) (x : Int) (s : ByteArray), 0 ≤ x → x ≤ m → x ≤ 1000000000 → s.size + m ≤ 2000000000 → ∃ t, Ev (fun k => laws_markText.l0 k x s) t := by
  intro m
  induction m with
  | zero =>
   intro x s h0 h1 _ h2
   refine ⟨(⟨#[109]⟩ : ByteArray) ++ s, Ev.step (fun k => by rw [laws_markText.l0]) ?_⟩
   refine evN (by omega) ?_
   refine evP (by omega) ?_
   exact Ev.now _
  | succ m ih =>
   intro x s h0 h1 h3 h2
   by_cases c : x > 0
   ·have hd : Int.tdiv x 10 = x / 10 := Int.tdiv_eq_ediv_of_nonneg h0
    have hw : wrap64 (Int.tdiv x 10) = x / 10 := by rw [hd]; exact w64 (by omega) (by omega)
    have hsz : (strOfNums [wrap64 (48 + Int.tmod x 10) % 256]).size = 1 := strOfNums_size _
    have hsz2 : (strOfNums [wrap64 (48 + Int.tmod x 10) % 256] ++ s).size = 1 + s.size := by rw [ByteArray.size_append, hsz]
    obtain ⟨t, ht⟩ := ih (x / 10) (strOfNums [wrap64 (48 + Int.tmod x 10) % 256] ++ s) (by omega) (by omega) (by omega) (by rw [hsz2]; omega)
    refine ⟨t, Ev.step (fun k => by rw [laws_markText.l0]) ?_⟩
    refine evP c ?_
    refine evB ?_
    refine evP (by rw [hsz]; omega) ?_
    rw [hw]; exact ht
   ·refine ⟨(⟨#[109]⟩ : ByteArray) ++ s, Ev.step (fun k => by rw [laws_markText.l0]) ?_⟩
    refine evN c ?_
    refine evP (by omega) ?_
    exact Ev.now _
 unfold laws_markText.f
 by_cases c : a ≤ 0
 ·exact ⟨_, evP c (Ev.now _)⟩
 ·obtain ⟨t, ht⟩ := loop a.toNat a (⟨#[]⟩ : ByteArray) (by omega) (by omega) ha (by show 0 + a.toNat ≤ 2000000000; omega)
  exact ⟨t, evN c ht⟩
theorem rdN_set (l : List S48) (i : Nat) (x : S48) (h : i < l.length) : rd_T48 (l.set i x) (i : Int) = x := by
 show (l.set i x).getD i z48 = x
 rw [List.getD_eq_getElem?_getD, List.getElem?_set_self h]; rfl
theorem rdN_set_ne (l : List S48) (i j : Nat) (x : S48) (h : i ≠ j) : rd_T48 (l.set i x) (j : Int) = rd_T48 l (j : Int) := by
 show (l.set i x).getD j z48 = l.getD j z48
 rw [List.getD_eq_getElem?_getD, List.getD_eq_getElem?_getD, List.getElem?_set_ne h]
/-- The marks of node j: from 1 + 7 j on. -/
def Marked (x : S48) (j : Nat) : Prop := x.f0 = 1 + 7 * (j : Int) ∧ x.f1 = 1 + 7 * (j : Int) + 1 ∧ x.f2 = 1 + 7 * (j : Int) + 1 + 1 ∧ x.f3 = 1 + 7 * (j : Int) + 1 + 1 + 1 ∧ x.f4 = 1 + 7 * (j : Int) + 1 + 1 + 1 + 1 ∧
 Ev (fun k => laws_markText.f k (1 + 7 * (j : Int) + 1 + 1 + 1 + 1 + 1)) x.f5 ∧ Ev (fun k => laws_markText.f k (1 + 7 * (j : Int) + 1 + 1 + 1 + 1 + 1 + 1)) x.f6
theorem markNodeS_ev (m : Nat) (hm : m ≤ 1048576) (l : List S48) (hl : l.length = m) : ∃ r, Ev (fun k => laws_markNodeS.f k l 1) (1 + 7 * (m : Int), r) ∧ r.length = m ∧ ∀ j : Nat, j < m → Marked (rd_T48 r (j : Int)) j := by
 have loop : ∀ (d i : Nat) (l : List S48) (x : Int), x = 1 + 7 * (i : Int) → i + d = m → l.length = m → (∀ j : Nat, j < i → Marked (rd_T48 l (j : Int)) j) →
   ∃ r, Ev (fun k => laws_markNodeS.l0 k l x (i : Int)) (1 + 7 * (m : Int), r) ∧ r.length = m ∧ ∀ j : Nat, j < m → Marked (rd_T48 r (j : Int)) j := by
  intro d
  induction d with
  | zero =>
   intro i l x hx h hl hj
   refine ⟨l, Ev.step (fun k => by rw [laws_markNodeS.l0]) ?_, hl, fun j h1 => hj j (by omega)⟩
   refine evN (by omega) ?_
   have : i = m := by omega
   subst this; rw [hx]; exact Ev.now _
  | succ d ih =>
   intro i l x hx h hl hj
   obtain ⟨t5, h5⟩ := markText_ev (x + 1 + 1 + 1 + 1 + 1) (by omega)
   obtain ⟨t6, h6⟩ := markText_ev (x + 1 + 1 + 1 + 1 + 1 + 1) (by omega)
   have hil : i < l.length := by omega
   obtain ⟨r, e1, e2⟩ := ih (i + 1) (l.set i ⟨x, x + 1, x + 1 + 1, x + 1 + 1 + 1, x + 1 + 1 + 1 + 1, t5, t6⟩) (x + 1 + 1 + 1 + 1 + 1 + 1 + 1) (by omega) (by omega) (by rw [List.length_set]; exact hl) (fun j hji => by
    by_cases c : j = i
    ·subst c
     rw [rdN_set _ _ _ hil]
     refine ⟨hx, ?_, ?_, ?_, ?_, ?_, ?_⟩
     ·show x + 1 = _; rw [hx]
     ·show x + 1 + 1 = _; rw [hx]
     ·show x + 1 + 1 + 1 = _; rw [hx]
     ·show x + 1 + 1 + 1 + 1 = _; rw [hx]
     ·rw [hx] at h5; exact h5
     ·rw [hx] at h6; exact h6
    ·rw [rdN_set_ne _ _ _ _ (Ne.symm c)]; exact hj j (by omega))
   have b1 : wrap64 (x + 1) = x + 1 := w64 (by omega) (by omega)
   have b2 : wrap64 (x + 1 + 1) = x + 1 + 1 := w64 (by omega) (by omega)
   have b3 : wrap64 (x + 1 + 1 + 1) = x + 1 + 1 + 1 := w64 (by omega) (by omega)
   have b4 : wrap64 (x + 1 + 1 + 1 + 1) = x + 1 + 1 + 1 + 1 := w64 (by omega) (by omega)
   have b5 : wrap64 (x + 1 + 1 + 1 + 1 + 1) = x + 1 + 1 + 1 + 1 + 1 := w64 (by omega) (by omega)
   have b6 : wrap64 (x + 1 + 1 + 1 + 1 + 1 + 1) = x + 1 + 1 + 1 + 1 + 1 + 1 := w64 (by omega) (by omega)
   have b7 : wrap64 (x + 1 + 1 + 1 + 1 + 1 + 1 + 1) = x + 1 + 1 + 1 + 1 + 1 + 1 + 1 := w64 (by omega) (by omega)
   have c1 : (i : Int) < (l.length : Int) := by omega
   have c2 : (0 : Int) ≤ (i : Int) := by omega
   have bi := w64 (i := (i : Int) + 1) (by omega) (by omega)
   have bi2 : wrap64 ((i : Int) + 1) = ((i + 1 : Nat) : Int) := bi
   refine ⟨r, Ev.step (fun k => by rw [laws_markNodeS.l0]) ?_, e2⟩
   refine evP c1 ?_
   refine evP c2 ?_
   refine evB ?_
   refine evB ?_
   refine evB ?_
   refine evB ?_
   refine evB ?_
   rw [b1, b2, b3, b4, b5, b6, b7, bi2]
   refine Ev.bind h5 ?_
   refine evB ?_
   refine Ev.bind h6 ?_
   simp only [Int.toNat_natCast, List.set_set, rdN_set _ _ _ hil]
   exact e1
 unfold laws_markNodeS.f
 exact loop m 0 l 1 (by omega) (by omega) hl (fun j hj => by omega)
theorem heldNodeS_ev (m : Nat) (hm : m ≤ 1048576) (l : List S48) (hl : l.length = m) (hj : ∀ j : Nat, j < m → Marked (rd_T48 l (j : Int)) j) : Ev (fun k => laws_heldNodeS.f k l 1) (1 + 7 * (m : Int)) := by
 have loop : ∀ (d i : Nat) (x : Int), x = 1 + 7 * (i : Int) → i + d = m → Ev (fun k => laws_heldNodeS.l0 k l x (i : Int)) (1 + 7 * (m : Int)) := by
  intro d
  induction d with
  | zero =>
   intro i x hx h
   refine Ev.step (fun k => by rw [laws_heldNodeS.l0]) ?_
   refine evN (by omega) ?_
   have : i = m := by omega
   subst this; rw [hx]; exact Ev.now _
  | succ d ih =>
   intro i x hx h
   obtain ⟨q0, q1, q2, q3, q4, q5, q6⟩ := hj i (by omega)
   rw [← hx] at q0 q1 q2 q3 q4 q5 q6
   have e1 := ih (i + 1) (x + 1 + 1 + 1 + 1 + 1 + 1 + 1) (by omega) (by omega)
   have b1 : wrap64 (x + 1) = x + 1 := w64 (by omega) (by omega)
   have b2 : wrap64 (x + 1 + 1) = x + 1 + 1 := w64 (by omega) (by omega)
   have b3 : wrap64 (x + 1 + 1 + 1) = x + 1 + 1 + 1 := w64 (by omega) (by omega)
   have b4 : wrap64 (x + 1 + 1 + 1 + 1) = x + 1 + 1 + 1 + 1 := w64 (by omega) (by omega)
   have b5 : wrap64 (x + 1 + 1 + 1 + 1 + 1) = x + 1 + 1 + 1 + 1 + 1 := w64 (by omega) (by omega)
   have b6 : wrap64 (x + 1 + 1 + 1 + 1 + 1 + 1) = x + 1 + 1 + 1 + 1 + 1 + 1 := w64 (by omega) (by omega)
   have b7 : wrap64 (x + 1 + 1 + 1 + 1 + 1 + 1 + 1) = x + 1 + 1 + 1 + 1 + 1 + 1 + 1 := w64 (by omega) (by omega)
   have c1 : (i : Int) < (l.length : Int) := by omega
   have c2 : (0 : Int) ≤ (i : Int) := by omega
   have bi2 : wrap64 ((i : Int) + 1) = ((i + 1 : Nat) : Int) := w64 (by omega) (by omega)
   refine Ev.step (fun k => by rw [laws_heldNodeS.l0]) ?_
   refine evP c1 ?_
   refine evP c2 ?_
   rw [b1, b2, b3, b4, b5, b6, b7, bi2]
   refine evP q0 ?_
   refine evP q1 ?_
   refine evP q2 ?_
   refine evP q3 ?_
   refine evP q4 ?_
   refine Ev.bind q5 ?_
   refine evP rfl ?_
   refine Ev.bind q6 ?_
   refine evP rfl ?_
   exact e1
 unfold laws_heldNodeS.f
 exact loop m 0 1 (by omega) (by omega)

theorem dropLets_ev (l : List S48) (hq : ∀ x ∈ l, x.f5.size ≤ 9223372036854775807 ∧ x.f6.size ≤ 9223372036854775807) : ∃ r : List S48, Ev (fun k => spec_DropLets.f k l) r ∧ Ev (fun k => impl_DropLets.f k l) r ∧ r.length ≤ 1048576 := by
 obtain ⟨ok, k1, k2, k3⟩ := nodesOk_tiled l hq
 unfold spec_DropLets.f impl_DropLets.f
 cases ok with
 | false => exact ⟨[], Ev.bind k1 (evN (by simp) (Ev.now _)), Ev.bind k2 (evN (by simp) (Ev.now _)), by simp⟩
 | true =>
  obtain ⟨n1, n2, ⟨st, ht, hst⟩, hr⟩ := k3 rfl
  obtain ⟨B, b1, b2, b3⟩ := binders_ev l n2 ht k1
  have hw : wrap64 ((l.length : Int) - 1) = ((l.length - 1 : Nat) : Int) := by rw [w64 (by omega) (by omega)]; omega
  obtain ⟨⟨t, p⟩, c1, c2, c3, c4, c5⟩ := drop_ev l B st n2 k1 b2 b3 ht hst hr l.length (l.length - 1) (by omega) (by omega)
  have hs := hst (l.length - 1) (by omega)
  have hp : p.length ≤ 150 := by
   have : (p.length : Int) ≤ ((l.length - 1 : Nat) : Int) - rd st ((l.length - 1 : Nat) : Int) + 1 := c4
   omega
  refine ⟨p, Ev.bind k1 (evP rfl ?_), Ev.bind k2 (evP rfl ?_), by omega⟩
  ·rw [hw]
   exact Ev.bind c1 (Ev.now _)
  ·rw [hw]
   refine Ev.bind b1 ?_
   refine Ev.bind c2 ?_
   have f := c3 [] (by show 0 + p.length ≤ 100000; omega)
   have e : ([] : List S48) ++ p.map (shN ((([] : List S48).length : Nat) : Int)) = p := by
    rw [List.nil_append]
    exact (List.map_congr_left fun x hx => shN_zero (c5 x hx)).trans (List.map_id p)
   dsimp only at f ⊢
   rw [e] at f
   exact Ev.bind f (Ev.now _)
theorem FnExactDropLets : ∀ (l0 : List S45), l0.length * 72 ≤ 140737488351232 → (∀ x ∈ l0, (Lit.int .i64 x.f0).wf = true ∧ (Lit.int .i64 x.f1).wf = true ∧ (Lit.int .i64 x.f2).wf = true ∧ (Lit.int .i64 x.f3).wf = true ∧ (Lit.int .i64 x.f4).wf = true ∧ x.f5.size ≤ maxLen ∧ x.f6.size ≤ maxLen) → ∃ k, laws_FnExactDropLets.f k l0 = some true := by
 intro l0 hl hw
 apply Ev.rounds
 unfold laws_FnExactDropLets.f
 obtain ⟨r, er, hr⟩ := szNodeS_ev l0 hl
 refine Ev.bind er ?_
 refine evI (fun _ => Ev.now _) (fun c => ?_)
 have hm : l0.length ≤ 1048576 := Nat.le_of_not_lt (fun h => c (hr h))
 have hm2 : (l0.map ofN).length ≤ 1048576 := by rw [List.length_map]; exact hm
 have hq : ∀ x ∈ l0.map ofN, x.f5.size ≤ 9223372036854775807 ∧ x.f6.size ≤ 9223372036854775807 := by
  intro x hx
  obtain ⟨y, hy, rfl⟩ := List.mem_map.1 hx
  have h := hw y hy
  exact ⟨h.2.2.2.2.2.1, h.2.2.2.2.2.2⟩
 obtain ⟨p, e1, e2, hp⟩ := dropLets_ev (l0.map ofN) hq
 obtain ⟨mk, k1, _, _⟩ := markNodeS_ev (l0.map ofN).length hm2 (l0.map ofN) rfl
 obtain ⟨mp, m1, m2, m3⟩ := markNodeS_ev p.length hp p rfl
 have hh := heldNodeS_ev p.length hp mp m2 m3
 refine Ev.bind (toNodeS_ev l0 hm) ?_
 refine Ev.bind e1 ?_
 refine Ev.bind (toNodeS_ev l0 hm) ?_
 refine Ev.bind e2 ?_
 refine Ev.bind (eqNodeS_self p hp) ?_
 refine evP rfl ?_
 refine Ev.bind (toNodeS_ev l0 hm) ?_
 refine Ev.bind (eqNodeS_self _ hm2) ?_
 refine evP rfl ?_
 refine Ev.bind k1 ?_
 refine evN (by dsimp only; omega) ?_
 refine Ev.bind (eqNodeS_self p hp) ?_
 refine Ev.step (fun k => by rw [laws_FnExactDropLets.j0]) ?_
 refine evN (by simp) ?_
 refine Ev.bind m1 ?_
 refine Ev.bind hh ?_
 refine evN (by omega) ?_
 refine evP rfl ?_
 refine Ev.bind (toNodeS_ev l0 hm) ?_
 refine Ev.bind e2 ?_
 refine Ev.bind (eqNodeS_self p hp) ?_
 refine evP rfl ?_
 refine Ev.bind hh ?_
 refine evN (by omega) ?_
 exact evP rfl (Ev.now _)

end Go.Proofs.YtoebebgeiahagaaDoor.Pure
