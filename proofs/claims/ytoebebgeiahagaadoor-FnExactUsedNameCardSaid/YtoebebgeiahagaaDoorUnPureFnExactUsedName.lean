/- The program's UsedName and the reference's return the same at every list of nodes and every binding. No condition beyond the statement's own. -/
import Derived.Test.YtoebebgeiahagaaDoorUnPFnExactUsedNamex16
namespace Go.Proofs.YtoebebgeiahagaaDoor.Pure
open Go.RowKit Go.Proofs.YtoebebgeiahagaaDoor.PFnExactUsedName Go.Proofs.YtoebebgeiahagaaDoorW.PrintWords Go.Proofs.YtoebebgeiahagaaDoorW.PrintLast
set_option linter.unusedVariables false
set_option linter.unusedSimpArgs false

/-! Small words on `Ev`. -/
theorem evP {α : Type} {c : Prop} [Decidable c] {f g : Nat → Option α} {r : α} (h : c) (hf : Ev f r) : Ev (fun k => if c then f k else g k) r :=
  Ev.congr (fun _ => if_pos h) hf
theorem evN {α : Type} {c : Prop} [Decidable c] {f g : Nat → Option α} {r : α} (h : ¬ c) (hg : Ev g r) : Ev (fun k => if c then f k else g k) r :=
  Ev.congr (fun _ => if_neg h) hg
theorem evI {α : Type} {c : Prop} [Decidable c] {f g : Nat → Option α} {r : α} (hf : c → Ev f r) (hg : ¬ c → Ev g r) : Ev (fun k => if c then f k else g k) r := by
  by_cases h : c
  · exact evP h (hf h)
  · exact evN h (hg h)
theorem evB {α β : Type} {a : α} {f : Nat → α → Option β} {r : β} (h : Ev (fun k => f k a) r) : Ev (fun k => (some a).bind (f k)) r := h
theorem evS {α β : Type} {x : Option α} {a : α} {f : Nat → α → Option β} {r : β} (e : x = some a) (h : Ev (fun k => f k a) r) : Ev (fun k => x.bind (f k)) r := by
  subst e; exact h
theorem evC {α : Type} {x : Option α} {r : α} (h : x = some r) : Ev (fun _ => x) r := by subst h; exact Ev.now _
theorem w64 {i : Int} (h0 : -9223372036854775808 ≤ i) (h1 : i ≤ 9223372036854775807) : wrap64 i = i := by unfold wrap64; omega
theorem rd_nat (l : List Int) (i : Nat) : rd l (i : Int) = l.getD i 0 := rfl
theorem rd_cons_drop (l : List Int) (i : Nat) (h : i < l.length) : l.drop i = rd l (i : Int) :: l.drop (i + 1) := by
  rw [rd_nat, List.drop_eq_getElem_cons h, List.getD_eq_getElem?_getD, List.getElem?_eq_getElem h]; rfl
theorem set_mid {α : Type} (a b : List α) (x y : α) (i : Nat) (h : a.length = i) : (a ++ x :: b).set i y = (a ++ [y]) ++ b := by
  subst h
  rw [List.set_append_right _ _ (Nat.le_refl _), Nat.sub_self, List.set_cons_zero]; simp
theorem take_snoc {α : Type} (l : List α) (z : α) (i : Nat) (h : i < l.length) : l.take i ++ [l.getD i z] = l.take (i + 1) := by
  rw [List.take_succ_eq_append_getElem h, List.getD_eq_getElem?_getD, List.getElem?_eq_getElem h]; rfl

theorem spec_in_eq (a b c : Int) : spec_l1In.f a b c = some (decide (a ≥ b) && decide (a ≤ c)) := by
  unfold spec_l1In.f
  by_cases h : a ≥ b <;> simp [h]

theorem impl_in_eq (a b c : Int) : impl_in.f a b c = some (decide (a ≥ b) && decide (a ≤ c)) := by
  unfold impl_in.f
  by_cases h : a ≥ b <;> simp [h]

/-! Nodes: made over, marked off, sized. -/
theorem getD_take_mapN {α β : Type} (g : α → β) (l : List α) (z : α) (i d : Nat) (y : β) (h : i < l.length) :
    (((l.take i).map g) ++ List.replicate (d + 1) y).set i (g (l.getD i z)) = ((l.take (i + 1)).map g) ++ List.replicate d y := by
  rw [List.replicate_succ, set_mid _ _ _ _ _ (by rw [List.length_map, List.length_take]; omega), ← take_snoc l z i h, List.map_append]; rfl
def ofN (e : S45) : S48 := ⟨e.f0, e.f1, e.f2, e.f3, e.f4, e.f5, e.f6⟩
theorem toNodeS_ev (l : List S45) (hm : l.length ≤ 1048576) : Ev (fun k => laws_toNodeS.f k l) (l.map ofN) := by
  have loop : ∀ (d i : Nat), i + d = l.length → Ev (fun k => laws_toNodeS.l0 k l (((l.take i).map ofN) ++ List.replicate d z48) (i : Int)) (l.map ofN) := by
    intro d
    induction d with
    | zero =>
      intro i h
      refine Ev.step (fun k => by rw [laws_toNodeS.l0]) ?_
      refine evN (by omega) ?_
      have e : ((l.take i).map ofN) ++ List.replicate 0 z48 = l.map ofN := by rw [List.replicate_zero, List.append_nil, List.take_of_length_le (by omega)]
      rw [e]; exact Ev.now _
    | succ d ih =>
      intro i h
      have hi : i < l.length := by omega
      have q : (i : Int) < ((((l.take i).map ofN) ++ List.replicate (d + 1) z48).length : Int) := by simp only [List.length_append, List.length_map, List.length_take, List.length_replicate]; omega
      have w : wrap64 ((i : Int) + 1) = ((i + 1 : Nat) : Int) := w64 (by omega) (by omega)
      refine Ev.step (fun k => by rw [laws_toNodeS.l0]) ?_
      refine evP (by omega) ?_
      refine evP (by omega) ?_
      refine evS (a := ((rd_T45 l (i : Int)).f0, (rd_T45 l (i : Int)).f1, (rd_T45 l (i : Int)).f2, (rd_T45 l (i : Int)).f3, (rd_T45 l (i : Int)).f4, (rd_T45 l (i : Int)).f5, (rd_T45 l (i : Int)).f6)) rfl ?_
      refine evP q ?_
      have e := getD_take_mapN ofN l z45 i d z48 hi
      rw [w]
      have e2 : (((l.take i).map ofN) ++ List.replicate (d + 1) z48).set (i : Int).toNat (ofN (rd_T45 l (i : Int))) = ((l.take (i + 1)).map ofN) ++ List.replicate d z48 := e
      unfold ofN at e2 ⊢
      dsimp only
      rw [e2]
      exact ih (i + 1) (by omega)
  unfold laws_toNodeS.f
  refine evP (by omega) ?_
  refine evP (by rw [Int.toNat_natCast]; omega) ?_
  rw [Int.toNat_natCast]
  exact loop l.length 0 (by omega)
theorem eqNode_self (a b c d e : Int) (f g : ByteArray) : laws_eqNode.f a b c d e f g a b c d e f g = some true := by
  unfold laws_eqNode.f
  simp
theorem eqNodeS_self (l : List S48) (hm : l.length ≤ 1048576) : Ev (fun k => laws_eqNodeS.f k l l) true := by
  have loop : ∀ (d i : Nat), i + d = l.length → Ev (fun k => laws_eqNodeS.l0 k l l (i : Int)) true := by
    intro d
    induction d with
    | zero =>
      intro i h
      refine Ev.step (fun k => by rw [laws_eqNodeS.l0]) ?_
      exact evN (by omega) (Ev.now _)
    | succ d ih =>
      intro i h
      have w : wrap64 ((i : Int) + 1) = ((i + 1 : Nat) : Int) := w64 (by omega) (by omega)
      refine Ev.step (fun k => by rw [laws_eqNodeS.l0]) ?_
      refine evP (by omega) ?_
      refine evP (by omega) ?_
      refine evP (by omega) ?_
      refine evS (eqNode_self _ _ _ _ _ _ _) ?_
      refine evP rfl ?_
      rw [w]
      exact ih (i + 1) (by omega)
  unfold laws_eqNodeS.f
  refine evP rfl ?_
  exact loop l.length 0 (by omega)
theorem szNodeS_ev (l : List S45) (hl : l.length * 72 ≤ 140737488351232) : ∃ r, Ev (fun k => laws_szNodeS.f k l 1048576) r ∧ (1048576 < l.length → r < 0) := by
  have loop : ∀ (d i : Nat) (x : Int), i + d = l.length → ∃ r, Ev (fun k => laws_szNodeS.l0 k l x (i : Int)) r := by
    intro d
    induction d with
    | zero =>
      intro i x h
      refine ⟨x, Ev.step (fun k => by rw [laws_szNodeS.l0]) ?_⟩
      exact evN (by omega) (Ev.now _)
    | succ d ih =>
      intro i x h
      have w : wrap64 ((i : Int) + 1) = ((i + 1 : Nat) : Int) := w64 (by omega) (by omega)
      have tot : ∀ a b c d e f g h, ∃ t, laws_szNode.f a b c d e f g h = some t := by
        intro a b c d e f g h
        unfold laws_szNode.f
        repeat' split
        all_goals exact ⟨_, rfl⟩
      obtain ⟨t, ht⟩ := tot ((rd_T45 l (i : Int)).f0) ((rd_T45 l (i : Int)).f1) ((rd_T45 l (i : Int)).f2) ((rd_T45 l (i : Int)).f3) ((rd_T45 l (i : Int)).f4) ((rd_T45 l (i : Int)).f5) ((rd_T45 l (i : Int)).f6) x
      obtain ⟨r, hr⟩ := ih (i + 1) t (by omega)
      by_cases c : t < 0
      · refine ⟨-1, Ev.step (fun k => by rw [laws_szNodeS.l0]) ?_⟩
        refine evP (by omega) ?_
        refine evP (by omega) ?_
        refine evS ht ?_
        exact evP c (Ev.now _)
      · refine ⟨r, Ev.step (fun k => by rw [laws_szNodeS.l0]) ?_⟩
        refine evP (by omega) ?_
        refine evP (by omega) ?_
        refine evS ht ?_
        refine evN c ?_
        rw [w]; exact hr
  unfold laws_szNodeS.f
  rw [w64 (by omega) (by omega)]
  by_cases h : l.length ≤ 1048576
  · obtain ⟨r, hr⟩ := loop l.length 0 (1048576 - (l.length : Int)) (by omega)
    exact ⟨r, evN (by omega) hr, fun _ => by omega⟩
  · exact ⟨-1, evP (by omega) (Ev.now _), fun _ => by omega⟩

/-! Words and keys: both answer alike. -/
theorem word_ev (s : ByteArray) (hs : s.size ≤ 9223372036854775807) : ∃ r, Ev (fun k => spec_IsWord.f k s) r ∧ Ev (fun k => impl_IsWord.f k s) r ∧ (s.size = 0 → r = false) := by
  have loop : ∀ (d i : Nat), i + d = s.size → ∃ r, Ev (fun k => spec_IsWord.l0 k s (i : Int)) r ∧ Ev (fun k => impl_IsWord.l0 k s (i : Int)) r ∧ (s.size = 0 → r = false) := by
    intro d
    induction d with
    | zero =>
      intro i h
      refine ⟨decide ((s.size : Int) ≥ 1) && decide ((s.size : Int) ≤ 8), Ev.step (fun k => by rw [spec_IsWord.l0]) ?_, Ev.step (fun k => by rw [impl_IsWord.l0]) ?_, fun h => by rw [h]; rfl⟩
      · exact evN (by omega) (evS (spec_in_eq _ _ _) (Ev.now _))
      · exact evN (by omega) (evS (impl_in_eq _ _ _) (Ev.now _))
    | succ d ih =>
      intro i h
      have w : wrap64 ((i : Int) + 1) = ((i + 1 : Nat) : Int) := w64 (by omega) (by omega)
      obtain ⟨r, e1, e2, e3⟩ := ih (i + 1) (by omega)
      have let_ : ∀ b, spec_l2Letter.f b = some (decide (b ≥ 97) && decide (b ≤ 122)) := by
        intro b; unfold spec_l2Letter.f
        by_cases h : b ≥ 97 <;> simp [h]
      by_cases c1 : bt s (i : Int) < 97
      · refine ⟨false, Ev.step (fun k => by rw [spec_IsWord.l0]) ?_, Ev.step (fun k => by rw [impl_IsWord.l0]) ?_, fun _ => rfl⟩
        · refine evP (by omega) ?_
          refine evP (by omega) ?_
          refine evS (let_ _) ?_
          refine evN (by simp; omega) (Ev.now _)
        · refine evP (by omega) ?_
          refine evP (by omega) ?_
          exact evP c1 (Ev.now _)
      · by_cases c2 : bt s (i : Int) > 122
        · refine ⟨false, Ev.step (fun k => by rw [spec_IsWord.l0]) ?_, Ev.step (fun k => by rw [impl_IsWord.l0]) ?_, fun _ => rfl⟩
          · refine evP (by omega) ?_
            refine evP (by omega) ?_
            refine evS (let_ _) ?_
            refine evN (by simp; omega) (Ev.now _)
          · refine evP (by omega) ?_
            refine evP (by omega) ?_
            exact evN c1 (evP c2 (Ev.now _))
        · refine ⟨r, Ev.step (fun k => by rw [spec_IsWord.l0]) ?_, Ev.step (fun k => by rw [impl_IsWord.l0]) ?_, e3⟩
          · refine evP (by omega) ?_
            refine evP (by omega) ?_
            refine evS (let_ _) ?_
            refine evP (by simp; omega) ?_
            rw [w]; exact e1
          · refine evP (by omega) ?_
            refine evP (by omega) ?_
            refine evN c1 (evN c2 ?_)
            rw [w]; exact e2
  exact loop s.size 0 (by omega)
def keyL : List ByteArray := [(⟨#[102, 117, 110]⟩ : ByteArray), (⟨#[97, 112, 112]⟩ : ByteArray), (⟨#[108, 101, 116]⟩ : ByteArray), (⟨#[114, 101, 99]⟩ : ByteArray), (⟨#[105, 102]⟩ : ByteArray), (⟨#[97, 100, 100]⟩ : ByteArray), (⟨#[115, 117, 98]⟩ : ByteArray), (⟨#[108, 101, 115, 115]⟩ : ByteArray), (⟨#[115, 97, 109, 101]⟩ : ByteArray), (⟨#[112, 97, 105, 114]⟩ : ByteArray), (⟨#[102, 115, 116]⟩ : ByteArray), (⟨#[115, 110, 100]⟩ : ByteArray), (⟨#[110, 105, 108]⟩ : ByteArray), (⟨#[99, 111, 110, 115]⟩ : ByteArray), (⟨#[109, 97, 116, 99, 104]⟩ : ByteArray), (⟨#[114, 101, 102]⟩ : ByteArray), (⟨#[103, 101, 116]⟩ : ByteArray), (⟨#[115, 101, 116]⟩ : ByteArray), (⟨#[114, 97, 105, 115, 101]⟩ : ByteArray), (⟨#[116, 114, 121]⟩ : ByteArray)]
def keyS : ByteArray := ⟨#[102, 117, 110, 32, 97, 112, 112, 32, 108, 101, 116, 32, 114, 101, 99, 32, 105, 102, 32, 97, 100, 100, 32, 115, 117, 98, 32, 108, 101, 115, 115, 32, 115, 97, 109, 101, 32, 112, 97, 105, 114, 32, 102, 115, 116, 32, 115, 110, 100, 32, 110, 105, 108, 32, 99, 111, 110, 115, 32, 109, 97, 116, 99, 104, 32, 114, 101, 102, 32, 103, 101, 116, 32, 115, 101, 116, 32, 114, 97, 105, 115, 101, 32, 116, 114, 121]⟩
theorem keys_split : strings_Split.f keyS (⟨#[32]⟩ : ByteArray) = some keyL := by decide +kernel
theorem key_ev (s : ByteArray) : ∃ r, Ev (fun k => spec_IsKey.f k s) r ∧ Ev (fun k => impl_IsKey.f k s) r := by
  have h20 : keyL.length = 20 := rfl
  have loop : ∀ (d i : Nat), i + d = 20 → ∃ r, Ev (fun k => spec_IsKey.l0 k s keyL (i : Int)) r ∧ Ev (fun k => impl_IsKey.l0 k s keyL (keyL.length : Int) (i : Int)) r := by
    intro d
    induction d with
    | zero =>
      intro i h
      refine ⟨false, Ev.step (fun k => by rw [spec_IsKey.l0]) ?_, Ev.step (fun k => by rw [impl_IsKey.l0]) ?_⟩
      · exact evN (by omega) (Ev.now _)
      · exact evN (by omega) (Ev.now _)
    | succ d ih =>
      intro i h
      have w : wrap64 ((i : Int) + 1) = ((i + 1 : Nat) : Int) := w64 (by omega) (by omega)
      obtain ⟨r, e1, e2⟩ := ih (i + 1) (by omega)
      by_cases c : (rdOf ByteArray.empty keyL (i : Int)).toList = s.toList
      · refine ⟨true, Ev.step (fun k => by rw [spec_IsKey.l0]) ?_, Ev.step (fun k => by rw [impl_IsKey.l0]) ?_⟩
        · exact evP (by omega) (evP (by omega) (evP c (Ev.now _)))
        · exact evP (by omega) (evP (by omega) (evP (by omega) (evP c (Ev.now _))))
      · refine ⟨r, Ev.step (fun k => by rw [spec_IsKey.l0]) ?_, Ev.step (fun k => by rw [impl_IsKey.l0]) ?_⟩
        · refine evP (by omega) (evP (by omega) (evN c ?_))
          rw [w]; exact e1
        · refine evP (by omega) (evP (by omega) (evP (by omega) (evN c ?_)))
          rw [w]; exact e2
  obtain ⟨r, e1, e2⟩ := loop 20 0 rfl
  refine ⟨r, ?_, ?_⟩
  · unfold spec_IsKey.f
    exact evS (a := keyL) rfl e1
  · unfold impl_IsKey.f
    exact evS (a := keyL) keys_split e2
theorem name_ev (s : ByteArray) (hs : s.size ≤ 9223372036854775807) : ∃ r, Ev (fun k => spec_l3Name.f k s) r ∧ Ev (fun k => impl_isName.f k s) r ∧ (s.size = 0 → r = false) := by
  obtain ⟨a, a1, a2, a3⟩ := word_ev s hs
  obtain ⟨b, b1, b2⟩ := key_ev s
  unfold spec_l3Name.f impl_isName.f
  cases a with
  | false => exact ⟨false, Ev.bind a1 (evN (by simp) (Ev.now _)), Ev.bind a2 (evN (by simp) (Ev.now _)), fun _ => rfl⟩
  | true => exact ⟨!b, Ev.bind a1 (evP rfl (Ev.bind b1 (Ev.now _))), Ev.bind a2 (evP rfl (Ev.bind b2 (Ev.now _))), fun h => absurd (a3 h) (by simp)⟩

/-! Arity, names, fields: both answer alike. -/
def arityM (t : Int) : Nat := if t = 3 ∨ t = 10 ∨ t = 11 ∨ t = 15 ∨ t = 16 ∨ t = 18 then 1 else if t = 4 ∨ t = 5 ∨ t = 6 ∨ t = 8 ∨ t = 9 ∨ t = 13 ∨ t = 17 ∨ t = 19 then 2 else if t = 7 ∨ t = 14 then 3 else 0
theorem arityM_le (t : Int) : arityM t ≤ 3 := by
  unfold arityM
  repeat' split
  all_goals omega
theorem ev_two {α : Type} {g : Nat → Option α} {r : α} (h : ∀ k, g (k + 2) = some r) : Ev g r := by
  refine ⟨2, fun k hk => ?_⟩
  obtain ⟨j, rfl⟩ := Nat.exists_eq_add_of_le' hk
  exact h j
theorem spec_arity_ev (t : Int) : Ev (fun k => spec_Arity.f k t) (arityM t : Int) := by
  refine ev_two (fun k => ?_)
  unfold spec_Arity.f spec_Arity.j0 spec_Arity.j1 arityM
  dsimp only
  by_cases h3 : t = 3
  · subst h3; rfl
  by_cases h10 : t = 10
  · subst h10; rfl
  by_cases h11 : t = 11
  · subst h11; rfl
  by_cases h15 : t = 15
  · subst h15; rfl
  by_cases h16 : t = 16
  · subst h16; rfl
  by_cases h18 : t = 18
  · subst h18; rfl
  by_cases h4 : t = 4
  · subst h4; rfl
  by_cases h5 : t = 5
  · subst h5; rfl
  by_cases h6 : t = 6
  · subst h6; rfl
  by_cases h8 : t = 8
  · subst h8; rfl
  by_cases h9 : t = 9
  · subst h9; rfl
  by_cases h13 : t = 13
  · subst h13; rfl
  by_cases h17 : t = 17
  · subst h17; rfl
  by_cases h19 : t = 19
  · subst h19; rfl
  by_cases h7 : t = 7
  · subst h7; rfl
  by_cases h14 : t = 14
  · subst h14; rfl
  simp [h3, h10, h11, h15, h16, h18, h4, h5, h6, h8, h9, h13, h17, h19, h7, h14]
theorem impl_arity_ev (t : Int) : Ev (fun k => impl_Arity.f k t) (arityM t : Int) := by
  refine ev_two (fun k => ?_)
  unfold impl_Arity.f impl_Arity.j0 impl_Arity.j1 arityM
  dsimp only
  by_cases h3 : t = 3
  · subst h3; rfl
  by_cases h10 : t = 10
  · subst h10; rfl
  by_cases h11 : t = 11
  · subst h11; rfl
  by_cases h15 : t = 15
  · subst h15; rfl
  by_cases h16 : t = 16
  · subst h16; rfl
  by_cases h18 : t = 18
  · subst h18; rfl
  by_cases h4 : t = 4
  · subst h4; rfl
  by_cases h5 : t = 5
  · subst h5; rfl
  by_cases h6 : t = 6
  · subst h6; rfl
  by_cases h8 : t = 8
  · subst h8; rfl
  by_cases h9 : t = 9
  · subst h9; rfl
  by_cases h13 : t = 13
  · subst h13; rfl
  by_cases h17 : t = 17
  · subst h17; rfl
  by_cases h19 : t = 19
  · subst h19; rfl
  by_cases h7 : t = 7
  · subst h7; rfl
  by_cases h14 : t = 14
  · subst h14; rfl
  simp [h3, h10, h11, h15, h16, h18, h4, h5, h6, h8, h9, h13, h17, h19, h7, h14]
def namesM (t : Int) : Nat := if t = 1 ∨ t = 3 ∨ t = 5 ∨ t = 19 then 1 else if t = 6 ∨ t = 14 then 2 else 0
theorem spec_names_ev (t : Int) : Ev (fun k => spec_l3Names.f k t) (namesM t : Int) := by
  refine ev_two (fun k => ?_)
  unfold spec_l3Names.f spec_l3Names.j0 namesM
  dsimp only
  by_cases h1 : t = 1
  · subst h1; rfl
  by_cases h3 : t = 3
  · subst h3; rfl
  by_cases h5 : t = 5
  · subst h5; rfl
  by_cases h19 : t = 19
  · subst h19; rfl
  by_cases h6 : t = 6
  · subst h6; rfl
  by_cases h14 : t = 14
  · subst h14; rfl
  simp [h1, h3, h5, h19, h6, h14]
theorem impl_names_ev (t : Int) : Ev (fun k => impl_namesOf.f k t) (namesM t : Int) := by
  refine ev_two (fun k => ?_)
  unfold impl_namesOf.f impl_namesOf.j0 namesM
  dsimp only
  by_cases h1 : t = 1
  · subst h1; rfl
  by_cases h3 : t = 3
  · subst h3; rfl
  by_cases h5 : t = 5
  · subst h5; rfl
  by_cases h19 : t = 19
  · subst h19; rfl
  by_cases h6 : t = 6
  · subst h6; rfl
  by_cases h14 : t = 14
  · subst h14; rfl
  simp [h1, h3, h5, h19, h6, h14]
def kidsM (n : S48) : List Int := ([n.f1, n.f2, n.f3] : List Int).take (arityM n.f0)
theorem kidsM_length (n : S48) : (kidsM n).length = arityM n.f0 := by
  unfold kidsM
  rw [List.length_take]
  exact Nat.min_eq_left (arityM_le n.f0)
theorem spec_kids_ev (n : S48) : Ev (fun k => spec_Kids.f k n.f0 n.f1 n.f2 n.f3 n.f4 n.f5 n.f6) (kidsM n) := by
  have := arityM_le n.f0
  unfold spec_Kids.f
  refine evB ?_
  refine Ev.bind (spec_arity_ev n.f0) ?_
  refine evP (by omega) ?_
  refine evP (by simp; omega) ?_
  exact Ev.now _
theorem impl_kids_ev (n : S48) : Ev (fun k => impl_Kids.f k n.f0 n.f1 n.f2 n.f3 n.f4 n.f5 n.f6) (kidsM n) := by
  have := arityM_le n.f0
  unfold impl_Kids.f
  refine evB ?_
  refine Ev.bind (impl_arity_ev n.f0) ?_
  refine Ev.bind (impl_arity_ev n.f0) ?_
  refine evP (by omega) ?_
  refine evP (by omega) ?_
  refine evP (by simp; omega) ?_
  exact Ev.now _
def valM (t v : Int) : Bool := if t = 2 then decide (v ≥ 0) && decide (v ≤ 65535) else if t = 8 then decide (v ≥ 0) && decide (v ≤ 3) else v == 0
/-- What is beyond the arity is zero. -/
def restM (n : S48) : Bool := (decide (arityM n.f0 < 1) && n.f1 != 0) || (decide (arityM n.f0 < 2) && n.f2 != 0) || (decide (arityM n.f0 < 3) && n.f3 != 0)
theorem spec_j1 (n : S48) (b : Bool) : Ev (fun k => spec_l3Fields.j1 k b n.f0 n.f1 n.f2 n.f3 n.f4 n.f5 n.f6) (!b && valM n.f0 n.f4) := by
  refine Ev.step (fun k => by rw [spec_l3Fields.j1]) ?_
  cases b with
  | true => exact evP rfl (Ev.now _)
  | false =>
    refine evN (by simp) ?_
    unfold valM
    by_cases h2 : n.f0 = 2
    · refine evP h2 (evS (spec_in_eq _ _ _) ?_)
      rw [if_pos h2]; exact Ev.now _
    · refine evN h2 ?_
      rw [if_neg h2]
      by_cases h8 : n.f0 = 8
      · refine evP h8 (evS (spec_in_eq _ _ _) ?_)
        rw [if_pos h8]; exact Ev.now _
      · refine evN h8 ?_
        rw [if_neg h8]; exact Ev.now _
theorem size_toList (s : ByteArray) : s.toList = ([] : List UInt8) ↔ s.size = 0 := by
  rw [ByteArray.toList_eq, ← data_length s]
  cases s.data.toList <;> simp
def fieldsM (n : S48) (a b : Bool) : Bool :=
  decide (n.f0 ≥ 1) && decide (n.f0 ≤ 19) && !restM n && (if namesM n.f0 > 0 then a else decide (n.f5.size = 0)) && (if namesM n.f0 > 1 then b else decide (n.f6.size = 0)) && valM n.f0 n.f4
theorem spec_j0_tail (n : S48) (b : Bool) (hb : Ev (fun k => spec_l3Name.f k n.f6) b) (hb0 : n.f6.size = 0 → b = false) :
    Ev (fun k => (spec_l3Name.f k n.f6).bind fun t => (if ((decide ((namesM n.f0 : Int) > 1)) != t) = true then (spec_l3Fields.j1 k true n.f0 n.f1 n.f2 n.f3 n.f4 n.f5 n.f6) else (if (namesM n.f0 : Int) < 2 then (spec_l3Fields.j1 k (n.f6.toList != ([] : List UInt8)) n.f0 n.f1 n.f2 n.f3 n.f4 n.f5 n.f6) else (spec_l3Fields.j1 k false n.f0 n.f1 n.f2 n.f3 n.f4 n.f5 n.f6))))
      ((if namesM n.f0 > 1 then b else decide (n.f6.size = 0)) && valM n.f0 n.f4) := by
  refine Ev.bind hb ?_
  by_cases c : namesM n.f0 > 1
  · rw [if_pos c]
    have c' : decide ((namesM n.f0 : Int) > 1) = true := decide_eq_true (by omega)
    cases b with
    | true =>
      refine evN (by rw [c']; decide) ?_
      refine evN (by omega) ?_
      exact spec_j1 n false
    | false =>
      refine evP (by rw [c']; decide) ?_
      exact spec_j1 n true
  · rw [if_neg c]
    have c' : decide ((namesM n.f0 : Int) > 1) = false := decide_eq_false (by omega)
    cases b with
    | true =>
      refine evP (by rw [c']; decide) ?_
      rw [decide_eq_false (fun h => by have := hb0 h; cases this)]
      exact spec_j1 n true
    | false =>
      refine evN (by rw [c']; decide) ?_
      refine evP (by omega) ?_
      have e : (n.f6.toList != ([] : List UInt8)) = !decide (n.f6.size = 0) := by
        by_cases h : n.f6.size = 0
        · rw [(size_toList _).2 h, decide_eq_true h]; rfl
        · rw [decide_eq_false h]
          have := fun x => h ((size_toList _).1 x)
          simpa using this
      have := spec_j1 n (n.f6.toList != ([] : List UInt8))
      rw [e] at this ⊢
      rw [Bool.not_not] at this
      exact this
theorem spec_j0 (n : S48) (a b x : Bool) (ha : Ev (fun k => spec_l3Name.f k n.f5) a) (ha0 : n.f5.size = 0 → a = false) (hb : Ev (fun k => spec_l3Name.f k n.f6) b) (hb0 : n.f6.size = 0 → b = false) :
    Ev (fun k => spec_l3Fields.j0 k x n.f0 n.f1 n.f2 n.f3 n.f4 n.f5 n.f6) (!x && ((if namesM n.f0 > 0 then a else decide (n.f5.size = 0)) && ((if namesM n.f0 > 1 then b else decide (n.f6.size = 0)) && valM n.f0 n.f4))) := by
  refine Ev.step (fun k => by rw [spec_l3Fields.j0]) ?_
  cases x with
  | true => exact evP rfl (Ev.now _)
  | false =>
    refine evN (by simp) ?_
    refine Ev.bind (spec_names_ev n.f0) ?_
    refine Ev.bind ha ?_
    have tl := spec_j0_tail n b hb hb0
    by_cases c : namesM n.f0 > 0
    · rw [if_pos c]
      have c' : decide ((namesM n.f0 : Int) > 0) = true := decide_eq_true (by omega)
      cases a with
      | true =>
        refine evN (by rw [c']; decide) ?_
        refine evN (by omega) ?_
        exact tl
      | false =>
        refine evP (by rw [c']; decide) ?_
        exact spec_j1 n true
    · rw [if_neg c]
      have c' : decide ((namesM n.f0 : Int) > 0) = false := decide_eq_false (by omega)
      cases a with
      | true =>
        refine evP (by rw [c']; decide) ?_
        rw [decide_eq_false (fun h => by have := ha0 h; cases this)]
        exact spec_j1 n true
      | false =>
        refine evN (by rw [c']; decide) ?_
        refine evP (by omega) ?_
        by_cases h : n.f5.size = 0
        · refine evP ((size_toList _).2 h) ?_
          rw [decide_eq_true h]
          exact tl
        · refine evN (fun x => h ((size_toList _).1 x)) ?_
          rw [decide_eq_false h]
          exact spec_j1 n true
theorem spec_fields_ev (n : S48) (a b : Bool) (ha : Ev (fun k => spec_l3Name.f k n.f5) a) (ha0 : n.f5.size = 0 → a = false) (hb : Ev (fun k => spec_l3Name.f k n.f6) b) (hb0 : n.f6.size = 0 → b = false) :
    Ev (fun k => spec_l3Fields.f k n.f0 n.f1 n.f2 n.f3 n.f4 n.f5 n.f6) (fieldsM n a b) := by
  have j := spec_j0 n a b
  unfold spec_l3Fields.f fieldsM
  refine evS (spec_in_eq _ _ _) ?_
  by_cases hin : (decide (n.f0 ≥ 1) && decide (n.f0 ≤ 19)) = true
  · refine evP hin ?_
    rw [hin, Bool.true_and, Bool.and_assoc, Bool.and_assoc]
    refine Ev.bind (spec_arity_ev n.f0) ?_
    have y : Ev (fun k => if (arityM n.f0 : Int) < 3 then spec_l3Fields.j0 k (n.f3 != 0) n.f0 n.f1 n.f2 n.f3 n.f4 n.f5 n.f6 else spec_l3Fields.j0 k false n.f0 n.f1 n.f2 n.f3 n.f4 n.f5 n.f6)
        (!(decide (arityM n.f0 < 3) && n.f3 != 0) && ((if namesM n.f0 > 0 then a else decide (n.f5.size = 0)) && ((if namesM n.f0 > 1 then b else decide (n.f6.size = 0)) && valM n.f0 n.f4))) := by
      by_cases c : arityM n.f0 < 3
      · refine evP (by omega) ?_
        rw [decide_eq_true c, Bool.true_and]; exact j _ ha ha0 hb hb0
      · refine evN (by omega) ?_
        rw [decide_eq_false c, Bool.false_and]; exact j _ ha ha0 hb hb0
    have z : Ev (fun k => if (arityM n.f0 : Int) < 2 then (if n.f2 = 0 then (if (arityM n.f0 : Int) < 3 then spec_l3Fields.j0 k (n.f3 != 0) n.f0 n.f1 n.f2 n.f3 n.f4 n.f5 n.f6 else spec_l3Fields.j0 k false n.f0 n.f1 n.f2 n.f3 n.f4 n.f5 n.f6) else spec_l3Fields.j0 k true n.f0 n.f1 n.f2 n.f3 n.f4 n.f5 n.f6) else (if (arityM n.f0 : Int) < 3 then spec_l3Fields.j0 k (n.f3 != 0) n.f0 n.f1 n.f2 n.f3 n.f4 n.f5 n.f6 else spec_l3Fields.j0 k false n.f0 n.f1 n.f2 n.f3 n.f4 n.f5 n.f6))
        (!((decide (arityM n.f0 < 2) && n.f2 != 0) || (decide (arityM n.f0 < 3) && n.f3 != 0)) && ((if namesM n.f0 > 0 then a else decide (n.f5.size = 0)) && ((if namesM n.f0 > 1 then b else decide (n.f6.size = 0)) && valM n.f0 n.f4))) := by
      by_cases c : arityM n.f0 < 2
      · refine evP (by omega) ?_
        rw [decide_eq_true c, Bool.true_and]
        by_cases h : n.f2 = 0
        · refine evP h ?_
          rw [show (n.f2 != 0) = false by simp [h], Bool.false_or]; exact y
        · refine evN h ?_
          rw [show (n.f2 != 0) = true by simp [h], Bool.true_or]; exact j _ ha ha0 hb hb0
      · refine evN (by omega) ?_
        rw [decide_eq_false c, Bool.false_and, Bool.false_or]; exact y
    have r : restM n = ((decide (arityM n.f0 < 1) && n.f1 != 0) || ((decide (arityM n.f0 < 2) && n.f2 != 0) || (decide (arityM n.f0 < 3) && n.f3 != 0))) := by
      unfold restM; rw [Bool.or_assoc]
    rw [r]
    by_cases c : arityM n.f0 < 1
    · refine evP (by omega) ?_
      rw [decide_eq_true c, Bool.true_and]
      by_cases h : n.f1 = 0
      · refine evP h ?_
        rw [show (n.f1 != 0) = false by simp [h], Bool.false_or]; exact z
      · refine evN h ?_
        rw [show (n.f1 != 0) = true by simp [h], Bool.true_or]; exact j _ ha ha0 hb hb0
    · refine evN (by omega) ?_
      rw [decide_eq_false c, Bool.false_and, Bool.false_or]; exact z
  · refine evN hin ?_
    rw [Bool.not_eq_true] at hin
    rw [hin]; exact Ev.now _
theorem impl_fits_ev (s : ByteArray) (a u : Bool) (ha : Ev (fun k => impl_isName.f k s) a) : Ev (fun k => impl_nameFits.f k s u) (if u = true then a else decide (s.size = 0)) := by
  unfold impl_nameFits.f
  cases u with
  | true => exact evP rfl (Ev.bind ha (Ev.now _))
  | false =>
    refine evN (by simp) ?_
    rw [if_neg (by simp)]
    have e : (s.toList == ([] : List UInt8)) = decide (s.size = 0) := by
      by_cases h : s.size = 0
      · rw [(size_toList _).2 h, decide_eq_true h]; rfl
      · rw [decide_eq_false h]
        have := fun x => h ((size_toList _).1 x)
        simpa using this
    rw [e]; exact Ev.now _
theorem impl_rest_ev (n : S48) : Ev (fun k => impl_fieldsOk.l0 k [n.f1, n.f2, n.f3] ((([n.f1, n.f2, n.f3] : List Int).length : Int)) 0 n.f0 n.f1 n.f2 n.f3 n.f4 n.f5 n.f6) (!restM n && valM n.f0 n.f4) := by
  have e3 : Ev (fun k => impl_fieldsOk.l0 k [n.f1, n.f2, n.f3] ((([n.f1, n.f2, n.f3] : List Int).length : Int)) 3 n.f0 n.f1 n.f2 n.f3 n.f4 n.f5 n.f6) (valM n.f0 n.f4) := by
    refine Ev.step (fun k => by rw [impl_fieldsOk.l0]) ?_
    refine evN (by simp) ?_
    unfold valM
    by_cases h2 : n.f0 = 2
    · refine evP h2 (evS (impl_in_eq _ _ _) ?_)
      rw [if_pos h2]; exact Ev.now _
    · refine evN h2 ?_
      rw [if_neg h2]
      by_cases h8 : n.f0 = 8
      · refine evP h8 (evS (impl_in_eq _ _ _) ?_)
        rw [if_pos h8]; exact Ev.now _
      · refine evN h8 ?_
        rw [if_neg h8]; exact Ev.now _
  have step : ∀ (i : Nat) (x : Int) (r : Bool), i < 3 → rd [n.f1, n.f2, n.f3] (i : Int) = x → Ev (fun k => impl_fieldsOk.l0 k [n.f1, n.f2, n.f3] ((([n.f1, n.f2, n.f3] : List Int).length : Int)) ((i + 1 : Nat) : Int) n.f0 n.f1 n.f2 n.f3 n.f4 n.f5 n.f6) r →
      Ev (fun k => impl_fieldsOk.l0 k [n.f1, n.f2, n.f3] ((([n.f1, n.f2, n.f3] : List Int).length : Int)) (i : Int) n.f0 n.f1 n.f2 n.f3 n.f4 n.f5 n.f6) (!(decide (arityM n.f0 < i + 1) && x != 0) && r) := by
    intro i x r hi hx hr
    have w : wrap64 ((i : Int) + 1) = ((i + 1 : Nat) : Int) := w64 (by omega) (by omega)
    refine Ev.step (fun k => by rw [impl_fieldsOk.l0]) ?_
    refine evP (by simp; omega) ?_
    refine evP (by omega) ?_
    refine evP (by simp; omega) ?_
    refine Ev.bind (impl_arity_ev n.f0) ?_
    rw [hx, w]
    by_cases c : arityM n.f0 < i + 1
    · refine evP (by omega) ?_
      rw [decide_eq_true c, Bool.true_and]
      by_cases h : x = 0
      · refine evP h ?_
        rw [show (x != 0) = false by simp [h]]; exact hr
      · refine evN h ?_
        rw [show (x != 0) = true by simp [h]]; exact Ev.now _
    · refine evN (by omega) ?_
      rw [decide_eq_false c]; exact hr
  have e2 := step 2 n.f3 _ (by omega) rfl e3
  have e1 := step 1 n.f2 _ (by omega) rfl e2
  have e0 := step 0 n.f1 _ (by omega) rfl e1
  have : (!restM n && valM n.f0 n.f4) = (!(decide (arityM n.f0 < 0 + 1) && n.f1 != 0) && (!(decide (arityM n.f0 < 1 + 1) && n.f2 != 0) && (!(decide (arityM n.f0 < 2 + 1) && n.f3 != 0) && valM n.f0 n.f4))) := by
    unfold restM
    cases valM n.f0 n.f4 <;> simp [Bool.and_assoc]
  rw [this]; exact e0
theorem impl_fields_ev (n : S48) (a b : Bool) (ha : Ev (fun k => impl_isName.f k n.f5) a) (hb : Ev (fun k => impl_isName.f k n.f6) b) :
    Ev (fun k => impl_fieldsOk.f k n.f0 n.f1 n.f2 n.f3 n.f4 n.f5 n.f6) (fieldsM n a b) := by
  have jt : Ev (fun k => impl_fieldsOk.j0 k true n.f0 n.f1 n.f2 n.f3 n.f4 n.f5 n.f6) false := Ev.step (fun k => by rw [impl_fieldsOk.j0]) (evP rfl (Ev.now _))
  have jf : Ev (fun k => impl_fieldsOk.j0 k false n.f0 n.f1 n.f2 n.f3 n.f4 n.f5 n.f6) (!restM n && valM n.f0 n.f4) := by
    refine Ev.step (fun k => by rw [impl_fieldsOk.j0]) ?_
    refine evN (by simp) ?_
    exact evB (f := fun k y => impl_fieldsOk.l0 k y (y.length : Int) 0 n.f0 n.f1 n.f2 n.f3 n.f4 n.f5 n.f6) (impl_rest_ev n)
  unfold impl_fieldsOk.f fieldsM
  refine evS (impl_in_eq _ _ _) ?_
  by_cases hin : (decide (n.f0 ≥ 1) && decide (n.f0 ≤ 19)) = true
  · refine evP hin ?_
    rw [hin, Bool.true_and]
    refine Ev.bind (impl_names_ev n.f0) ?_
    refine Ev.bind (impl_fits_ev n.f5 a _ ha) ?_
    have i0 : (if decide ((namesM n.f0 : Int) > 0) = true then a else decide (n.f5.size = 0)) = (if namesM n.f0 > 0 then a else decide (n.f5.size = 0)) := by
      by_cases c : namesM n.f0 > 0
      · rw [if_pos (decide_eq_true (by omega)), if_pos c]
      · rw [if_neg (fun h => c (by have := of_decide_eq_true h; omega)), if_neg c]
    have i1 : (if decide ((namesM n.f0 : Int) > 1) = true then b else decide (n.f6.size = 0)) = (if namesM n.f0 > 1 then b else decide (n.f6.size = 0)) := by
      by_cases c : namesM n.f0 > 1
      · rw [if_pos (decide_eq_true (by omega)), if_pos c]
      · rw [if_neg (fun h => c (by have := of_decide_eq_true h; omega)), if_neg c]
    rw [i0]
    generalize (if namesM n.f0 > 0 then a else decide (n.f5.size = 0)) = A
    cases A with
    | false =>
      refine evN (by simp) ?_
      rw [Bool.and_false]; exact jt
    | true =>
      refine evP rfl ?_
      refine Ev.bind (impl_names_ev n.f0) ?_
      refine Ev.bind (impl_fits_ev n.f6 b _ hb) ?_
      rw [i1]
      generalize (if namesM n.f0 > 1 then b else decide (n.f6.size = 0)) = B
      cases B with
      | false => rw [Bool.and_false]; exact jt
      | true => rw [Bool.and_true, Bool.and_true]; exact jf
  · refine evN hin ?_
    rw [Bool.not_eq_true] at hin
    rw [hin]; exact jt
theorem fields_ev (n : S48) (h5 : n.f5.size ≤ 9223372036854775807) (h6 : n.f6.size ≤ 9223372036854775807) :
    ∃ r, Ev (fun k => spec_l3Fields.f k n.f0 n.f1 n.f2 n.f3 n.f4 n.f5 n.f6) r ∧ Ev (fun k => impl_fieldsOk.f k n.f0 n.f1 n.f2 n.f3 n.f4 n.f5 n.f6) r := by
  obtain ⟨a, a1, a2, a3⟩ := name_ev n.f5 h5
  obtain ⟨b, b1, b2, b3⟩ := name_ev n.f6 h6
  exact ⟨_, spec_fields_ev n a b a1 a3 b1 b3, impl_fields_ev n a b a2 b2⟩

/-! NodesOk: both answer alike; and where they answer true, the nodes lie as a tree: what a node's kids cover are stretches beside one another, up to the node. -/
def Down (l : List S48) : Prop := ∀ (j : Nat), j < l.length → ∀ x ∈ kidsM (rd_T48 l (j : Int)), 0 ≤ x ∧ x < (j : Int)
/-- The kids of node j tile what lies from its start up to it. -/
def TileAt (K : List Int) (st : List Int) (s j : Int) : Prop :=
  (∀ x ∈ K, 0 ≤ x ∧ x < j ∧ s ≤ rd st x ∧ rd st x ≤ x) ∧ (∀ i : Int, s ≤ i → i < j → ∃ y ∈ K, rd st y ≤ i ∧ i ≤ y) ∧ (∀ x ∈ K, ∀ y ∈ K, x = y ∨ x < rd st y ∨ y < rd st x)
def Tiled (l : List S48) (st : List Int) : Prop := ∀ (j : Nat), j < l.length → TileAt (kidsM (rd_T48 l (j : Int))) st (rd st (j : Int)) (j : Int)
theorem rd_append_left (a b : List Int) (x : Int) (h0 : 0 ≤ x) (h : x < (a.length : Int)) : rd (a ++ b) x = rd a x := by
  show (a ++ b).getD x.toNat 0 = a.getD x.toNat 0
  rw [List.getD_eq_getElem?_getD, List.getD_eq_getElem?_getD, List.getElem?_append_left (by omega)]
theorem rd_append_last (a b : List Int) (x : Int) (y : Int) (h : x = (a.length : Int)) : rd (a ++ y :: b) x = y := by
  show (a ++ y :: b).getD x.toNat 0 = y
  rw [h, Int.toNat_natCast, List.getD_eq_getElem?_getD, List.getElem?_append_right (Nat.le_refl _), Nat.sub_self]; rfl
theorem tileAt_append {K st : List Int} {s j : Int} (b : List Int) (hj : j ≤ (st.length : Int)) (h : TileAt K st s j) : TileAt K (st ++ b) s j := by
  obtain ⟨h1, h2, h3⟩ := h
  have e : ∀ x ∈ K, rd (st ++ b) x = rd st x := fun x hx => rd_append_left _ _ _ (h1 x hx).1 (by have := (h1 x hx).2.1; omega)
  refine ⟨fun x hx => by rw [e x hx]; exact h1 x hx, fun i hi hij => ?_, fun x hx y hy => by rw [e x hx, e y hy]; exact h3 x hx y hy⟩
  obtain ⟨y, hy, h4⟩ := h2 i hi hij
  exact ⟨y, hy, by rw [e y hy]; exact h4⟩
theorem tileAt_nil (st : List Int) (j : Int) : TileAt [] st j j := ⟨fun x h => absurd h List.not_mem_nil, fun i h1 h2 => by omega, fun x h => absurd h List.not_mem_nil⟩
theorem tileAt_cons {K st : List Int} {x j : Int} (h : TileAt K st x j) (hx0 : 0 ≤ x - 1) (hxj : x ≤ j) (hst : rd st (x - 1) ≤ x - 1) : TileAt ((x - 1) :: K) st (rd st (x - 1)) j := by
  obtain ⟨h1, h2, h3⟩ := h
  refine ⟨fun y hy => ?_, fun i hi hij => ?_, fun y hy z hz => ?_⟩
  · rcases List.mem_cons.1 hy with rfl | hy
    · exact ⟨hx0, by omega, Int.le_refl _, hst⟩
    · have := h1 y hy
      exact ⟨this.1, this.2.1, by omega, this.2.2.2⟩
  · by_cases c : i < x
    · exact ⟨x - 1, List.mem_cons_self, hi, by omega⟩
    · obtain ⟨y, hy, h4⟩ := h2 i (by omega) hij
      exact ⟨y, List.mem_cons_of_mem _ hy, h4⟩
  · rcases List.mem_cons.1 hy with rfl | hy <;> rcases List.mem_cons.1 hz with rfl | hz
    · exact .inl rfl
    · have := h1 z hz; right; left; omega
    · have := h1 y hy; right; right; omega
    · exact h3 y hy z hz
theorem nodesOk_tiled (l : List S48) (hq : ∀ x ∈ l, x.f5.size ≤ 9223372036854775807 ∧ x.f6.size ≤ 9223372036854775807) :
    ∃ r, Ev (fun k => spec_NodesOk.f k l) r ∧ Ev (fun k => impl_NodesOk.f k l) r ∧ (r = true → 1 ≤ l.length ∧ l.length ≤ 150 ∧ ∃ st, Tiled l st) := by
  by_cases hn : 1 ≤ l.length ∧ l.length ≤ 150
  rotate_left
  · refine ⟨false, ?_, ?_, fun h => by cases h⟩
    · unfold spec_NodesOk.f
      refine evS (spec_in_eq _ _ _) (evN ?_ (Ev.now _))
      simp; omega
    · unfold impl_NodesOk.f
      refine evS (impl_in_eq _ _ _) (evN ?_ (Ev.now _))
      simp; omega
  obtain ⟨n1, n2⟩ := hn
  -- what the walk over the nodes says, at node i with the starts of the nodes before
  have outer : ∀ (d i : Nat) (st : List Int), i + d = l.length → st.length = i → (∀ j : Nat, j < i → 0 ≤ rd st (j : Int) ∧ rd st (j : Int) ≤ (j : Int)) →
      (∀ j : Nat, j < i → TileAt (kidsM (rd_T48 l (j : Int))) st (rd st (j : Int)) (j : Int)) →
      ∃ (r : Bool) (q : List Int × Bool), Ev (fun k => spec_l3Starts.l0 k l st (i : Int)) q ∧ Ev (fun k => impl_NodesOk.l0 k l (st ++ List.replicate d 0) l (l.length : Int) (i : Int)) r ∧
        ((q.2 = false ∧ r = false) ∨ (q.2 = true ∧ q.1.length = l.length ∧ r = (rd q.1 ((l.length : Int) - 1) == 0) ∧ ∃ st, Tiled l st)) := by
    intro d
    induction d with
    | zero =>
      intro i st h hs hst hk
      have hw : wrap64 ((l.length : Int) - 1) = (l.length : Int) - 1 := w64 (by omega) (by omega)
      refine ⟨rd st ((l.length : Int) - 1) == 0, (st, true), Ev.step (fun k => by rw [spec_l3Starts.l0]) ?_, Ev.step (fun k => by rw [impl_NodesOk.l0]) ?_, .inr ⟨rfl, show st.length = l.length by omega, rfl, st, ?_⟩⟩
      · exact evN (by omega) (Ev.now _)
      · refine evN (by omega) ?_
        rw [List.replicate_zero, List.append_nil, hw]
        refine evP (by omega) ?_
        refine evP (by omega) ?_
        exact Ev.now _
      · intro j hj; exact hk j (by omega)
    | succ d ih =>
      intro i st h hs hst hk
      have hi : i < l.length := by omega
      have wi : wrap64 ((i : Int) + 1) = ((i + 1 : Nat) : Int) := w64 (by omega) (by omega)
      have hmem : rd_T48 l (i : Int) ∈ l := by
        show l.getD i z48 ∈ l
        rw [List.getD_eq_getElem?_getD, List.getElem?_eq_getElem hi]; exact List.getElem_mem hi
      obtain ⟨fr, f1, f2⟩ := fields_ev (rd_T48 l (i : Int)) (hq _ hmem).1 (hq _ hmem).2
      have lenx : (i : Int) < (l.length : Int) := by omega
      have lst : (i : Int) < ((st ++ List.replicate (d + 1) 0).length : Int) := by rw [List.length_append, List.length_replicate]; omega
      -- what the walk back over the node's kids says
      have inner : ∀ (m : Nat) (x : Int), m ≤ (kidsM (rd_T48 l (i : Int))).length → 0 ≤ x → x ≤ (i : Int) → TileAt ((kidsM (rd_T48 l (i : Int))).drop m) st x (i : Int) →
          ∃ (r : Bool) (q : List Int × Bool), Ev (fun k => spec_l3Starts.l1 k l st (i : Int) x (kidsM (rd_T48 l (i : Int))) ((m : Int) - 1)) q ∧ Ev (fun k => impl_NodesOk.l1 k l (st ++ List.replicate (d + 1) 0) (i : Int) (kidsM (rd_T48 l (i : Int))) x ((m : Int) - 1) l (l.length : Int) (i : Int)) r ∧
            ((q.2 = false ∧ r = false) ∨ (q.2 = true ∧ q.1.length = l.length ∧ r = (rd q.1 ((l.length : Int) - 1) == 0) ∧ ∃ st, Tiled l st)) := by
        intro m
        induction m with
        | zero =>
          intro x hm x0 x1 hy
          obtain ⟨r, q, e1, e2, e3⟩ := ih (i + 1) (st ++ [x]) (by omega) (by rw [List.length_append, hs]; rfl) (by
            intro j hj
            by_cases c : j < i
            · rw [rd_append_left _ _ _ (by omega) (by omega)]; exact hst j c
            · have : j = i := by omega
              subst this
              rw [rd_append_last _ _ _ _ (by omega)]; exact ⟨x0, x1⟩) (by
            intro j hj
            by_cases c : j < i
            · rw [rd_append_left _ _ _ (by omega) (by omega)]
              exact tileAt_append _ (by omega) (hk j c)
            · have : j = i := by omega
              subst this
              rw [rd_append_last _ _ _ _ (by omega)]
              rw [List.drop_zero] at hy
              exact tileAt_append _ (by omega) hy)
          have es : (st ++ List.replicate (d + 1) 0).set (i : Int).toNat x = (st ++ [x]) ++ List.replicate d 0 := by
            rw [List.replicate_succ, Int.toNat_natCast, set_mid _ _ _ _ _ hs]
          refine ⟨r, q, Ev.step (fun k => by rw [spec_l3Starts.l1]) ?_, Ev.step (fun k => by rw [impl_NodesOk.l1]) ?_, e3⟩
          · refine evN (by omega) ?_
            refine evP (by omega) ?_
            rw [wi]; exact e1
          · refine evN (by omega) ?_
            refine evP (by omega) ?_
            refine evP lst ?_
            rw [wi, es]; exact e2
        | succ m ihm =>
          intro x hm x0 x1 hy
          have wm : ((m + 1 : Nat) : Int) - 1 = (m : Int) := by omega
          have wm1 : wrap64 ((m : Int) - 1) = (m : Int) - 1 := w64 (by have := arityM_le (rd_T48 l (i : Int)).f0; rw [kidsM_length] at hm; omega) (by have := arityM_le (rd_T48 l (i : Int)).f0; rw [kidsM_length] at hm; omega)
          have wx : wrap64 (x - 1) = x - 1 := w64 (by omega) (by omega)
          rw [wm]
          by_cases c0 : x = 0
          · refine ⟨false, (([] : List Int), false), Ev.step (fun k => by rw [spec_l3Starts.l1]) ?_, Ev.step (fun k => by rw [impl_NodesOk.l1]) ?_, .inl ⟨rfl, rfl⟩⟩
            · refine evP (by omega) ?_
              refine evP (by omega) ?_
              refine evP (by omega) ?_
              rw [wx]
              refine evI (fun c => ?_) (fun _ => Ev.now _)
              exact evP (by omega) (Ev.now _)
            · refine evP (by omega) ?_
              exact evP c0 (Ev.now _)
          by_cases c1 : rd (kidsM (rd_T48 l (i : Int))) (m : Int) = x - 1
          rotate_left
          · refine ⟨false, (([] : List Int), false), Ev.step (fun k => by rw [spec_l3Starts.l1]) ?_, Ev.step (fun k => by rw [impl_NodesOk.l1]) ?_, .inl ⟨rfl, rfl⟩⟩
            · refine evP (by omega) ?_
              refine evP (by omega) ?_
              refine evP (by omega) ?_
              rw [wx]
              exact evN c1 (Ev.now _)
            · refine evP (by omega) ?_
              refine evN c0 ?_
              refine evP (by omega) ?_
              refine evP (by omega) ?_
              rw [wx]
              exact evN c1 (Ev.now _)
          have hx := hst (x - 1).toNat (by omega)
          have hxn : (((x - 1).toNat : Nat) : Int) = x - 1 := by omega
          rw [hxn] at hx
          have hd : (kidsM (rd_T48 l (i : Int))).drop m = rd (kidsM (rd_T48 l (i : Int))) (m : Int) :: (kidsM (rd_T48 l (i : Int))).drop (m + 1) := rd_cons_drop _ m (by omega)
          obtain ⟨r, q, e1, e2, e3⟩ := ihm (rd st (x - 1)) (by omega) hx.1 (by omega) (by
            rw [hd, c1]
            exact tileAt_cons hy (by omega) x1 (by omega))
          refine ⟨r, q, Ev.step (fun k => by rw [spec_l3Starts.l1]) ?_, Ev.step (fun k => by rw [impl_NodesOk.l1]) ?_, e3⟩
          · refine evP (by omega) ?_
            refine evP (by omega) ?_
            refine evP (by omega) ?_
            rw [wx, wm1, c1]
            refine evP rfl ?_
            refine evN (by omega) ?_
            refine evP (by omega) ?_
            refine evP (by omega) ?_
            exact e1
          · refine evP (by omega) ?_
            refine evN c0 ?_
            refine evP (by omega) ?_
            refine evP (by omega) ?_
            rw [wx, wm1]
            refine evP c1 ?_
            refine evP (by omega) ?_
            refine evP (by rw [List.length_append]; omega) ?_
            rw [rd_append_left _ _ _ (by omega) (by omega)]
            exact e2
      cases fr with
      | false =>
        refine ⟨false, (([] : List Int), false), Ev.step (fun k => by rw [spec_l3Starts.l0]) ?_, Ev.step (fun k => by rw [impl_NodesOk.l0]) ?_, .inl ⟨rfl, rfl⟩⟩
        · refine evP lenx ?_
          refine evP (by omega) ?_
          refine Ev.bind f1 ?_
          exact evN (by simp) (Ev.now _)
        · refine evP lenx ?_
          refine evP (by omega) ?_
          refine evP lenx ?_
          refine Ev.bind f2 ?_
          exact evN (by simp) (Ev.now _)
      | true =>
        have hkl := kidsM_length (rd_T48 l (i : Int))
        have hka := arityM_le (rd_T48 l (i : Int)).f0
        obtain ⟨r, q, e1, e2, e3⟩ := inner (kidsM (rd_T48 l (i : Int))).length (i : Int) (Nat.le_refl _) (by omega) (Int.le_refl _) (by rw [List.drop_length]; exact tileAt_nil _ _)
        have wk : wrap64 (((kidsM (rd_T48 l (i : Int))).length : Int) - 1) = ((kidsM (rd_T48 l (i : Int))).length : Int) - 1 := w64 (by omega) (by omega)
        refine ⟨r, q, Ev.step (fun k => by rw [spec_l3Starts.l0]) ?_, Ev.step (fun k => by rw [impl_NodesOk.l0]) ?_, e3⟩
        · refine evP lenx ?_
          refine evP (by omega) ?_
          refine Ev.bind f1 ?_
          refine evP rfl ?_
          refine Ev.bind (spec_kids_ev (rd_T48 l (i : Int))) ?_
          rw [wk]; exact e1
        · refine evP lenx ?_
          refine evP (by omega) ?_
          refine evP lenx ?_
          refine Ev.bind f2 ?_
          refine evP rfl ?_
          refine Ev.bind (impl_kids_ev (rd_T48 l (i : Int))) ?_
          rw [wk]; exact e2
  obtain ⟨r, q, e1, e2, e3⟩ := outer l.length 0 [] (by omega) rfl (fun j hj => by omega) (fun j hj => by omega)
  have hw : wrap64 ((l.length : Int) - 1) = (l.length : Int) - 1 := w64 (by omega) (by omega)
  have hin : (decide ((l.length : Int) ≥ 1) && decide ((l.length : Int) ≤ 150)) = true := by simp; omega
  refine ⟨r, ?_, ?_, ?_⟩
  · unfold spec_NodesOk.f
    refine evS (spec_in_eq _ _ _) ?_
    refine evP hin ?_
    refine Ev.bind (a := q) (by unfold spec_l3Starts.f; exact e1) ?_
    rcases e3 with ⟨h1, h2⟩ | ⟨h1, h2, h3, _⟩
    · refine evN (by rw [h1]; simp) ?_
      rw [h2]; exact Ev.now _
    · refine evP h1 ?_
      rw [hw]
      refine evP (by omega) ?_
      refine evP (by omega) ?_
      rw [h3]; exact Ev.now _
  · unfold impl_NodesOk.f
    refine evS (impl_in_eq _ _ _) ?_
    refine evP hin ?_
    refine evP (by omega) ?_
    refine evP (by rw [Int.toNat_natCast]; omega) ?_
    rw [Int.toNat_natCast]
    simpa using e2
  · intro hr
    rcases e3 with ⟨_, h2⟩ | ⟨_, _, _, h4⟩
    · rw [h2] at hr; cases hr
    · exact ⟨n1, n2, h4⟩
theorem nodesOk_ev (l : List S48) (hq : ∀ x ∈ l, x.f5.size ≤ 9223372036854775807 ∧ x.f6.size ≤ 9223372036854775807) :
    ∃ r, Ev (fun k => spec_NodesOk.f k l) r ∧ Ev (fun k => impl_NodesOk.f k l) r ∧ (r = true → 1 ≤ l.length ∧ l.length ≤ 150 ∧ Down l) := by
  obtain ⟨r, h1, h2, h3⟩ := nodesOk_tiled l hq
  refine ⟨r, h1, h2, fun hr => ?_⟩
  obtain ⟨n1, n2, st, ht⟩ := h3 hr
  exact ⟨n1, n2, fun j hj x hx => ⟨((ht j hj).1 x hx).1, ((ht j hj).1 x hx).2.1⟩⟩

/-! The node above a node: one at most; the first that the reference finds is the last that the program writes. -/
theorem inc (i : Nat) (h : i < 9223372036854775807) : wrap64 ((i : Int) + 1) = ((i + 1 : Nat) : Int) := w64 (by omega) (by omega)
theorem tiled_within {l : List S48} {st : List Int} (ht : Tiled l st) : ∀ (n : Nat) (y : Nat), y < n → y < l.length → ∀ i : Nat, rd st (y : Int) ≤ (i : Int) → i ≤ y → rd st (y : Int) ≤ rd st (i : Int) := by
  intro n
  induction n with
  | zero => intro y h; omega
  | succ n ih =>
    intro y hy hl i hi hiy
    by_cases c : i = y
    · rw [c]; exact Int.le_refl _
    · obtain ⟨z, hz, h1, h2⟩ := (ht y hl).2.1 (i : Int) hi (by omega)
      have hz2 := (ht y hl).1 z hz
      have := ih z.toNat (by omega) (by omega) i (by rw [Int.toNat_of_nonneg hz2.1]; exact h1) (by omega)
      rw [Int.toNat_of_nonneg hz2.1] at this
      omega
theorem tiled_lt {l : List S48} {st : List Int} (ht : Tiled l st) {i j : Nat} (hij : i < j) (hj : j < l.length) {x : Int} (hi : x ∈ kidsM (rd_T48 l (i : Int))) (hx : x ∈ kidsM (rd_T48 l (j : Int))) : False := by
  obtain ⟨j1, j2, j3⟩ := ht j hj
  have i1 := (ht i (by omega)).1 x hi
  have j1x := j1 x hx
  have hst : rd st x ≤ x := j1x.2.2.2
  obtain ⟨y, hy, h1, h2⟩ := j2 (i : Int) (by omega) (by omega)
  have hy2 := j1 y hy
  have w := tiled_within ht (y.toNat + 1) y.toNat (by omega) (by omega) i (by rw [Int.toNat_of_nonneg hy2.1]; exact h1) (by omega)
  rw [Int.toNat_of_nonneg hy2.1] at w
  rcases j3 x hx y hy with h | h | h
  · omega
  · omega
  · omega
theorem tiled_one {l : List S48} {st : List Int} (ht : Tiled l st) {i j : Nat} (hi : i < l.length) (hj : j < l.length) {x : Int} (h1 : x ∈ kidsM (rd_T48 l (i : Int))) (h2 : x ∈ kidsM (rd_T48 l (j : Int))) : i = j := by
  rcases Nat.lt_trichotomy i j with h | h | h
  · exact absurd (tiled_lt ht h hj h1 h2) id
  · exact h
  · exact absurd (tiled_lt ht h hi h2 h1) id
/-- p is the node above n; -1 where there is none. -/
def IsPar (l : List S48) (n p : Int) : Prop := (p = -1 ∧ ∀ j : Nat, j < l.length → n ∉ kidsM (rd_T48 l (j : Int))) ∨ ∃ j : Nat, j < l.length ∧ p = (j : Int) ∧ n ∈ kidsM (rd_T48 l (j : Int))
theorem isPar_one {l : List S48} {st : List Int} (ht : Tiled l st) {n p q : Int} (hp : IsPar l n p) (hq : IsPar l n q) : p = q := by
  rcases hp with ⟨rfl, h⟩ | ⟨i, hi, rfl, h⟩ <;> rcases hq with ⟨rfl, h'⟩ | ⟨j, hj, rfl, h'⟩
  · rfl
  · exact absurd h' (h j hj)
  · exact absurd h (h' i hi)
  · rw [tiled_one ht hi hj h h']
theorem spec_l4Has_ev (l : List Int) (n : Int) (hm : l.length ≤ 1048576) : Ev (fun k => spec_l4Has.f k l n) (decide (n ∈ l)) := by
  have loop : ∀ (d i : Nat), i + d = l.length → Ev (fun k => spec_l4Has.l0 k l n (i : Int)) (decide (n ∈ l.drop i)) := by
    intro d
    induction d with
    | zero =>
      intro i h
      refine Ev.step (fun k => by rw [spec_l4Has.l0]) ?_
      refine evN (by omega) ?_
      rw [List.drop_of_length_le (by omega)]
      simpa using Ev.now false
    | succ d ih =>
      intro i h
      refine Ev.step (fun k => by rw [spec_l4Has.l0]) ?_
      refine evP (by omega) (evP (by omega) ?_)
      rw [rd_cons_drop l i (by omega)]
      refine evI (fun e => ?_) (fun e => ?_)
      · rw [e, decide_eq_true List.mem_cons_self]; exact Ev.now _
      · have e2 : decide (n ∈ rd l (i : Int) :: l.drop (i + 1)) = decide (n ∈ l.drop (i + 1)) := by
          rw [decide_eq_decide, List.mem_cons]
          exact ⟨fun h => h.resolve_left (fun h => e h.symm), .inr⟩
        rw [inc i (by omega), e2]; exact ih (i + 1) (by omega)
  have := loop l.length 0 (by omega)
  rwa [List.drop_zero] at this
theorem spec_parent_ev (l : List S48) (hl : l.length ≤ 150) (hok : Ev (fun k => spec_NodesOk.f k l) true) (n : Int) : ∃ p, Ev (fun k => spec_ParentOf.f k l n) p ∧ IsPar l n p := by
  have loop : ∀ (d i : Nat), i + d = l.length → (∀ j : Nat, j < i → n ∉ kidsM (rd_T48 l (j : Int))) → ∃ p, Ev (fun k => spec_ParentOf.l0 k l n (i : Int)) p ∧ IsPar l n p := by
    intro d
    induction d with
    | zero =>
      intro i h hn
      refine ⟨-1, Ev.step (fun k => by rw [spec_ParentOf.l0]) (evN (by omega) (Ev.now _)), .inl ⟨rfl, fun j hj => hn j (by omega)⟩⟩
    | succ d ih =>
      intro i h hn
      have hk := kidsM_length (rd_T48 l (i : Int))
      have ha := arityM_le (rd_T48 l (i : Int)).f0
      have hh := spec_l4Has_ev (kidsM (rd_T48 l (i : Int))) n (by omega)
      by_cases c : n ∈ kidsM (rd_T48 l (i : Int))
      · refine ⟨(i : Int), Ev.step (fun k => by rw [spec_ParentOf.l0]) ?_, .inr ⟨i, by omega, rfl, c⟩⟩
        refine evP (by omega) ?_
        refine evP (by omega) ?_
        refine Ev.bind (spec_kids_ev (rd_T48 l (i : Int))) ?_
        refine Ev.bind hh ?_
        exact evP (decide_eq_true c) (Ev.now _)
      · obtain ⟨p, h1, h2⟩ := ih (i + 1) (by omega) (fun j hj => by
          by_cases e : j < i
          · exact hn j e
          · have : j = i := by omega
            rw [this]; exact c)
        refine ⟨p, Ev.step (fun k => by rw [spec_ParentOf.l0]) ?_, h2⟩
        refine evP (by omega) ?_
        refine evP (by omega) ?_
        refine Ev.bind (spec_kids_ev (rd_T48 l (i : Int))) ?_
        refine Ev.bind hh ?_
        refine evN (by simp [c]) ?_
        rw [inc i (by omega)]; exact h1
  obtain ⟨p, h1, h2⟩ := loop l.length 0 (by omega) (fun j hj => by omega)
  refine ⟨p, ?_, h2⟩
  unfold spec_ParentOf.f
  exact Ev.bind hok (evP rfl h1)
theorem rd_set (l : List Int) (a : Nat) (b x : Int) (ha : a < l.length) (hb : 0 ≤ b) : rd (l.set a x) b = if b = (a : Int) then x else rd l b := by
  show (l.set a x).getD b.toNat 0 = if b = (a : Int) then x else l.getD b.toNat 0
  rw [List.getD_eq_getElem?_getD, List.getD_eq_getElem?_getD]
  by_cases c : b = (a : Int)
  · rw [if_pos c, c, Int.toNat_natCast, List.getElem?_set_self ha]; rfl
  · rw [if_neg c, List.getElem?_set_ne (by omega)]
theorem impl_parents_ev (l : List S48) (hl : l.length ≤ 150) (hd : Down l) : ∃ q, Ev (fun k => impl_parents.f k l) q ∧ q.length = l.length ∧ ∀ n : Nat, n < l.length → IsPar l (n : Int) (rd q (n : Int)) := by
  have outer : ∀ (d i : Nat) (q : List Int), i + d = l.length → q.length = l.length →
      (∀ n : Nat, n < l.length → (rd q (n : Int) = -1 ∧ ∀ j : Nat, j < i → (n : Int) ∉ kidsM (rd_T48 l (j : Int))) ∨ ∃ j : Nat, j < i ∧ rd q (n : Int) = (j : Int) ∧ (n : Int) ∈ kidsM (rd_T48 l (j : Int))) →
      ∃ r, Ev (fun k => impl_parents.l1 k q l (l.length : Int) (i : Int)) r ∧ r.length = l.length ∧ ∀ n : Nat, n < l.length → IsPar l (n : Int) (rd r (n : Int)) := by
    intro d
    induction d with
    | zero =>
      intro i q h hq hn
      refine ⟨q, Ev.step (fun k => by rw [impl_parents.l1]) (evN (by omega) (Ev.now _)), hq, fun n hnl => ?_⟩
      rcases hn n hnl with ⟨h1, h2⟩ | ⟨j, h1, h2, h3⟩
      · exact .inl ⟨h1, fun j hj => h2 j (by omega)⟩
      · exact .inr ⟨j, by omega, h2, h3⟩
    | succ d ih =>
      intro i q h hq hn
      have hk := kidsM_length (rd_T48 l (i : Int))
      have ha := arityM_le (rd_T48 l (i : Int)).f0
      have hdi := hd i (by omega)
      have inner : ∀ (e m : Nat) (q : List Int), m + e = (kidsM (rd_T48 l (i : Int))).length → q.length = l.length →
          (∀ n : Nat, n < l.length → (rd q (n : Int) = -1 ∧ (∀ j : Nat, j < i → (n : Int) ∉ kidsM (rd_T48 l (j : Int))) ∧ (n : Int) ∉ (kidsM (rd_T48 l (i : Int))).take m) ∨ (∃ j : Nat, j < i ∧ rd q (n : Int) = (j : Int) ∧ (n : Int) ∈ kidsM (rd_T48 l (j : Int))) ∨ (rd q (n : Int) = (i : Int) ∧ (n : Int) ∈ (kidsM (rd_T48 l (i : Int))).take m)) →
          ∃ r, Ev (fun k => impl_parents.l2 k q (i : Int) l (l.length : Int) (i : Int) (kidsM (rd_T48 l (i : Int))) ((kidsM (rd_T48 l (i : Int))).length : Int) (m : Int)) r ∧ r.length = l.length ∧ ∀ n : Nat, n < l.length → IsPar l (n : Int) (rd r (n : Int)) := by
        intro e
        induction e with
        | zero =>
          intro m q hm hq hn
          obtain ⟨r, h1, h2, h3⟩ := ih (i + 1) q (by omega) hq (fun n hnl => by
            have ht : (kidsM (rd_T48 l (i : Int))).take m = kidsM (rd_T48 l (i : Int)) := List.take_of_length_le (by omega)
            rcases hn n hnl with ⟨h1, h2, h3⟩ | ⟨j, h1, h2, h3⟩ | ⟨h1, h2⟩
            · refine .inl ⟨h1, fun j hj => ?_⟩
              by_cases c : j < i
              · exact h2 j c
              · have : j = i := by omega
                rw [this, ← ht]; exact h3
            · exact .inr ⟨j, by omega, h2, h3⟩
            · exact .inr ⟨i, by omega, h1, by rw [← ht]; exact h2⟩)
          refine ⟨r, Ev.step (fun k => by rw [impl_parents.l2]) ?_, h2, h3⟩
          refine evN (by omega) ?_
          rw [inc i (by omega)]; exact h1
        | succ e ih2 =>
          intro m q hm hq hn
          have hml : m < (kidsM (rd_T48 l (i : Int))).length := by omega
          have hmem : rd (kidsM (rd_T48 l (i : Int))) (m : Int) ∈ kidsM (rd_T48 l (i : Int)) := List.mem_of_mem_drop (i := m) (by rw [rd_cons_drop _ m hml]; exact List.mem_cons_self)
          have hx := hdi _ hmem
          have htk : (kidsM (rd_T48 l (i : Int))).take (m + 1) = (kidsM (rd_T48 l (i : Int))).take m ++ [rd (kidsM (rd_T48 l (i : Int))) (m : Int)] := (take_snoc _ 0 m hml).symm
          obtain ⟨r, h1, h2, h3⟩ := ih2 (m + 1) (q.set (rd (kidsM (rd_T48 l (i : Int))) (m : Int)).toNat (i : Int)) (by omega) (by rw [List.length_set]; exact hq) (fun n hnl => by
            rw [rd_set _ _ _ _ (by omega) (by omega), Int.toNat_of_nonneg hx.1, htk]
            by_cases c : (n : Int) = rd (kidsM (rd_T48 l (i : Int))) (m : Int)
            · rw [if_pos c]
              exact .inr (.inr ⟨rfl, by rw [c]; simp⟩)
            · rw [if_neg c]
              rcases hn n hnl with ⟨h1, h2, h3⟩ | h1 | ⟨h1, h2⟩
              · exact .inl ⟨h1, h2, by rw [List.mem_append, List.mem_singleton]; rintro (h | h); exact h3 h; exact c h⟩
              · exact .inr (.inl h1)
              · exact .inr (.inr ⟨h1, List.mem_append_left _ h2⟩))
          refine ⟨r, Ev.step (fun k => by rw [impl_parents.l2]) ?_, h2, h3⟩
          refine evP (by omega) ?_
          refine evP (by omega) ?_
          refine evP (by omega) ?_
          refine evP hx.1 ?_
          refine evP (by omega) ?_
          rw [inc m (by omega)]; exact h1
      obtain ⟨r, h1, h2, h3⟩ := inner _ 0 q (Nat.zero_add _) hq (fun n hnl => by
        rcases hn n hnl with ⟨h1, h2⟩ | h1
        · exact .inl ⟨h1, h2, by simp⟩
        · exact .inr (.inl h1))
      refine ⟨r, Ev.step (fun k => by rw [impl_parents.l1]) ?_, h2, h3⟩
      refine evP (by omega) ?_
      refine evP (by omega) ?_
      refine evP (by omega) ?_
      refine Ev.bind (impl_kids_ev (rd_T48 l (i : Int))) ?_
      exact h1
  have fill : ∀ (d i : Nat), i + d = l.length → ∃ r, Ev (fun k => impl_parents.l0 k l (List.replicate i (-1) ++ List.replicate d 0) (l.length : Int) (i : Int)) r ∧ r.length = l.length ∧ ∀ n : Nat, n < l.length → IsPar l (n : Int) (rd r (n : Int)) := by
    intro d
    induction d with
    | zero =>
      intro i h
      obtain ⟨r, h1, h2, h3⟩ := outer l.length 0 (List.replicate i (-1)) (by omega) (by rw [List.length_replicate]; omega) (fun n hnl => by
        refine .inl ⟨?_, fun j hj => by omega⟩
        show (List.replicate i (-1 : Int)).getD n 0 = -1
        rw [List.getD_eq_getElem?_getD, List.getElem?_replicate, if_pos (by omega)]; rfl)
      refine ⟨r, Ev.step (fun k => by rw [impl_parents.l0]) ?_, h2, h3⟩
      refine evN (by omega) ?_
      rw [List.replicate_zero, List.append_nil]; exact h1
    | succ d ih =>
      intro i h
      obtain ⟨r, h1, h2⟩ := ih (i + 1) (by omega)
      refine ⟨r, Ev.step (fun k => by rw [impl_parents.l0]) ?_, h2⟩
      refine evP (by omega) ?_
      refine evP (by omega) ?_
      refine evP (by simp only [List.length_append, List.length_replicate]; omega) ?_
      have e : (List.replicate i (-1 : Int) ++ List.replicate (d + 1) 0).set (i : Int).toNat (-1) = List.replicate (i + 1) (-1) ++ List.replicate d 0 := by
        rw [List.replicate_succ (n := d), Int.toNat_natCast, set_mid _ _ _ _ _ (by rw [List.length_replicate]), List.replicate_succ']
      rw [inc i (by omega), e]; exact h1
  obtain ⟨r, h1, h2⟩ := fill l.length 0 (by omega)
  refine ⟨r, ?_, h2⟩
  unfold impl_parents.f
  refine evP (by omega) ?_
  refine evP (by rw [Int.toNat_natCast]; omega) ?_
  rw [Int.toNat_natCast]
  refine evB ?_
  rw [List.length_replicate]
  simpa using h1

/-! What a node binds; the binder of a name: both answer alike. -/
def bindM (n : S48) (x : Int) : List ByteArray × List Int :=
  if n.f0 = 3 then ([n.f5], [0]) else if n.f0 = 5 ∨ n.f0 = 19 then (if x = n.f2 then ([n.f5], [0]) else ([], [])) else if n.f0 = 6 then (if x = n.f1 then ([n.f6, n.f5], [1, 0]) else ([n.f5], [0])) else if n.f0 = 14 then (if x = n.f3 then ([n.f6, n.f5], [1, 0]) else ([], [])) else ([], [])
theorem bindM_len (n : S48) (x : Int) : (bindM n x).1.length = (bindM n x).2.length ∧ (bindM n x).1.length ≤ 2 := by
  unfold bindM
  repeat' split
  all_goals exact ⟨rfl, by simp⟩
theorem ev_three {α : Type} {g : Nat → Option α} {r : α} (h : ∀ k, g (k + 3) = some r) : Ev g r := by
  refine ⟨3, fun k hk => ?_⟩
  obtain ⟨j, rfl⟩ := Nat.exists_eq_add_of_le' hk
  exact h j
theorem spec_bound_ev (n : S48) (x : Int) : Ev (fun k => spec_l6Bound.f k n.f0 n.f1 n.f2 n.f3 n.f4 n.f5 n.f6 x) (bindM n x) := by
  refine ev_three (fun k => ?_)
  unfold spec_l6Bound.f spec_l6Bound.j0 bindM
  generalize n.f0 = t
  by_cases h3 : t = 3
  · subst h3; rfl
  by_cases h5 : t = 5
  · subst h5; by_cases c : x = n.f2 <;> simp [c]
  by_cases h19 : t = 19
  · subst h19; by_cases c : x = n.f2 <;> simp [c]
  by_cases h6 : t = 6
  · subst h6; by_cases c : x = n.f1 <;> simp [c]
  by_cases h14 : t = 14
  · subst h14; by_cases c : x = n.f3 <;> simp [c]
  simp [h3, h5, h19, h6, h14]
theorem impl_bound_ev (n : S48) (x : Int) : Ev (fun k => impl_bindsIn.f k n.f0 n.f1 n.f2 n.f3 n.f4 n.f5 n.f6 x) (bindM n x) := by
  refine ev_three (fun k => ?_)
  unfold impl_bindsIn.f impl_bindsIn.j0 impl_bindsIn.j1 impl_bindsIn.j2 bindM
  generalize n.f0 = t
  by_cases h3 : t = 3
  · subst h3; rfl
  by_cases h5 : t = 5
  · subst h5; by_cases c : x = n.f2 <;> simp [c]
  by_cases h19 : t = 19
  · subst h19; by_cases c : x = n.f2 <;> simp [c]
  by_cases h6 : t = 6
  · subst h6; by_cases c : x = n.f1 <;> simp [c]
  by_cases h14 : t = 14
  · subst h14; by_cases c : x = n.f3 <;> simp [c]
  simp [h3, h5, h19, h6, h14]
theorem binder_ev (l : List S48) (hl : l.length ≤ 150) {st : List Int} (ht : Tiled l st) (hok : Ev (fun k => spec_NodesOk.f k l) true) (q : List Int) (hq : q.length = l.length) (hqp : ∀ n : Nat, n < l.length → IsPar l (n : Int) (rd q (n : Int))) (n : Nat) (hn : n < l.length) :
    ∀ (m a : Nat), l.length < m + a → a < l.length → ∃ r : Int × Int, (∀ p, IsPar l (a : Int) p → Ev (fun k => spec_BinderOf.l0 k l (n : Int) (a : Int) p (-1) (-1)) r) ∧ Ev (fun k => impl_binderOf.l0 k l q (a : Int) (rd_T48 l (n : Int)).f5) r := by
  intro m
  induction m with
  | zero => intro a h1 h2; omega
  | succ m ih =>
    intro a ham ha
    have hpa := hqp a ha
    by_cases c : rd q (a : Int) = -1
    · refine ⟨(-1, -1), fun p hp => ?_, Ev.step (fun k => by rw [impl_binderOf.l0]) ?_⟩
      · have e := isPar_one ht hp hpa
        refine Ev.step (fun k => by rw [spec_BinderOf.l0]) ?_
        exact evN (by omega) (Ev.now _)
      · refine evP (by omega) ?_
        refine evP (by omega) ?_
        exact evN (by omega) (Ev.now _)
    · obtain ⟨j, hj, hjq, hjm⟩ := hpa.resolve_left (fun h => c h.1)
      have hja := (ht j hj).1 _ hjm
      have hjlt : a < j := by omega
      obtain ⟨r0, r1, r2⟩ := ih j (by omega) hj
      obtain ⟨pj, pj1, pj2⟩ := spec_parent_ev l hl hok (j : Int)
      obtain ⟨bl1, bl2⟩ := bindM_len (rd_T48 l (j : Int)) (a : Int)
      have scan : ∀ (d i : Nat), i + d = (bindM (rd_T48 l (j : Int)) (a : Int)).1.length → ∃ r : Int × Int, Ev (fun k => spec_BinderOf.l1 k l (n : Int) (j : Int) (bindM (rd_T48 l (j : Int)) (a : Int)).1 (bindM (rd_T48 l (j : Int)) (a : Int)).2 (i : Int) (-1) (-1)) r ∧
          Ev (fun k => impl_binderOf.l1 k l q (a : Int) (rd_T48 l (n : Int)).f5 (bindM (rd_T48 l (j : Int)) (a : Int)).2 (bindM (rd_T48 l (j : Int)) (a : Int)).1 ((bindM (rd_T48 l (j : Int)) (a : Int)).1.length : Int) (i : Int)) r := by
        intro d
        induction d with
        | zero =>
          intro i h
          refine ⟨r0, Ev.step (fun k => by rw [spec_BinderOf.l1]) ?_, Ev.step (fun k => by rw [impl_binderOf.l1]) ?_⟩
          · refine evN (by omega) ?_
            refine Ev.bind pj1 ?_
            exact r1 pj pj2
          · refine evN (by omega) ?_
            refine evP (by omega) ?_
            refine evP (by omega) ?_
            rw [hjq]; exact r2
        | succ d ih2 =>
          intro i h
          obtain ⟨r, e1, e2⟩ := ih2 (i + 1) (by omega)
          by_cases e : (rdOf ByteArray.empty (bindM (rd_T48 l (j : Int)) (a : Int)).1 (i : Int)).toList = ((rd_T48 l (n : Int)).f5).toList
          · refine ⟨((j : Int), rd (bindM (rd_T48 l (j : Int)) (a : Int)).2 (i : Int)), Ev.step (fun k => by rw [spec_BinderOf.l1]) ?_, Ev.step (fun k => by rw [impl_binderOf.l1]) ?_⟩
            · refine evP (by omega) ?_
              refine evP (by omega) ?_
              refine evP (by omega) ?_
              refine evP (by omega) ?_
              refine evP e ?_
              exact evP (by omega) (Ev.now _)
            · refine evP (by omega) ?_
              refine evP (by omega) ?_
              refine evP (by omega) ?_
              refine evP e ?_
              refine evP (by omega) ?_
              refine evP (by omega) ?_
              refine evP (by omega) ?_
              rw [hjq]; exact Ev.now _
          · refine ⟨r, Ev.step (fun k => by rw [spec_BinderOf.l1]) ?_, Ev.step (fun k => by rw [impl_binderOf.l1]) ?_⟩
            · refine evP (by omega) ?_
              refine evP (by omega) ?_
              refine evP (by omega) ?_
              refine evP (by omega) ?_
              refine evN e ?_
              rw [inc i (by omega)]; exact e1
            · refine evP (by omega) ?_
              refine evP (by omega) ?_
              refine evP (by omega) ?_
              refine evN e ?_
              rw [inc i (by omega)]; exact e2
      obtain ⟨r, s1, s2⟩ := scan _ 0 (Nat.zero_add _)
      refine ⟨r, fun p hp => ?_, Ev.step (fun k => by rw [impl_binderOf.l0]) ?_⟩
      · have e := isPar_one ht hp hpa
        rw [e, hjq]
        refine Ev.step (fun k => by rw [spec_BinderOf.l0]) ?_
        refine evP (by omega) ?_
        refine evP (by omega) ?_
        refine evP (by omega) ?_
        exact Ev.bind (spec_bound_ev (rd_T48 l (j : Int)) (a : Int)) s1
      · refine evP (by omega) ?_
        refine evP (by omega) ?_
        rw [hjq]
        refine evP (by omega) ?_
        refine evP (by omega) ?_
        refine evP (by omega) ?_
        exact Ev.bind (impl_bound_ev (rd_T48 l (j : Int)) (a : Int)) s2
/-- b is the binder of node n, as the reference finds it; of a node that is no name there is none. -/
def Binds (l : List S48) (n : Nat) (b : S32) : Prop := ((rd_T48 l (n : Int)).f0 = 1 → Ev (fun k => spec_BinderOf.f k l (n : Int)) (b.f0, b.f1)) ∧ ((rd_T48 l (n : Int)).f0 ≠ 1 → b.f0 = -1)
theorem binders_ev (l : List S48) (hl : l.length ≤ 150) {st : List Int} (ht : Tiled l st) (hok : Ev (fun k => spec_NodesOk.f k l) true) :
    ∃ B : List S32, Ev (fun k => impl_binders.f k l) B ∧ B.length = l.length ∧ ∀ n : Nat, n < l.length → Binds l n (rd_T32 B (n : Int)) := by
  obtain ⟨q, q1, q2, q3⟩ := impl_parents_ev l hl (fun j hj x hx => ⟨((ht j hj).1 x hx).1, ((ht j hj).1 x hx).2.1⟩)
  have one : ∀ n : Nat, n < l.length → (rd_T48 l (n : Int)).f0 = 1 → ∃ r : Int × Int, Ev (fun k => spec_BinderOf.f k l (n : Int)) r ∧ Ev (fun k => impl_binderOf.f k l q (n : Int) (rd_T48 l (n : Int)).f5) r := by
    intro n hn h1
    obtain ⟨r, r1, r2⟩ := binder_ev l hl ht hok q q2 q3 n hn (l.length + 1) n (by omega) hn
    obtain ⟨p, p1, p2⟩ := spec_parent_ev l hl hok (n : Int)
    refine ⟨r, ?_, r2⟩
    unfold spec_BinderOf.f
    refine Ev.bind hok (evP rfl ?_)
    refine evS (spec_in_eq _ _ _) ?_
    have hin : (decide ((n : Int) ≥ 0) && decide ((n : Int) ≤ wrap64 ((l.length : Int) - 1))) = true := by
      rw [w64 (by omega) (by omega)]; simp; omega
    refine evP hin ?_
    refine evP (by omega) ?_
    refine evP (by omega) ?_
    refine Ev.step (fun k => by rw [spec_BinderOf.j0]) ?_
    refine evN (by rw [h1]; decide) ?_
    exact Ev.bind p1 (r1 p p2)
  have loop : ∀ (d i : Nat) (B : List S32), i + d = l.length → B.length = i → (∀ n : Nat, n < i → Binds l n (rd_T32 B (n : Int))) →
      ∃ R : List S32, Ev (fun k => impl_binders.l0 k l q B l (l.length : Int) (i : Int)) R ∧ R.length = l.length ∧ ∀ n : Nat, n < l.length → Binds l n (rd_T32 R (n : Int)) := by
    intro d
    induction d with
    | zero =>
      intro i B h hB hb
      exact ⟨B, Ev.step (fun k => by rw [impl_binders.l0]) (evN (by omega) (Ev.now _)), by omega, fun n hn => hb n (by omega)⟩
    | succ d ih =>
      intro i B h hB hb
      have add : ∀ b : S32, Binds l i b → ∃ R : List S32, Ev (fun k => impl_binders.l0 k l q (B ++ [b]) l (l.length : Int) ((i + 1 : Nat) : Int)) R ∧ R.length = l.length ∧ ∀ n : Nat, n < l.length → Binds l n (rd_T32 R (n : Int)) := by
        intro b hbi
        refine ih (i + 1) (B ++ [b]) (by omega) (by rw [List.length_append, hB]; rfl) (fun n hn => ?_)
        have e : rd_T32 (B ++ [b]) (n : Int) = if n < i then rd_T32 B (n : Int) else b := by
          show (B ++ [b]).getD n z32 = if n < i then B.getD n z32 else b
          rw [List.getD_eq_getElem?_getD, List.getD_eq_getElem?_getD]
          by_cases c : n < i
          · rw [if_pos c, List.getElem?_append_left (by omega)]
          · have : n = B.length := by omega
            rw [if_neg c, List.getElem?_append_right (by omega), this, Nat.sub_self]; rfl
        rw [e]
        by_cases c : n < i
        · rw [if_pos c]; exact hb n c
        · have : n = i := by omega
          rw [if_neg c, this]; exact hbi
      by_cases c : (rd_T48 l (i : Int)).f0 = 1
      · obtain ⟨r, r1, r2⟩ := one i (by omega) c
        obtain ⟨R, e1, e2⟩ := add ⟨r.1, r.2⟩ ⟨fun _ => r1, fun h => absurd c h⟩
        refine ⟨R, Ev.step (fun k => by rw [impl_binders.l0]) ?_, e2⟩
        refine evP (by omega) ?_
        refine evP (by omega) ?_
        refine evP (by omega) ?_
        refine evP c ?_
        refine Ev.bind r2 ?_
        refine evP (by omega) ?_
        rw [inc i (by omega)]; exact e1
      · obtain ⟨R, e1, e2⟩ := add ⟨-1, -1⟩ ⟨fun h => absurd h c, fun _ => rfl⟩
        refine ⟨R, Ev.step (fun k => by rw [impl_binders.l0]) ?_, e2⟩
        refine evP (by omega) ?_
        refine evP (by omega) ?_
        refine evP (by omega) ?_
        refine evN c ?_
        refine evP (by omega) ?_
        rw [inc i (by omega)]; exact e1
  obtain ⟨R, e1, e2⟩ := loop l.length 0 [] (by omega) rfl (fun n hn => by omega)
  refine ⟨R, ?_, e2⟩
  unfold impl_binders.f
  exact Ev.bind q1 e1
theorem usesOf_ev (l : List S48) (a b : Int) (hq : ∀ x ∈ l, x.f5.size ≤ 9223372036854775807 ∧ x.f6.size ≤ 9223372036854775807) : ∃ r, Ev (fun k => spec_UsesOf.f k l a b) r ∧ Ev (fun k => impl_UsesOf.f k l a b) r := by
  obtain ⟨ok, k1, k2, k3⟩ := nodesOk_tiled l hq
  have stop : ∀ (x5 : List Int) (x6 : Int), Ev (fun k => spec_UsesOf.j1 k l x5 x6 false a b) x5 := fun x5 x6 => Ev.step (fun k => by rw [spec_UsesOf.j1]) (evN (by simp) (Ev.now _))
  have impl0 : Ev (fun k => impl_UsesOf.j0 k l true a b) [] := Ev.step (fun k => by rw [impl_UsesOf.j0]) (evP rfl (Ev.now _))
  unfold spec_UsesOf.f impl_UsesOf.f
  cases ok with
  | false =>
    refine ⟨[], Ev.step (fun k => by rw [spec_UsesOf.l0]) ?_, Ev.bind k2 (evN (by simp) impl0)⟩
    refine evI (fun _ => Ev.bind k1 (evN (by simp) (stop _ _))) (fun _ => stop _ _)
  | true =>
    obtain ⟨n1, n2, st, ht⟩ := k3 rfl
    by_cases ha : a < 0
    · refine ⟨[], Ev.step (fun k => by rw [spec_UsesOf.l0]) ?_, Ev.bind k2 (evP rfl ?_)⟩
      · refine evP (by omega) ?_
        refine Ev.bind k1 (evP rfl ?_)
        rw [decide_eq_false (by omega)]; exact stop _ _
      · rw [decide_eq_true ha]; exact impl0
    · obtain ⟨B, b1, b2, b3⟩ := binders_ev l n2 ht k1
      have loop : ∀ (d i : Nat) (o : List Int), i + d = l.length → o.length ≤ i → ∃ r, Ev (fun k => spec_UsesOf.l0 k l o (i : Int) a b) r ∧ Ev (fun k => impl_UsesOf.l0 k o B (B.length : Int) (i : Int) a b) r := by
        intro d
        induction d with
        | zero =>
          intro i o h ho
          refine ⟨o, Ev.step (fun k => by rw [spec_UsesOf.l0]) ?_, Ev.step (fun k => by rw [impl_UsesOf.l0]) ?_⟩
          · exact evN (by omega) (stop _ _)
          · exact evN (by omega) (Ev.now _)
        | succ d ih =>
          intro i o h ho
          obtain ⟨x1, x2⟩ := b3 i (by omega)
          have yes : ∃ r, Ev (fun k => spec_UsesOf.l0 k l (o ++ [(i : Int)]) ((i + 1 : Nat) : Int) a b) r ∧ Ev (fun k => impl_UsesOf.l0 k (o ++ [(i : Int)]) B (B.length : Int) ((i + 1 : Nat) : Int) a b) r :=
            ih (i + 1) (o ++ [(i : Int)]) (by omega) (by rw [List.length_append]; exact Nat.add_le_add_right ho 1)
          obtain ⟨s, s1, s2⟩ := ih (i + 1) o (by omega) (by omega)
          obtain ⟨r, r1, r2⟩ := yes
          by_cases c : (rd_T48 l (i : Int)).f0 = 1
          · by_cases e : ((rd_T32 B (i : Int)).f0 == a && ((rd_T32 B (i : Int)).f1 == b)) = true
            · refine ⟨r, Ev.step (fun k => by rw [spec_UsesOf.l0]) ?_, Ev.step (fun k => by rw [impl_UsesOf.l0]) ?_⟩
              · refine evP (by omega) ?_
                refine Ev.bind k1 (evP rfl ?_)
                rw [decide_eq_true (show a ≥ 0 by omega)]
                refine Ev.step (fun k => by rw [spec_UsesOf.j1]) ?_
                refine evP rfl ?_
                refine evP (by omega) ?_
                refine evP (by omega) ?_
                refine evP c ?_
                refine Ev.bind (x1 c) ?_
                refine evP e ?_
                refine evP (by omega) ?_
                rw [inc i (by omega)]; exact r1
              · refine evP (by omega) ?_
                refine evP (by omega) ?_
                refine evP (by omega) ?_
                refine evP e ?_
                refine evP (by omega) ?_
                rw [inc i (by omega)]; exact r2
            · refine ⟨s, Ev.step (fun k => by rw [spec_UsesOf.l0]) ?_, Ev.step (fun k => by rw [impl_UsesOf.l0]) ?_⟩
              · refine evP (by omega) ?_
                refine Ev.bind k1 (evP rfl ?_)
                rw [decide_eq_true (show a ≥ 0 by omega)]
                refine Ev.step (fun k => by rw [spec_UsesOf.j1]) ?_
                refine evP rfl ?_
                refine evP (by omega) ?_
                refine evP (by omega) ?_
                refine evP c ?_
                refine Ev.bind (x1 c) ?_
                refine evN e ?_
                rw [inc i (by omega)]; exact s1
              · refine evP (by omega) ?_
                refine evP (by omega) ?_
                refine evP (by omega) ?_
                refine evN e ?_
                rw [inc i (by omega)]; exact s2
          · have e : ¬ ((rd_T32 B (i : Int)).f0 == a && ((rd_T32 B (i : Int)).f1 == b)) = true := by
              have := x2 c
              rw [this]
              intro h
              have h2 := (Bool.and_eq_true _ _ ▸ h).1
              have h3 : (-1 : Int) = a := by simpa using h2
              omega
            refine ⟨s, Ev.step (fun k => by rw [spec_UsesOf.l0]) ?_, Ev.step (fun k => by rw [impl_UsesOf.l0]) ?_⟩
            · refine evP (by omega) ?_
              refine Ev.bind k1 (evP rfl ?_)
              rw [decide_eq_true (show a ≥ 0 by omega)]
              refine Ev.step (fun k => by rw [spec_UsesOf.j1]) ?_
              refine evP rfl ?_
              refine evP (by omega) ?_
              refine evP (by omega) ?_
              refine evN c ?_
              rw [inc i (by omega)]; exact s1
            · refine evP (by omega) ?_
              refine evP (by omega) ?_
              refine evP (by omega) ?_
              refine evN e ?_
              rw [inc i (by omega)]; exact s2
      obtain ⟨r, r1, r2⟩ := loop l.length 0 [] (by omega) (Nat.le_refl _)
      refine ⟨r, r1, Ev.bind k2 (evP rfl ?_)⟩
      rw [decide_eq_false ha]
      refine Ev.step (fun k => by rw [impl_UsesOf.j0]) ?_
      exact evN (by simp) (Ev.bind b1 r2)
theorem usedName_ev (l : List S48) (a b : Int) (hq : ∀ x ∈ l, x.f5.size ≤ 9223372036854775807 ∧ x.f6.size ≤ 9223372036854775807) : ∃ r, Ev (fun k => spec_UsedName.f k l a b) r ∧ Ev (fun k => impl_UsedName.f k l a b) r := by
  obtain ⟨r, r1, r2⟩ := usesOf_ev l a b hq
  exact ⟨_, Ev.bind r1 (Ev.now _), Ev.bind r2 (Ev.now _)⟩

theorem FnExactUsedName : ∀ (l0 : List S45) (a1_0 : Int) (a1_1 : Int), l0.length * 72 ≤ 140737488351232 → (∀ x ∈ l0, (Lit.int .i64 x.f0).wf = true ∧ (Lit.int .i64 x.f1).wf = true ∧ (Lit.int .i64 x.f2).wf = true ∧ (Lit.int .i64 x.f3).wf = true ∧ (Lit.int .i64 x.f4).wf = true ∧ x.f5.size ≤ maxLen ∧ x.f6.size ≤ maxLen) → (Lit.int .i64 a1_0).wf = true → (Lit.int .i64 a1_1).wf = true → ∃ k, laws_FnExactUsedName.f k l0 a1_0 a1_1 = some true := by
  intro l0 a b hl hw _ _
  apply Ev.rounds
  unfold laws_FnExactUsedName.f
  obtain ⟨r, er, hr⟩ := szNodeS_ev l0 hl
  refine Ev.bind er ?_
  refine evI (fun _ => Ev.now _) (fun c => ?_)
  have hm : l0.length ≤ 1048576 := Nat.le_of_not_lt (fun h => c (hr h))
  have hm2 : (l0.map ofN).length ≤ 1048576 := by rw [List.length_map]; exact hm
  have hq : ∀ x ∈ l0.map ofN, x.f5.size ≤ 9223372036854775807 ∧ x.f6.size ≤ 9223372036854775807 := by
    intro x hx
    obtain ⟨y, hy, rfl⟩ := List.mem_map.1 hx
    have h := hw y hy
    exact ⟨h.2.2.2.2.2.1, h.2.2.2.2.2.2⟩
  obtain ⟨e, e1, e2⟩ := usedName_ev (l0.map ofN) a b hq
  refine Ev.bind (toNodeS_ev l0 hm) ?_
  refine evS (a := (a, b)) rfl ?_
  refine Ev.bind e1 ?_
  refine Ev.bind (toNodeS_ev l0 hm) ?_
  refine evS (a := (a, b)) rfl ?_
  refine Ev.bind e2 ?_
  refine evN (by simp) ?_
  refine Ev.bind (toNodeS_ev l0 hm) ?_
  refine Ev.bind (eqNodeS_self _ hm2) ?_
  exact evP rfl (Ev.now _)

end Go.Proofs.YtoebebgeiahagaaDoor.Pure
