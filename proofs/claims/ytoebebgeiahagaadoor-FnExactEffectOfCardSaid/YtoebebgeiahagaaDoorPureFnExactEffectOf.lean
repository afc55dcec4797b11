/- The program's EffectOf and the reference's return the same at every list of nodes and every place. No condition beyond the statement's own. -/
import Derived.Test.YtoebebgeiahagaaDoorPFnExactEffectOfx10
namespace Go.Proofs.YtoebebgeiahagaaDoor.Pure
open Go.RowKit Go.Proofs.YtoebebgeiahagaaDoor.PFnExactEffectOf Go.Proofs.YtoebebgeiahagaaDoorW.PrintWords Go.Proofs.YtoebebgeiahagaaDoorW.PrintLast
set_option linter.unusedVariables false
set_option linter.unusedSimpArgs false

/-! Small words on `Ev`. -/
theorem evP {α : Type} {c : Prop} [Decidable c] {f g : Nat → Option α} {r : α} (h : c) (hf : Ev f r) : Ev (fun k => if c then f k else g k) r :=
  Ev.congr (fun _ => if_pos h) hf
theorem evN {α : Type} {c : Prop} [Decidable c] {f g : Nat → Option α} {r : α} (h : ¬ c) (hg : Ev g r) : Ev (fun k => if c then f k else g k) r :=
  Ev.congr (fun _ => if_neg h) hg
theorem evI {α : Type} {c : Prop} [Decidable c] {f g : Nat → Option α} {r : α} (hf : c → Ev f r) (hg : ¬ c → Ev g r) : Ev (fun k => if c then f k else g k) r := by
  by_cases h : c
  · exact evP h (hf h)
  · exact evN h (hg h)
theorem evB {α β : Type} {a : α} {f : Nat → α → Option β} {r : β} (h : Ev (fun k => f k a) r) : Ev (fun k => (some a).bind (f k)) r := h
theorem evS {α β : Type} {x : Option α} {a : α} {f : Nat → α → Option β} {r : β} (e : x = some a) (h : Ev (fun k => f k a) r) : Ev (fun k => x.bind (f k)) r := by
  subst e; exact h
theorem evC {α : Type} {x : Option α} {r : α} (h : x = some r) : Ev (fun _ => x) r := by subst h; exact Ev.now _
theorem w64 {i : Int} (h0 : -9223372036854775808 ≤ i) (h1 : i ≤ 9223372036854775807) : wrap64 i = i := by unfold wrap64; omega
theorem rd_nat (l : List Int) (i : Nat) : rd l (i : Int) = l.getD i 0 := rfl
theorem rd_cons_drop (l : List Int) (i : Nat) (h : i < l.length) : l.drop i = rd l (i : Int) :: l.drop (i + 1) := by
  rw [rd_nat, List.drop_eq_getElem_cons h, List.getD_eq_getElem?_getD, List.getElem?_eq_getElem h]; rfl
theorem set_mid {α : Type} (a b : List α) (x y : α) (i : Nat) (h : a.length = i) : (a ++ x :: b).set i y = (a ++ [y]) ++ b := by
  subst h
  rw [List.set_append_right _ _ (Nat.le_refl _), Nat.sub_self, List.set_cons_zero]; simp
theorem take_snoc {α : Type} (l : List α) (z : α) (i : Nat) (h : i < l.length) : l.take i ++ [l.getD i z] = l.take (i + 1) := by
  rw [List.take_succ_eq_append_getElem h, List.getD_eq_getElem?_getD, List.getElem?_eq_getElem h]; rfl

theorem spec_in_eq (a b c : Int) : spec_l1In.f a b c = some (decide (a ≥ b) && decide (a ≤ c)) := by
  unfold spec_l1In.f
  by_cases h : a ≥ b <;> simp [h]

theorem impl_in_eq (a b c : Int) : impl_in.f a b c = some (decide (a ≥ b) && decide (a ≤ c)) := by
  unfold impl_in.f
  by_cases h : a ≥ b <;> simp [h]

/-! Nodes: made over, marked off, sized. -/
theorem getD_take_mapN {α β : Type} (g : α → β) (l : List α) (z : α) (i d : Nat) (y : β) (h : i < l.length) :
    (((l.take i).map g) ++ List.replicate (d + 1) y).set i (g (l.getD i z)) = ((l.take (i + 1)).map g) ++ List.replicate d y := by
  rw [List.replicate_succ, set_mid _ _ _ _ _ (by rw [List.length_map, List.length_take]; omega), ← take_snoc l z i h, List.map_append]; rfl
def ofN (e : S45) : S48 := ⟨e.f0, e.f1, e.f2, e.f3, e.f4, e.f5, e.f6⟩
theorem toNodeS_ev (l : List S45) (hm : l.length ≤ 1048576) : Ev (fun k => laws_toNodeS.f k l) (l.map ofN) := by
  have loop : ∀ (d i : Nat), i + d = l.length → Ev (fun k => laws_toNodeS.l0 k l (((l.take i).map ofN) ++ List.replicate d z48) (i : Int)) (l.map ofN) := by
    intro d
    induction d with
    | zero =>
      intro i h
      refine Ev.step (fun k => by rw [laws_toNodeS.l0]) ?_
      refine evN (by omega) ?_
      have e : ((l.take i).map ofN) ++ List.replicate 0 z48 = l.map ofN := by rw [List.replicate_zero, List.append_nil, List.take_of_length_le (by omega)]
      rw [e]; exact Ev.now _
    | succ d ih =>
      intro i h
      have hi : i < l.length := by omega
      have q : (i : Int) < ((((l.take i).map ofN) ++ List.replicate (d + 1) z48).length : Int) := by simp only [List.length_append, List.length_map, List.length_take, List.length_replicate]; omega
      have w : wrap64 ((i : Int) + 1) = ((i + 1 : Nat) : Int) := w64 (by omega) (by omega)
      refine Ev.step (fun k => by rw [laws_toNodeS.l0]) ?_
      refine evP (by omega) ?_
      refine evP (by omega) ?_
      refine evS (a := ((rd_T45 l (i : Int)).f0, (rd_T45 l (i : Int)).f1, (rd_T45 l (i : Int)).f2, (rd_T45 l (i : Int)).f3, (rd_T45 l (i : Int)).f4, (rd_T45 l (i : Int)).f5, (rd_T45 l (i : Int)).f6)) rfl ?_
      refine evP q ?_
      have e := getD_take_mapN ofN l z45 i d z48 hi
      rw [w]
      have e2 : (((l.take i).map ofN) ++ List.replicate (d + 1) z48).set (i : Int).toNat (ofN (rd_T45 l (i : Int))) = ((l.take (i + 1)).map ofN) ++ List.replicate d z48 := e
      unfold ofN at e2 ⊢
      dsimp only
      rw [e2]
      exact ih (i + 1) (by omega)
  unfold laws_toNodeS.f
  refine evP (by omega) ?_
  refine evP (by rw [Int.toNat_natCast]; omega) ?_
  rw [Int.toNat_natCast]
  exact loop l.length 0 (by omega)
theorem eqNode_self (a b c d e : Int) (f g : ByteArray) : laws_eqNode.f a b c d e f g a b c d e f g = some true := by
  unfold laws_eqNode.f
  simp
theorem eqNodeS_self (l : List S48) (hm : l.length ≤ 1048576) : Ev (fun k => laws_eqNodeS.f k l l) true := by
  have loop : ∀ (d i : Nat), i + d = l.length → Ev (fun k => laws_eqNodeS.l0 k l l (i : Int)) true := by
    intro d
    induction d with
    | zero =>
      intro i h
      refine Ev.step (fun k => by rw [laws_eqNodeS.l0]) ?_
      exact evN (by omega) (Ev.now _)
    | succ d ih =>
      intro i h
      have w : wrap64 ((i : Int) + 1) = ((i + 1 : Nat) : Int) := w64 (by omega) (by omega)
      refine Ev.step (fun k => by rw [laws_eqNodeS.l0]) ?_
      refine evP (by omega) ?_
      refine evP (by omega) ?_
      refine evP (by omega) ?_
      refine evS (eqNode_self _ _ _ _ _ _ _) ?_
      refine evP rfl ?_
      rw [w]
      exact ih (i + 1) (by omega)
  unfold laws_eqNodeS.f
  refine evP rfl ?_
  exact loop l.length 0 (by omega)
theorem szNodeS_ev (l : List S45) (hl : l.length * 72 ≤ 140737488351232) : ∃ r, Ev (fun k => laws_szNodeS.f k l 1048576) r ∧ (1048576 < l.length → r < 0) := by
  have loop : ∀ (d i : Nat) (x : Int), i + d = l.length → ∃ r, Ev (fun k => laws_szNodeS.l0 k l x (i : Int)) r := by
    intro d
    induction d with
    | zero =>
      intro i x h
      refine ⟨x, Ev.step (fun k => by rw [laws_szNodeS.l0]) ?_⟩
      exact evN (by omega) (Ev.now _)
    | succ d ih =>
      intro i x h
      have w : wrap64 ((i : Int) + 1) = ((i + 1 : Nat) : Int) := w64 (by omega) (by omega)
      have tot : ∀ a b c d e f g h, ∃ t, laws_szNode.f a b c d e f g h = some t := by
        intro a b c d e f g h
        unfold laws_szNode.f
        repeat' split
        all_goals exact ⟨_, rfl⟩
      obtain ⟨t, ht⟩ := tot ((rd_T45 l (i : Int)).f0) ((rd_T45 l (i : Int)).f1) ((rd_T45 l (i : Int)).f2) ((rd_T45 l (i : Int)).f3) ((rd_T45 l (i : Int)).f4) ((rd_T45 l (i : Int)).f5) ((rd_T45 l (i : Int)).f6) x
      obtain ⟨r, hr⟩ := ih (i + 1) t (by omega)
      by_cases c : t < 0
      · refine ⟨-1, Ev.step (fun k => by rw [laws_szNodeS.l0]) ?_⟩
        refine evP (by omega) ?_
        refine evP (by omega) ?_
        refine evS ht ?_
        exact evP c (Ev.now _)
      · refine ⟨r, Ev.step (fun k => by rw [laws_szNodeS.l0]) ?_⟩
        refine evP (by omega) ?_
        refine evP (by omega) ?_
        refine evS ht ?_
        refine evN c ?_
        rw [w]; exact hr
  unfold laws_szNodeS.f
  rw [w64 (by omega) (by omega)]
  by_cases h : l.length ≤ 1048576
  · obtain ⟨r, hr⟩ := loop l.length 0 (1048576 - (l.length : Int)) (by omega)
    exact ⟨r, evN (by omega) hr, fun _ => by omega⟩
  · exact ⟨-1, evP (by omega) (Ev.now _), fun _ => by omega⟩

/-! Words and keys: both answer alike. -/
theorem word_ev (s : ByteArray) (hs : s.size ≤ 9223372036854775807) : ∃ r, Ev (fun k => spec_IsWord.f k s) r ∧ Ev (fun k => impl_IsWord.f k s) r ∧ (s.size = 0 → r = false) := by
  have loop : ∀ (d i : Nat), i + d = s.size → ∃ r, Ev (fun k => spec_IsWord.l0 k s (i : Int)) r ∧ Ev (fun k => impl_IsWord.l0 k s (i : Int)) r ∧ (s.size = 0 → r = false) := by
    intro d
    induction d with
    | zero =>
      intro i h
      refine ⟨decide ((s.size : Int) ≥ 1) && decide ((s.size : Int) ≤ 8), Ev.step (fun k => by rw [spec_IsWord.l0]) ?_, Ev.step (fun k => by rw [impl_IsWord.l0]) ?_, fun h => by rw [h]; rfl⟩
      · exact evN (by omega) (evS (spec_in_eq _ _ _) (Ev.now _))
      · exact evN (by omega) (evS (impl_in_eq _ _ _) (Ev.now _))
    | succ d ih =>
      intro i h
      have w : wrap64 ((i : Int) + 1) = ((i + 1 : Nat) : Int) := w64 (by omega) (by omega)
      obtain ⟨r, e1, e2, e3⟩ := ih (i + 1) (by omega)
      have let_ : ∀ b, spec_l2Letter.f b = some (decide (b ≥ 97) && decide (b ≤ 122)) := by
        intro b; unfold spec_l2Letter.f
        by_cases h : b ≥ 97 <;> simp [h]
      by_cases c1 : bt s (i : Int) < 97
      · refine ⟨false, Ev.step (fun k => by rw [spec_IsWord.l0]) ?_, Ev.step (fun k => by rw [impl_IsWord.l0]) ?_, fun _ => rfl⟩
        · refine evP (by omega) ?_
          refine evP (by omega) ?_
          refine evS (let_ _) ?_
          refine evN (by simp; omega) (Ev.now _)
        · refine evP (by omega) ?_
          refine evP (by omega) ?_
          exact evP c1 (Ev.now _)
      · by_cases c2 : bt s (i : Int) > 122
        · refine ⟨false, Ev.step (fun k => by rw [spec_IsWord.l0]) ?_, Ev.step (fun k => by rw [impl_IsWord.l0]) ?_, fun _ => rfl⟩
          · refine evP (by omega) ?_
            refine evP (by omega) ?_
            refine evS (let_ _) ?_
            refine evN (by simp; omega) (Ev.now _)
          · refine evP (by omega) ?_
            refine evP (by omega) ?_
            exact evN c1 (evP c2 (Ev.now _))
        · refine ⟨r, Ev.step (fun k => by rw [spec_IsWord.l0]) ?_, Ev.step (fun k => by rw [impl_IsWord.l0]) ?_, e3⟩
          · refine evP (by omega) ?_
            refine evP (by omega) ?_
            refine evS (let_ _) ?_
            refine evP (by simp; omega) ?_
            rw [w]; exact e1
          · refine evP (by omega) ?_
            refine evP (by omega) ?_
            refine evN c1 (evN c2 ?_)
            rw [w]; exact e2
  exact loop s.size 0 (by omega)
def keyL : List ByteArray := [(⟨#[102, 117, 110]⟩ : ByteArray), (⟨#[97, 112, 112]⟩ : ByteArray), (⟨#[108, 101, 116]⟩ : ByteArray), (⟨#[114, 101, 99]⟩ : ByteArray), (⟨#[105, 102]⟩ : ByteArray), (⟨#[97, 100, 100]⟩ : ByteArray), (⟨#[115, 117, 98]⟩ : ByteArray), (⟨#[108, 101, 115, 115]⟩ : ByteArray), (⟨#[115, 97, 109, 101]⟩ : ByteArray), (⟨#[112, 97, 105, 114]⟩ : ByteArray), (⟨#[102, 115, 116]⟩ : ByteArray), (⟨#[115, 110, 100]⟩ : ByteArray), (⟨#[110, 105, 108]⟩ : ByteArray), (⟨#[99, 111, 110, 115]⟩ : ByteArray), (⟨#[109, 97, 116, 99, 104]⟩ : ByteArray), (⟨#[114, 101, 102]⟩ : ByteArray), (⟨#[103, 101, 116]⟩ : ByteArray), (⟨#[115, 101, 116]⟩ : ByteArray), (⟨#[114, 97, 105, 115, 101]⟩ : ByteArray), (⟨#[116, 114, 121]⟩ : ByteArray)]
def keyS : ByteArray := ⟨#[102, 117, 110, 32, 97, 112, 112, 32, 108, 101, 116, 32, 114, 101, 99, 32, 105, 102, 32, 97, 100, 100, 32, 115, 117, 98, 32, 108, 101, 115, 115, 32, 115, 97, 109, 101, 32, 112, 97, 105, 114, 32, 102, 115, 116, 32, 115, 110, 100, 32, 110, 105, 108, 32, 99, 111, 110, 115, 32, 109, 97, 116, 99, 104, 32, 114, 101, 102, 32, 103, 101, 116, 32, 115, 101, 116, 32, 114, 97, 105, 115, 101, 32, 116, 114, 121]⟩
theorem keys_split : strings_Split.f keyS (⟨#[32]⟩ : ByteArray) = some keyL := by decide +kernel
theorem key_ev (s : ByteArray) : ∃ r, Ev (fun k => spec_IsKey.f k s) r ∧ Ev (fun k => impl_IsKey.f k s) r := by
  have h20 : keyL.length = 20 := rfl
  have loop : ∀ (d i : Nat), i + d = 20 → ∃ r, Ev (fun k => spec_IsKey.l0 k s keyL (i : Int)) r ∧ Ev (fun k => impl_IsKey.l0 k s keyL (keyL.length : Int) (i : Int)) r := by
    intro d
    induction d with
    | zero =>
      intro i h
      refine ⟨false, Ev.step (fun k => by rw [spec_IsKey.l0]) ?_, Ev.step (fun k => by rw [impl_IsKey.l0]) ?_⟩
      · exact evN (by omega) (Ev.now _)
      · exact evN (by omega) (Ev.now _)
    | succ d ih =>
      intro i h
      have w : wrap64 ((i : Int) + 1) = ((i + 1 : Nat) : Int) := w64 (by omega) (by omega)
      obtain ⟨r, e1, e2⟩ := ih (i + 1) (by omega)
      by_cases c : (rdOf ByteArray.empty keyL (i : Int)).toList = s.toList
      · refine ⟨true, Ev.step (fun k => by rw [spec_IsKey.l0]) ?_, Ev.step (fun k => by rw [impl_IsKey.l0]) ?_⟩
        · exact evP (by omega) (evP (by omega) (evP c (Ev.now _)))
        · exact evP (by omega) (evP (by omega) (evP (by omega) (evP c (Ev.now _))))
      · refine ⟨r, Ev.step (fun k => by rw [spec_IsKey.l0]) ?_, Ev.step (fun k => by rw [impl_IsKey.l0]) ?_⟩
        · refine evP (by omega) (evP (by omega) (evN c ?_))
          rw [w]; exact e1
        · refine evP (by omega) (evP (by omega) (evP (by omega) (evN c ?_)))
          rw [w]; exact e2
  obtain ⟨r, e1, e2⟩ := loop 20 0 rfl
  refine ⟨r, ?_, ?_⟩
  · unfold spec_IsKey.f
    exact evS (a := keyL) rfl e1
  · unfold impl_IsKey.f
    exact evS (a := keyL) keys_split e2
theorem name_ev (s : ByteArray) (hs : s.size ≤ 9223372036854775807) : ∃ r, Ev (fun k => spec_l3Name.f k s) r ∧ Ev (fun k => impl_isName.f k s) r ∧ (s.size = 0 → r = false) := by
  obtain ⟨a, a1, a2, a3⟩ := word_ev s hs
  obtain ⟨b, b1, b2⟩ := key_ev s
  unfold spec_l3Name.f impl_isName.f
  cases a with
  | false => exact ⟨false, Ev.bind a1 (evN (by simp) (Ev.now _)), Ev.bind a2 (evN (by simp) (Ev.now _)), fun _ => rfl⟩
  | true => exact ⟨!b, Ev.bind a1 (evP rfl (Ev.bind b1 (Ev.now _))), Ev.bind a2 (evP rfl (Ev.bind b2 (Ev.now _))), fun h => absurd (a3 h) (by simp)⟩

/-! Arity, names, fields: both answer alike. -/
def arityM (t : Int) : Nat := if t = 3 ∨ t = 10 ∨ t = 11 ∨ t = 15 ∨ t = 16 ∨ t = 18 then 1 else if t = 4 ∨ t = 5 ∨ t = 6 ∨ t = 8 ∨ t = 9 ∨ t = 13 ∨ t = 17 ∨ t = 19 then 2 else if t = 7 ∨ t = 14 then 3 else 0
theorem arityM_le (t : Int) : arityM t ≤ 3 := by
  unfold arityM
  repeat' split
  all_goals omega
theorem ev_two {α : Type} {g : Nat → Option α} {r : α} (h : ∀ k, g (k + 2) = some r) : Ev g r := by
  refine ⟨2, fun k hk => ?_⟩
  obtain ⟨j, rfl⟩ := Nat.exists_eq_add_of_le' hk
  exact h j
theorem spec_arity_ev (t : Int) : Ev (fun k => spec_Arity.f k t) (arityM t : Int) := by
  refine ev_two (fun k => ?_)
  unfold spec_Arity.f spec_Arity.j0 spec_Arity.j1 arityM
  dsimp only
  by_cases h3 : t = 3
  · subst h3; rfl
  by_cases h10 : t = 10
  · subst h10; rfl
  by_cases h11 : t = 11
  · subst h11; rfl
  by_cases h15 : t = 15
  · subst h15; rfl
  by_cases h16 : t = 16
  · subst h16; rfl
  by_cases h18 : t = 18
  · subst h18; rfl
  by_cases h4 : t = 4
  · subst h4; rfl
  by_cases h5 : t = 5
  · subst h5; rfl
  by_cases h6 : t = 6
  · subst h6; rfl
  by_cases h8 : t = 8
  · subst h8; rfl
  by_cases h9 : t = 9
  · subst h9; rfl
  by_cases h13 : t = 13
  · subst h13; rfl
  by_cases h17 : t = 17
  · subst h17; rfl
  by_cases h19 : t = 19
  · subst h19; rfl
  by_cases h7 : t = 7
  · subst h7; rfl
  by_cases h14 : t = 14
  · subst h14; rfl
  simp [h3, h10, h11, h15, h16, h18, h4, h5, h6, h8, h9, h13, h17, h19, h7, h14]
theorem impl_arity_ev (t : Int) : Ev (fun k => impl_Arity.f k t) (arityM t : Int) := by
  refine ev_two (fun k => ?_)
  unfold impl_Arity.f impl_Arity.j0 impl_Arity.j1 arityM
  dsimp only
  by_cases h3 : t = 3
  · subst h3; rfl
  by_cases h10 : t = 10
  · subst h10; rfl
  by_cases h11 : t = 11
  · subst h11; rfl
  by_cases h15 : t = 15
  · subst h15; rfl
  by_cases h16 : t = 16
  · subst h16; rfl
  by_cases h18 : t = 18
  · subst h18; rfl
  by_cases h4 : t = 4
  · subst h4; rfl
  by_cases h5 : t = 5
  · subst h5; rfl
  by_cases h6 : t = 6
  · subst h6; rfl
  by_cases h8 : t = 8
  · subst h8; rfl
  by_cases h9 : t = 9
  · subst h9; rfl
  by_cases h13 : t = 13
  · subst h13; rfl
  by_cases h17 : t = 17
  · subst h17; rfl
  by_cases h19 : t = 19
  · subst h19; rfl
  by_cases h7 : t = 7
  · subst h7; rfl
  by_cases h14 : t = 14
  · subst h14; rfl
  simp [h3, h10, h11, h15, h16, h18, h4, h5, h6, h8, h9, h13, h17, h19, h7, h14]
def namesM (t : Int) : Nat := if t = 1 ∨ t = 3 ∨ t = 5 ∨ t = 19 then 1 else if t = 6 ∨ t = 14 then 2 else 0
theorem spec_names_ev (t : Int) : Ev (fun k => spec_l3Names.f k t) (namesM t : Int) := by
  refine ev_two (fun k => ?_)
  unfold spec_l3Names.f spec_l3Names.j0 namesM
  dsimp only
  by_cases h1 : t = 1
  · subst h1; rfl
  by_cases h3 : t = 3
  · subst h3; rfl
  by_cases h5 : t = 5
  · subst h5; rfl
  by_cases h19 : t = 19
  · subst h19; rfl
  by_cases h6 : t = 6
  · subst h6; rfl
  by_cases h14 : t = 14
  · subst h14; rfl
  simp [h1, h3, h5, h19, h6, h14]
theorem impl_names_ev (t : Int) : Ev (fun k => impl_namesOf.f k t) (namesM t : Int) := by
  refine ev_two (fun k => ?_)
  unfold impl_namesOf.f impl_namesOf.j0 namesM
  dsimp only
  by_cases h1 : t = 1
  · subst h1; rfl
  by_cases h3 : t = 3
  · subst h3; rfl
  by_cases h5 : t = 5
  · subst h5; rfl
  by_cases h19 : t = 19
  · subst h19; rfl
  by_cases h6 : t = 6
  · subst h6; rfl
  by_cases h14 : t = 14
  · subst h14; rfl
  simp [h1, h3, h5, h19, h6, h14]
def kidsM (n : S48) : List Int := ([n.f1, n.f2, n.f3] : List Int).take (arityM n.f0)
theorem kidsM_length (n : S48) : (kidsM n).length = arityM n.f0 := by
  unfold kidsM
  rw [List.length_take]
  exact Nat.min_eq_left (arityM_le n.f0)
theorem spec_kids_ev (n : S48) : Ev (fun k => spec_Kids.f k n.f0 n.f1 n.f2 n.f3 n.f4 n.f5 n.f6) (kidsM n) := by
  have := arityM_le n.f0
  unfold spec_Kids.f
  refine evB ?_
  refine Ev.bind (spec_arity_ev n.f0) ?_
  refine evP (by omega) ?_
  refine evP (by simp; omega) ?_
  exact Ev.now _
theorem impl_kids_ev (n : S48) : Ev (fun k => impl_Kids.f k n.f0 n.f1 n.f2 n.f3 n.f4 n.f5 n.f6) (kidsM n) := by
  have := arityM_le n.f0
  unfold impl_Kids.f
  refine evB ?_
  refine Ev.bind (impl_arity_ev n.f0) ?_
  refine Ev.bind (impl_arity_ev n.f0) ?_
  refine evP (by omega) ?_
  refine evP (by omega) ?_
  refine evP (by simp; omega) ?_
  exact Ev.now _
def valM (t v : Int) : Bool := if t = 2 then decide (v ≥ 0) && decide (v ≤ 65535) else if t = 8 then decide (v ≥ 0) && decide (v ≤ 3) else v == 0
/-- What is beyond the arity is zero. -/
def restM (n : S48) : Bool := (decide (arityM n.f0 < 1) && n.f1 != 0) || (decide (arityM n.f0 < 2) && n.f2 != 0) || (decide (arityM n.f0 < 3) && n.f3 != 0)
theorem spec_j1 (n : S48) (b : Bool) : Ev (fun k => spec_l3Fields.j1 k b n.f0 n.f1 n.f2 n.f3 n.f4 n.f5 n.f6) (!b && valM n.f0 n.f4) := by
  refine Ev.step (fun k => by rw [spec_l3Fields.j1]) ?_
  cases b with
  | true => exact evP rfl (Ev.now _)
  | false =>
    refine evN (by simp) ?_
    unfold valM
    by_cases h2 : n.f0 = 2
    · refine evP h2 (evS (spec_in_eq _ _ _) ?_)
      rw [if_pos h2]; exact Ev.now _
    · refine evN h2 ?_
      rw [if_neg h2]
      by_cases h8 : n.f0 = 8
      · refine evP h8 (evS (spec_in_eq _ _ _) ?_)
        rw [if_pos h8]; exact Ev.now _
      · refine evN h8 ?_
        rw [if_neg h8]; exact Ev.now _
theorem size_toList (s : ByteArray) : s.toList = ([] : List UInt8) ↔ s.size = 0 := by
  rw [ByteArray.toList_eq, ← data_length s]
  cases s.data.toList <;> simp
def fieldsM (n : S48) (a b : Bool) : Bool :=
  decide (n.f0 ≥ 1) && decide (n.f0 ≤ 19) && !restM n && (if namesM n.f0 > 0 then a else decide (n.f5.size = 0)) && (if namesM n.f0 > 1 then b else decide (n.f6.size = 0)) && valM n.f0 n.f4
theorem spec_j0_tail (n : S48) (b : Bool) (hb : Ev (fun k => spec_l3Name.f k n.f6) b) (hb0 : n.f6.size = 0 → b = false) :
    Ev (fun k => (spec_l3Name.f k n.f6).bind fun t => (if ((decide ((namesM n.f0 : Int) > 1)) != t) = true then (spec_l3Fields.j1 k true n.f0 n.f1 n.f2 n.f3 n.f4 n.f5 n.f6) else (if (namesM n.f0 : Int) < 2 then (spec_l3Fields.j1 k (n.f6.toList != ([] : List UInt8)) n.f0 n.f1 n.f2 n.f3 n.f4 n.f5 n.f6) else (spec_l3Fields.j1 k false n.f0 n.f1 n.f2 n.f3 n.f4 n.f5 n.f6))))
      ((if namesM n.f0 > 1 then b else decide (n.f6.size = 0)) && valM n.f0 n.f4) := by
  refine Ev.bind hb ?_
  by_cases c : namesM n.f0 > 1
  · rw [if_pos c]
    have c' : decide ((namesM n.f0 : Int) > 1) = true := decide_eq_true (by omega)
    cases b with
    | true =>
      refine evN (by rw [c']; decide) ?_
      refine evN (by omega) ?_
      exact spec_j1 n false
    | false =>
      refine evP (by rw [c']; decide) ?_
      exact spec_j1 n true
  · rw [if_neg c]
    have c' : decide ((namesM n.f0 : Int) > 1) = false := decide_eq_false (by omega)
    cases b with
    | true =>
      refine evP (by rw [c']; decide) ?_
      rw [decide_eq_false (fun h => by have := hb0 h; cases this)]
      exact spec_j1 n true
    | false =>
      refine evN (by rw [c']; decide) ?_
      refine evP (by omega) ?_
      have e : (n.f6.toList != ([] : List UInt8)) = !decide (n.f6.size = 0) := by
        by_cases h : n.f6.size = 0
        · rw [(size_toList _).2 h, decide_eq_true h]; rfl
        · rw [decide_eq_false h]
          have := fun x => h ((size_toList _).1 x)
          simpa using this
      have := spec_j1 n (n.f6.toList != ([] : List UInt8))
      rw [e] at this ⊢
      rw [Bool.not_not] at this
      exact this
theorem spec_j0 (n : S48) (a b x : Bool) (ha : Ev (fun k => spec_l3Name.f k n.f5) a) (ha0 : n.f5.size = 0 → a = false) (hb : Ev (fun k => spec_l3Name.f k n.f6) b) (hb0 : n.f6.size = 0 → b = false) :
    Ev (fun k => spec_l3Fields.j0 k x n.f0 n.f1 n.f2 n.f3 n.f4 n.f5 n.f6) (!x && ((if namesM n.f0 > 0 then a else decide (n.f5.size = 0)) && ((if namesM n.f0 > 1 then b else decide (n.f6.size = 0)) && valM n.f0 n.f4))) := by
  refine Ev.step (fun k => by rw [spec_l3Fields.j0]) ?_
  cases x with
  | true => exact evP rfl (Ev.now _)
  | false =>
    refine evN (by simp) ?_
    refine Ev.bind (spec_names_ev n.f0) ?_
    refine Ev.bind ha ?_
    have tl := spec_j0_tail n b hb hb0
    by_cases c : namesM n.f0 > 0
    · rw [if_pos c]
      have c' : decide ((namesM n.f0 : Int) > 0) = true := decide_eq_true (by omega)
      cases a with
      | true =>
        refine evN (by rw [c']; decide) ?_
        refine evN (by omega) ?_
        exact tl
      | false =>
        refine evP (by rw [c']; decide) ?_
        exact spec_j1 n true
    · rw [if_neg c]
      have c' : decide ((namesM n.f0 : Int) > 0) = false := decide_eq_false (by omega)
      cases a with
      | true =>
        refine evP (by rw [c']; decide) ?_
        rw [decide_eq_false (fun h => by have := ha0 h; cases this)]
        exact spec_j1 n true
      | false =>
        refine evN (by rw [c']; decide) ?_
        refine evP (by omega) ?_
        by_cases h : n.f5.size = 0
        · refine evP ((size_toList _).2 h) ?_
          rw [decide_eq_true h]
          exact tl
        · refine evN (fun x => h ((size_toList _).1 x)) ?_
          rw [decide_eq_false h]
          exact spec_j1 n true
theorem spec_fields_ev (n : S48) (a b : Bool) (ha : Ev (fun k => spec_l3Name.f k n.f5) a) (ha0 : n.f5.size = 0 → a = false) (hb : Ev (fun k => spec_l3Name.f k n.f6) b) (hb0 : n.f6.size = 0 → b = false) :
    Ev (fun k => spec_l3Fields.f k n.f0 n.f1 n.f2 n.f3 n.f4 n.f5 n.f6) (fieldsM n a b) := by
  have j := spec_j0 n a b
  unfold spec_l3Fields.f fieldsM
  refine evS (spec_in_eq _ _ _) ?_
  by_cases hin : (decide (n.f0 ≥ 1) && decide (n.f0 ≤ 19)) = true
  · refine evP hin ?_
    rw [hin, Bool.true_and, Bool.and_assoc, Bool.and_assoc]
    refine Ev.bind (spec_arity_ev n.f0) ?_
    have y : Ev (fun k => if (arityM n.f0 : Int) < 3 then spec_l3Fields.j0 k (n.f3 != 0) n.f0 n.f1 n.f2 n.f3 n.f4 n.f5 n.f6 else spec_l3Fields.j0 k false n.f0 n.f1 n.f2 n.f3 n.f4 n.f5 n.f6)
        (!(decide (arityM n.f0 < 3) && n.f3 != 0) && ((if namesM n.f0 > 0 then a else decide (n.f5.size = 0)) && ((if namesM n.f0 > 1 then b else decide (n.f6.size = 0)) && valM n.f0 n.f4))) := by
      by_cases c : arityM n.f0 < 3
      · refine evP (by omega) ?_
        rw [decide_eq_true c, Bool.true_and]; exact j _ ha ha0 hb hb0
      · refine evN (by omega) ?_
        rw [decide_eq_false c, Bool.false_and]; exact j _ ha ha0 hb hb0
    have z : Ev (fun k => if (arityM n.f0 : Int) < 2 then (if n.f2 = 0 then (if (arityM n.f0 : Int) < 3 then spec_l3Fields.j0 k (n.f3 != 0) n.f0 n.f1 n.f2 n.f3 n.f4 n.f5 n.f6 else spec_l3Fields.j0 k false n.f0 n.f1 n.f2 n.f3 n.f4 n.f5 n.f6) else spec_l3Fields.j0 k true n.f0 n.f1 n.f2 n.f3 n.f4 n.f5 n.f6) else (if (arityM n.f0 : Int) < 3 then spec_l3Fields.j0 k (n.f3 != 0) n.f0 n.f1 n.f2 n.f3 n.f4 n.f5 n.f6 else spec_l3Fields.j0 k false n.f0 n.f1 n.f2 n.f3 n.f4 n.f5 n.f6))
        (!((decide (arityM n.f0 < 2) && n.f2 != 0) || (decide (arityM n.f0 < 3) && n.f3 != 0)) && ((if namesM n.f0 > 0 then a else decide (n.f5.size = 0)) && ((if namesM n.f0 > 1 then b else decide (n.f6.size = 0)) && valM n.f0 n.f4))) := by
      by_cases c : arityM n.f0 < 2
      · refine evP (by omega) ?_
        rw [decide_eq_true c, Bool.true_and]
        by_cases h : n.f2 = 0
        · refine evP h ?_
          rw [show (n.f2 != 0) = false by simp [h], Bool.false_or]; exact y
        · refine evN h ?_
          rw [show (n.f2 != 0) = true by simp [h], Bool.true_or]; exact j _ ha ha0 hb hb0
      · refine evN (by omega) ?_
        rw [decide_eq_false c, Bool.false_and, Bool.false_or]; exact y
    have r : restM n = ((decide (arityM n.f0 < 1) && n.f1 != 0) || ((decide (arityM n.f0 < 2) && n.f2 != 0) || (decide (arityM n.f0 < 3) && n.f3 != 0))) := by
      unfold restM; rw [Bool.or_assoc]
    rw [r]
    by_cases c : arityM n.f0 < 1
    · refine evP (by omega) ?_
      rw [decide_eq_true c, Bool.true_and]
      by_cases h : n.f1 = 0
      · refine evP h ?_
        rw [show (n.f1 != 0) = false by simp [h], Bool.false_or]; exact z
      · refine evN h ?_
        rw [show (n.f1 != 0) = true by simp [h], Bool.true_or]; exact j _ ha ha0 hb hb0
    · refine evN (by omega) ?_
      rw [decide_eq_false c, Bool.false_and, Bool.false_or]; exact z
  · refine evN hin ?_
    rw [Bool.not_eq_true] at hin
    rw [hin]; exact Ev.now _
theorem impl_fits_ev (s : ByteArray) (a u : Bool) (ha : Ev (fun k => impl_isName.f k s) a) : Ev (fun k => impl_nameFits.f k s u) (if u = true then a else decide (s.size = 0)) := by
  unfold impl_nameFits.f
  cases u with
  | true => exact evP rfl (Ev.bind ha (Ev.now _))
  | false =>
    refine evN (by simp) ?_
    rw [if_neg (by simp)]
    have e : (s.toList == ([] : List UInt8)) = decide (s.size = 0) := by
      by_cases h : s.size = 0
      · rw [(size_toList _).2 h, decide_eq_true h]; rfl
      · rw [decide_eq_false h]
        have := fun x => h ((size_toList _).1 x)
        simpa using this
    rw [e]; exact Ev.now _
theorem impl_rest_ev (n : S48) : Ev (fun k => impl_fieldsOk.l0 k [n.f1, n.f2, n.f3] ((([n.f1, n.f2, n.f3] : List Int).length : Int)) 0 n.f0 n.f1 n.f2 n.f3 n.f4 n.f5 n.f6) (!restM n && valM n.f0 n.f4) := by
  have e3 : Ev (fun k => impl_fieldsOk.l0 k [n.f1, n.f2, n.f3] ((([n.f1, n.f2, n.f3] : List Int).length : Int)) 3 n.f0 n.f1 n.f2 n.f3 n.f4 n.f5 n.f6) (valM n.f0 n.f4) := by
    refine Ev.step (fun k => by rw [impl_fieldsOk.l0]) ?_
    refine evN (by simp) ?_
    unfold valM
    by_cases h2 : n.f0 = 2
    · refine evP h2 (evS (impl_in_eq _ _ _) ?_)
      rw [if_pos h2]; exact Ev.now _
    · refine evN h2 ?_
      rw [if_neg h2]
      by_cases h8 : n.f0 = 8
      · refine evP h8 (evS (impl_in_eq _ _ _) ?_)
        rw [if_pos h8]; exact Ev.now _
      · refine evN h8 ?_
        rw [if_neg h8]; exact Ev.now _
  have step : ∀ (i : Nat) (x : Int) (r : Bool), i < 3 → rd [n.f1, n.f2, n.f3] (i : Int) = x → Ev (fun k => impl_fieldsOk.l0 k [n.f1, n.f2, n.f3] ((([n.f1, n.f2, n.f3] : List Int).length : Int)) ((i + 1 : Nat) : Int) n.f0 n.f1 n.f2 n.f3 n.f4 n.f5 n.f6) r →
      Ev (fun k => impl_fieldsOk.l0 k [n.f1, n.f2, n.f3] ((([n.f1, n.f2, n.f3] : List Int).length : Int)) (i : Int) n.f0 n.f1 n.f2 n.f3 n.f4 n.f5 n.f6) (!(decide (arityM n.f0 < i + 1) && x != 0) && r) := by
    intro i x r hi hx hr
    have w : wrap64 ((i : Int) + 1) = ((i + 1 : Nat) : Int) := w64 (by omega) (by omega)
    refine Ev.step (fun k => by rw [impl_fieldsOk.l0]) ?_
    refine evP (by simp; omega) ?_
    refine evP (by omega) ?_
    refine evP (by simp; omega) ?_
    refine Ev.bind (impl_arity_ev n.f0) ?_
    rw [hx, w]
    by_cases c : arityM n.f0 < i + 1
    · refine evP (by omega) ?_
      rw [decide_eq_true c, Bool.true_and]
      by_cases h : x = 0
      · refine evP h ?_
        rw [show (x != 0) = false by simp [h]]; exact hr
      · refine evN h ?_
        rw [show (x != 0) = true by simp [h]]; exact Ev.now _
    · refine evN (by omega) ?_
      rw [decide_eq_false c]; exact hr
  have e2 := step 2 n.f3 _ (by omega) rfl e3
  have e1 := step 1 n.f2 _ (by omega) rfl e2
  have e0 := step 0 n.f1 _ (by omega) rfl e1
  have : (!restM n && valM n.f0 n.f4) = (!(decide (arityM n.f0 < 0 + 1) && n.f1 != 0) && (!(decide (arityM n.f0 < 1 + 1) && n.f2 != 0) && (!(decide (arityM n.f0 < 2 + 1) && n.f3 != 0) && valM n.f0 n.f4))) := by
    unfold restM
    cases valM n.f0 n.f4 <;> simp [Bool.and_assoc]
  rw [this]; exact e0
theorem impl_fields_ev (n : S48) (a b : Bool) (ha : Ev (fun k => impl_isName.f k n.f5) a) (hb : Ev (fun k => impl_isName.f k n.f6) b) :
    Ev (fun k => impl_fieldsOk.f k n.f0 n.f1 n.f2 n.f3 n.f4 n.f5 n.f6) (fieldsM n a b) := by
  have jt : Ev (fun k => impl_fieldsOk.j0 k true n.f0 n.f1 n.f2 n.f3 n.f4 n.f5 n.f6) false := Ev.step (fun k => by rw [impl_fieldsOk.j0]) (evP rfl (Ev.now _))
  have jf : Ev (fun k => impl_fieldsOk.j0 k false n.f0 n.f1 n.f2 n.f3 n.f4 n.f5 n.f6) (!restM n && valM n.f0 n.f4) := by
    refine Ev.step (fun k => by rw [impl_fieldsOk.j0]) ?_
    refine evN (by simp) ?_
    exact evB (f := fun k y => impl_fieldsOk.l0 k y (y.length : Int) 0 n.f0 n.f1 n.f2 n.f3 n.f4 n.f5 n.f6) (impl_rest_ev n)
  unfold impl_fieldsOk.f fieldsM
  refine evS (impl_in_eq _ _ _) ?_
  by_cases hin : (decide (n.f0 ≥ 1) && decide (n.f0 ≤ 19)) = true
  · refine evP hin ?_
    rw [hin, Bool.true_and]
    refine Ev.bind (impl_names_ev n.f0) ?_
    refine Ev.bind (impl_fits_ev n.f5 a _ ha) ?_
    have i0 : (if decide ((namesM n.f0 : Int) > 0) = true then a else decide (n.f5.size = 0)) = (if namesM n.f0 > 0 then a else decide (n.f5.size = 0)) := by
      by_cases c : namesM n.f0 > 0
      · rw [if_pos (decide_eq_true (by omega)), if_pos c]
      · rw [if_neg (fun h => c (by have := of_decide_eq_true h; omega)), if_neg c]
    have i1 : (if decide ((namesM n.f0 : Int) > 1) = true then b else decide (n.f6.size = 0)) = (if namesM n.f0 > 1 then b else decide (n.f6.size = 0)) := by
      by_cases c : namesM n.f0 > 1
      · rw [if_pos (decide_eq_true (by omega)), if_pos c]
      · rw [if_neg (fun h => c (by have := of_decide_eq_true h; omega)), if_neg c]
    rw [i0]
    generalize (if namesM n.f0 > 0 then a else decide (n.f5.size = 0)) = A
    cases A with
    | false =>
      refine evN (by simp) ?_
      rw [Bool.and_false]; exact jt
    | true =>
      refine evP rfl ?_
      refine Ev.bind (impl_names_ev n.f0) ?_
      refine Ev.bind (impl_fits_ev n.f6 b _ hb) ?_
      rw [i1]
      generalize (if namesM n.f0 > 1 then b else decide (n.f6.size = 0)) = B
      cases B with
      | false => rw [Bool.and_false]; exact jt
      | true => rw [Bool.and_true, Bool.and_true]; exact jf
  · refine evN hin ?_
    rw [Bool.not_eq_true] at hin
    rw [hin]; exact jt
theorem fields_ev (n : S48) (h5 : n.f5.size ≤ 9223372036854775807) (h6 : n.f6.size ≤ 9223372036854775807) :
    ∃ r, Ev (fun k => spec_l3Fields.f k n.f0 n.f1 n.f2 n.f3 n.f4 n.f5 n.f6) r ∧ Ev (fun k => impl_fieldsOk.f k n.f0 n.f1 n.f2 n.f3 n.f4 n.f5 n.f6) r := by
  obtain ⟨a, a1, a2, a3⟩ := name_ev n.f5 h5
  obtain ⟨b, b1, b2, b3⟩ := name_ev n.f6 h6
  exact ⟨_, spec_fields_ev n a b a1 a3 b1 b3, impl_fields_ev n a b a2 b2⟩

/-! NodesOk: both answer alike; and where they answer true, each node's kids lie before it. -/
def Down (l : List S48) : Prop := ∀ (j : Nat), j < l.length → ∀ x ∈ kidsM (rd_T48 l (j : Int)), 0 ≤ x ∧ x < (j : Int)
theorem rd_append_left (a b : List Int) (x : Int) (h0 : 0 ≤ x) (h : x < (a.length : Int)) : rd (a ++ b) x = rd a x := by
  show (a ++ b).getD x.toNat 0 = a.getD x.toNat 0
  rw [List.getD_eq_getElem?_getD, List.getD_eq_getElem?_getD, List.getElem?_append_left (by omega)]
theorem rd_append_last (a b : List Int) (x : Int) (y : Int) (h : x = (a.length : Int)) : rd (a ++ y :: b) x = y := by
  show (a ++ y :: b).getD x.toNat 0 = y
  rw [h, Int.toNat_natCast, List.getD_eq_getElem?_getD, List.getElem?_append_right (Nat.le_refl _), Nat.sub_self]; rfl
theorem nodesOk_ev (l : List S48) (hq : ∀ x ∈ l, x.f5.size ≤ 9223372036854775807 ∧ x.f6.size ≤ 9223372036854775807) :
    ∃ r, Ev (fun k => spec_NodesOk.f k l) r ∧ Ev (fun k => impl_NodesOk.f k l) r ∧ (r = true → 1 ≤ l.length ∧ l.length ≤ 150 ∧ Down l) := by
  by_cases hn : 1 ≤ l.length ∧ l.length ≤ 150
  rotate_left
  · refine ⟨false, ?_, ?_, fun h => by cases h⟩
    · unfold spec_NodesOk.f
      refine evS (spec_in_eq _ _ _) (evN ?_ (Ev.now _))
      simp; omega
    · unfold impl_NodesOk.f
      refine evS (impl_in_eq _ _ _) (evN ?_ (Ev.now _))
      simp; omega
  obtain ⟨n1, n2⟩ := hn
  -- what the walk over the nodes says, at node i with the starts of the nodes before
  have outer : ∀ (d i : Nat) (st : List Int), i + d = l.length → st.length = i → (∀ j : Nat, j < i → 0 ≤ rd st (j : Int) ∧ rd st (j : Int) ≤ (j : Int)) →
      (∀ j : Nat, j < i → ∀ x ∈ kidsM (rd_T48 l (j : Int)), 0 ≤ x ∧ x < (j : Int)) →
      ∃ (r : Bool) (q : List Int × Bool), Ev (fun k => spec_l3Starts.l0 k l st (i : Int)) q ∧ Ev (fun k => impl_NodesOk.l0 k l (st ++ List.replicate d 0) l (l.length : Int) (i : Int)) r ∧
        ((q.2 = false ∧ r = false) ∨ (q.2 = true ∧ q.1.length = l.length ∧ r = (rd q.1 ((l.length : Int) - 1) == 0) ∧ Down l)) := by
    intro d
    induction d with
    | zero =>
      intro i st h hs hst hk
      have hw : wrap64 ((l.length : Int) - 1) = (l.length : Int) - 1 := w64 (by omega) (by omega)
      refine ⟨rd st ((l.length : Int) - 1) == 0, (st, true), Ev.step (fun k => by rw [spec_l3Starts.l0]) ?_, Ev.step (fun k => by rw [impl_NodesOk.l0]) ?_, .inr ⟨rfl, show st.length = l.length by omega, rfl, ?_⟩⟩
      · exact evN (by omega) (Ev.now _)
      · refine evN (by omega) ?_
        rw [List.replicate_zero, List.append_nil, hw]
        refine evP (by omega) ?_
        refine evP (by omega) ?_
        exact Ev.now _
      · intro j hj; exact hk j (by omega)
    | succ d ih =>
      intro i st h hs hst hk
      have hi : i < l.length := by omega
      have wi : wrap64 ((i : Int) + 1) = ((i + 1 : Nat) : Int) := w64 (by omega) (by omega)
      have hmem : rd_T48 l (i : Int) ∈ l := by
        show l.getD i z48 ∈ l
        rw [List.getD_eq_getElem?_getD, List.getElem?_eq_getElem hi]; exact List.getElem_mem hi
      obtain ⟨fr, f1, f2⟩ := fields_ev (rd_T48 l (i : Int)) (hq _ hmem).1 (hq _ hmem).2
      have lenx : (i : Int) < (l.length : Int) := by omega
      have lst : (i : Int) < ((st ++ List.replicate (d + 1) 0).length : Int) := by rw [List.length_append, List.length_replicate]; omega
      -- what the walk back over the node's kids says
      have inner : ∀ (m : Nat) (x : Int), m ≤ (kidsM (rd_T48 l (i : Int))).length → 0 ≤ x → x ≤ (i : Int) → (∀ y ∈ (kidsM (rd_T48 l (i : Int))).drop m, 0 ≤ y ∧ y < (i : Int)) →
          ∃ (r : Bool) (q : List Int × Bool), Ev (fun k => spec_l3Starts.l1 k l st (i : Int) x (kidsM (rd_T48 l (i : Int))) ((m : Int) - 1)) q ∧ Ev (fun k => impl_NodesOk.l1 k l (st ++ List.replicate (d + 1) 0) (i : Int) (kidsM (rd_T48 l (i : Int))) x ((m : Int) - 1) l (l.length : Int) (i : Int)) r ∧
            ((q.2 = false ∧ r = false) ∨ (q.2 = true ∧ q.1.length = l.length ∧ r = (rd q.1 ((l.length : Int) - 1) == 0) ∧ Down l)) := by
        intro m
        induction m with
        | zero =>
          intro x hm x0 x1 hy
          obtain ⟨r, q, e1, e2, e3⟩ := ih (i + 1) (st ++ [x]) (by omega) (by rw [List.length_append, hs]; rfl) (by
            intro j hj
            by_cases c : j < i
            · rw [rd_append_left _ _ _ (by omega) (by omega)]; exact hst j c
            · have : j = i := by omega
              subst this
              rw [rd_append_last _ _ _ _ (by omega)]; exact ⟨x0, x1⟩) (by
            intro j hj y hy2
            by_cases c : j < i
            · exact hk j c y hy2
            · have : j = i := by omega
              subst this
              exact hy y (by simpa using hy2))
          have es : (st ++ List.replicate (d + 1) 0).set (i : Int).toNat x = (st ++ [x]) ++ List.replicate d 0 := by
            rw [List.replicate_succ, Int.toNat_natCast, set_mid _ _ _ _ _ hs]
          refine ⟨r, q, Ev.step (fun k => by rw [spec_l3Starts.l1]) ?_, Ev.step (fun k => by rw [impl_NodesOk.l1]) ?_, e3⟩
          · refine evN (by omega) ?_
            refine evP (by omega) ?_
            rw [wi]; exact e1
          · refine evN (by omega) ?_
            refine evP (by omega) ?_
            refine evP lst ?_
            rw [wi, es]; exact e2
        | succ m ihm =>
          intro x hm x0 x1 hy
          have wm : ((m + 1 : Nat) : Int) - 1 = (m : Int) := by omega
          have wm1 : wrap64 ((m : Int) - 1) = (m : Int) - 1 := w64 (by have := arityM_le (rd_T48 l (i : Int)).f0; rw [kidsM_length] at hm; omega) (by have := arityM_le (rd_T48 l (i : Int)).f0; rw [kidsM_length] at hm; omega)
          have wx : wrap64 (x - 1) = x - 1 := w64 (by omega) (by omega)
          rw [wm]
          by_cases c0 : x = 0
          · refine ⟨false, (([] : List Int), false), Ev.step (fun k => by rw [spec_l3Starts.l1]) ?_, Ev.step (fun k => by rw [impl_NodesOk.l1]) ?_, .inl ⟨rfl, rfl⟩⟩
            · refine evP (by omega) ?_
              refine evP (by omega) ?_
              refine evP (by omega) ?_
              rw [wx]
              refine evI (fun c => ?_) (fun _ => Ev.now _)
              exact evP (by omega) (Ev.now _)
            · refine evP (by omega) ?_
              exact evP c0 (Ev.now _)
          by_cases c1 : rd (kidsM (rd_T48 l (i : Int))) (m : Int) = x - 1
          rotate_left
          · refine ⟨false, (([] : List Int), false), Ev.step (fun k => by rw [spec_l3Starts.l1]) ?_, Ev.step (fun k => by rw [impl_NodesOk.l1]) ?_, .inl ⟨rfl, rfl⟩⟩
            · refine evP (by omega) ?_
              refine evP (by omega) ?_
              refine evP (by omega) ?_
              rw [wx]
              exact evN c1 (Ev.now _)
            · refine evP (by omega) ?_
              refine evN c0 ?_
              refine evP (by omega) ?_
              refine evP (by omega) ?_
              rw [wx]
              exact evN c1 (Ev.now _)
          have hx := hst (x - 1).toNat (by omega)
          have hxn : (((x - 1).toNat : Nat) : Int) = x - 1 := by omega
          rw [hxn] at hx
          have hd : (kidsM (rd_T48 l (i : Int))).drop m = rd (kidsM (rd_T48 l (i : Int))) (m : Int) :: (kidsM (rd_T48 l (i : Int))).drop (m + 1) := rd_cons_drop _ m (by omega)
          obtain ⟨r, q, e1, e2, e3⟩ := ihm (rd st (x - 1)) (by omega) hx.1 (by omega) (by
            intro y hy2
            rw [hd, List.mem_cons] at hy2
            rcases hy2 with hy2 | hy2
            · rw [hy2, c1]; omega
            · exact hy y hy2)
          refine ⟨r, q, Ev.step (fun k => by rw [spec_l3Starts.l1]) ?_, Ev.step (fun k => by rw [impl_NodesOk.l1]) ?_, e3⟩
          · refine evP (by omega) ?_
            refine evP (by omega) ?_
            refine evP (by omega) ?_
            rw [wx, wm1, c1]
            refine evP rfl ?_
            refine evN (by omega) ?_
            refine evP (by omega) ?_
            refine evP (by omega) ?_
            exact e1
          · refine evP (by omega) ?_
            refine evN c0 ?_
            refine evP (by omega) ?_
            refine evP (by omega) ?_
            rw [wx, wm1]
            refine evP c1 ?_
            refine evP (by omega) ?_
            refine evP (by rw [List.length_append]; omega) ?_
            rw [rd_append_left _ _ _ (by omega) (by omega)]
            exact e2
      cases fr with
      | false =>
        refine ⟨false, (([] : List Int), false), Ev.step (fun k => by rw [spec_l3Starts.l0]) ?_, Ev.step (fun k => by rw [impl_NodesOk.l0]) ?_, .inl ⟨rfl, rfl⟩⟩
        · refine evP lenx ?_
          refine evP (by omega) ?_
          refine Ev.bind f1 ?_
          exact evN (by simp) (Ev.now _)
        · refine evP lenx ?_
          refine evP (by omega) ?_
          refine evP lenx ?_
          refine Ev.bind f2 ?_
          exact evN (by simp) (Ev.now _)
      | true =>
        have hkl := kidsM_length (rd_T48 l (i : Int))
        have hka := arityM_le (rd_T48 l (i : Int)).f0
        obtain ⟨r, q, e1, e2, e3⟩ := inner (kidsM (rd_T48 l (i : Int))).length (i : Int) (Nat.le_refl _) (by omega) (Int.le_refl _) (by rw [List.drop_length]; intro y hy; cases hy)
        have wk : wrap64 (((kidsM (rd_T48 l (i : Int))).length : Int) - 1) = ((kidsM (rd_T48 l (i : Int))).length : Int) - 1 := w64 (by omega) (by omega)
        refine ⟨r, q, Ev.step (fun k => by rw [spec_l3Starts.l0]) ?_, Ev.step (fun k => by rw [impl_NodesOk.l0]) ?_, e3⟩
        · refine evP lenx ?_
          refine evP (by omega) ?_
          refine Ev.bind f1 ?_
          refine evP rfl ?_
          refine Ev.bind (spec_kids_ev (rd_T48 l (i : Int))) ?_
          rw [wk]; exact e1
        · refine evP lenx ?_
          refine evP (by omega) ?_
          refine evP lenx ?_
          refine Ev.bind f2 ?_
          refine evP rfl ?_
          refine Ev.bind (impl_kids_ev (rd_T48 l (i : Int))) ?_
          rw [wk]; exact e2
  obtain ⟨r, q, e1, e2, e3⟩ := outer l.length 0 [] (by omega) rfl (fun j hj => by omega) (fun j hj => by omega)
  have hw : wrap64 ((l.length : Int) - 1) = (l.length : Int) - 1 := w64 (by omega) (by omega)
  have hin : (decide ((l.length : Int) ≥ 1) && decide ((l.length : Int) ≤ 150)) = true := by simp; omega
  refine ⟨r, ?_, ?_, ?_⟩
  · unfold spec_NodesOk.f
    refine evS (spec_in_eq _ _ _) ?_
    refine evP hin ?_
    refine Ev.bind (a := q) (by unfold spec_l3Starts.f; exact e1) ?_
    rcases e3 with ⟨h1, h2⟩ | ⟨h1, h2, h3, _⟩
    · refine evN (by rw [h1]; simp) ?_
      rw [h2]; exact Ev.now _
    · refine evP h1 ?_
      rw [hw]
      refine evP (by omega) ?_
      refine evP (by omega) ?_
      rw [h3]; exact Ev.now _
  · unfold impl_NodesOk.f
    refine evS (impl_in_eq _ _ _) ?_
    refine evP hin ?_
    refine evP (by omega) ?_
    refine evP (by rw [Int.toNat_natCast]; omega) ?_
    rw [Int.toNat_natCast]
    simpa using e2
  · intro hr
    rcases e3 with ⟨_, h2⟩ | ⟨_, _, _, h4⟩
    · rw [h2] at hr; cases hr
    · exact ⟨n1, n2, h4⟩

/-! EffectOf: both answer alike. -/
theorem bits_or_all : ∀ a b : Fin 32, 0 ≤ Go.bits .or .i64 (a.val : Int) (b.val : Int) ∧ Go.bits .or .i64 (a.val : Int) (b.val : Int) < 32 ∧ Go.bits .or .i64 0 (b.val : Int) = (b.val : Int) := by decide +kernel
theorem bits_or {a b : Int} (ha : 0 ≤ a ∧ a < 32) (hb : 0 ≤ b ∧ b < 32) : 0 ≤ Go.bits .or .i64 a b ∧ Go.bits .or .i64 a b < 32 := by
  obtain ⟨n, rfl⟩ := Int.eq_ofNat_of_zero_le ha.1
  obtain ⟨m, rfl⟩ := Int.eq_ofNat_of_zero_le hb.1
  have := bits_or_all ⟨n, by omega⟩ ⟨m, by omega⟩
  exact ⟨this.1, this.2.1⟩
theorem bits_or_zero {b : Int} (hb : 0 ≤ b ∧ b < 32) : Go.bits .or .i64 0 b = b := by
  obtain ⟨m, rfl⟩ := Int.eq_ofNat_of_zero_le hb.1
  exact (bits_or_all 0 ⟨m, by omega⟩).2.2
theorem isFun_eq (l : List S48) (a : Nat) (h : a < l.length) : impl_isFun.f l (a : Int) = some (decide ((rd_T48 l (a : Int)).f0 = 3) || (rd_T48 l (a : Int)).f0 == 6) := by
  unfold impl_isFun.f
  rw [if_pos (by omega), if_pos (by omega)]
  by_cases c : (rd_T48 l (a : Int)).f0 = 3
  · rw [if_pos c, decide_eq_true c]; rfl
  · rw [if_neg c, decide_eq_false c]; rfl
theorem effect_ev (l : List S48) (hl : l.length ≤ 150) (hd : Down l) : ∀ (n a : Nat), a < n → a < l.length →
    ∃ r : Int, Ev (fun k => spec_l23Effect.f k l (a : Int)) r ∧ Ev (fun k => impl_effectOf.f k l (a : Int)) r ∧ 0 ≤ r ∧ r < 32 := by
  intro n
  induction n with
  | zero => intro a h; omega
  | succ n ih =>
    intro a han ha
    have kid : ∀ x ∈ kidsM (rd_T48 l (a : Int)), ∃ r : Int, Ev (fun k => spec_l23Effect.f k l x) r ∧ Ev (fun k => impl_effectOf.f k l x) r ∧ 0 ≤ r ∧ r < 32 := by
      intro x hx
      have h := hd a ha x hx
      have := ih x.toNat (by omega) (by omega)
      rwa [Int.toNat_of_nonneg h.1] at this
    have hkl := kidsM_length (rd_T48 l (a : Int))
    have hka := arityM_le (rd_T48 l (a : Int)).f0
    have hfun := isFun_eq l a ha
    have loop : ∀ (d i : Nat) (e : Int), i + d = (kidsM (rd_T48 l (a : Int))).length → 0 ≤ e ∧ e < 32 → (0 < i ∨ ((rd_T48 l (a : Int)).f0 ≠ 3 ∧ (rd_T48 l (a : Int)).f0 ≠ 6)) →
        ∃ r : Int, Ev (fun k => spec_l23Effect.l0 k l e (kidsM (rd_T48 l (a : Int))) (i : Int)) r ∧ Ev (fun k => impl_effectOf.l0 k l (a : Int) e (kidsM (rd_T48 l (a : Int))) ((kidsM (rd_T48 l (a : Int))).length : Int) (i : Int)) r ∧ 0 ≤ r ∧ r < 32 := by
      intro d
      induction d with
      | zero =>
        intro i e h he _
        refine ⟨e, Ev.step (fun k => by rw [spec_l23Effect.l0]) ?_, Ev.step (fun k => by rw [impl_effectOf.l0]) ?_, he.1, he.2⟩
        · exact evN (by omega) (Ev.now _)
        · exact evN (by omega) (Ev.now _)
      | succ d ih2 =>
        intro i e h he hf
        have hi : i < (kidsM (rd_T48 l (a : Int))).length := by omega
        have w : wrap64 ((i : Int) + 1) = ((i + 1 : Nat) : Int) := w64 (by omega) (by omega)
        have hm : rd (kidsM (rd_T48 l (a : Int))) (i : Int) ∈ kidsM (rd_T48 l (a : Int)) := by
          have := rd_cons_drop _ i hi
          exact List.mem_of_mem_drop (i := i) (by rw [this]; exact List.mem_cons_self)
        obtain ⟨x, x1, x2, x3⟩ := kid _ hm
        obtain ⟨r, r1, r2, r3⟩ := ih2 (i + 1) (Go.bits .or .i64 e x) (by omega) (bits_or he x3) (.inl (by omega))
        refine ⟨r, Ev.step (fun k => by rw [spec_l23Effect.l0]) ?_, Ev.step (fun k => by rw [impl_effectOf.l0]) ?_, r3⟩
        · refine evP (by omega) ?_
          refine evP (by omega) ?_
          refine Ev.bind x1 ?_
          rw [w]; exact r1
        · refine evP (by omega) ?_
          refine evP (by omega) ?_
          refine evP (by omega) ?_
          rw [w]
          refine evI (fun _ => Ev.bind x2 r2) (fun c => ?_)
          rcases hf with hf | hf
          · omega
          · refine evS hfun ?_
            refine evN (by simp [hf.1, hf.2]) ?_
            exact Ev.bind x2 r2
    have hsk : ∀ e : Int, Ev (fun k => spec_Kids.f k (rd_T48 l (a : Int)).f0 (rd_T48 l (a : Int)).f1 (rd_T48 l (a : Int)).f2 (rd_T48 l (a : Int)).f3 (rd_T48 l (a : Int)).f4 (rd_T48 l (a : Int)).f5 (rd_T48 l (a : Int)).f6) (kidsM (rd_T48 l (a : Int))) := fun _ => spec_kids_ev _
    -- the kids of a node that is not a function
    have both : ∀ e : Int, 0 ≤ e ∧ e < 32 → ((rd_T48 l (a : Int)).f0 ≠ 3 ∧ (rd_T48 l (a : Int)).f0 ≠ 6) →
        ∃ r : Int, Ev (fun k => spec_l23Effect.j0 k l e (rd_T48 l (a : Int)).f0 (rd_T48 l (a : Int)).f1 (rd_T48 l (a : Int)).f2 (rd_T48 l (a : Int)).f3 (rd_T48 l (a : Int)).f4 (rd_T48 l (a : Int)).f5 (rd_T48 l (a : Int)).f6) r ∧
          Ev (fun k => impl_effectOf.j0 k l (a : Int) e (rd_T48 l (a : Int)).f0 (rd_T48 l (a : Int)).f1 (rd_T48 l (a : Int)).f2 (rd_T48 l (a : Int)).f3 (rd_T48 l (a : Int)).f4 (rd_T48 l (a : Int)).f5 (rd_T48 l (a : Int)).f6) r ∧ 0 ≤ r ∧ r < 32 := by
      intro e he hf
      obtain ⟨r, r1, r2, r3⟩ := loop _ 0 e (Nat.zero_add _) he (.inr hf)
      refine ⟨r, Ev.step (fun k => by rw [spec_l23Effect.j0]) ?_, Ev.step (fun k => by rw [impl_effectOf.j0]) ?_, r3⟩
      · exact Ev.bind (spec_kids_ev (rd_T48 l (a : Int))) r1
      · exact Ev.bind (impl_kids_ev (rd_T48 l (a : Int))) r2
    have h0 : (0 : Int) ≤ (a : Int) := by omega
    have h1 : (a : Int) < (l.length : Int) := by omega
    -- the kids of a function: the first is left out
    have skip : ∀ (r : Int), ((rd_T48 l (a : Int)).f0 = 3 ∨ (rd_T48 l (a : Int)).f0 = 6) → Ev (fun k => impl_effectOf.l0 k l (a : Int) 0 (kidsM (rd_T48 l (a : Int))) ((kidsM (rd_T48 l (a : Int))).length : Int) 1) r → 0 < (kidsM (rd_T48 l (a : Int))).length →
        Ev (fun k => impl_effectOf.j0 k l (a : Int) 0 (rd_T48 l (a : Int)).f0 (rd_T48 l (a : Int)).f1 (rd_T48 l (a : Int)).f2 (rd_T48 l (a : Int)).f3 (rd_T48 l (a : Int)).f4 (rd_T48 l (a : Int)).f5 (rd_T48 l (a : Int)).f6) r := by
      intro r hf hr hlen
      have w : wrap64 ((0 : Int) + 1) = 1 := w64 (by omega) (by omega)
      refine Ev.step (fun k => by rw [impl_effectOf.j0]) ?_
      refine Ev.bind (impl_kids_ev (rd_T48 l (a : Int))) ?_
      refine Ev.step (fun k => by rw [impl_effectOf.l0]) ?_
      refine evP (by omega) ?_
      refine evP (by omega) ?_
      refine evP (by omega) ?_
      refine evN (by omega) ?_
      refine evS hfun ?_
      refine evP (by rcases hf with h | h <;> simp [h]) ?_
      rw [w]; exact hr
    by_cases t3 : (rd_T48 l (a : Int)).f0 = 3
    · have hlen : (kidsM (rd_T48 l (a : Int))).length = 1 := by rw [hkl, t3]; rfl
      have hr : Ev (fun k => impl_effectOf.l0 k l (a : Int) 0 (kidsM (rd_T48 l (a : Int))) ((kidsM (rd_T48 l (a : Int))).length : Int) 1) 0 :=
        Ev.step (fun k => by rw [impl_effectOf.l0]) (evN (by omega) (Ev.now _))
      have sk := skip 0 (.inl t3) hr (by omega)
      refine ⟨0, Ev.step (fun k => by rw [spec_l23Effect.f]) ?_, Ev.step (fun k => by rw [impl_effectOf.f]) ?_, by omega, by omega⟩
      · exact evP h0 (evP h1 (evP t3 (Ev.now _)))
      · refine evP h0 (evP h1 ?_)
        refine evN (by omega) ?_
        refine evN (by omega) ?_
        refine evN (by omega) ?_
        refine evN (by omega) ?_
        refine evN (by omega) ?_
        exact sk
    by_cases t6 : (rd_T48 l (a : Int)).f0 = 6
    · have hlen : (kidsM (rd_T48 l (a : Int))).length = 2 := by rw [hkl, t6]; rfl
      have hK : kidsM (rd_T48 l (a : Int)) = [(rd_T48 l (a : Int)).f1, (rd_T48 l (a : Int)).f2] := by unfold kidsM; rw [t6]; rfl
      obtain ⟨x, x1, x2, x3⟩ := kid (rd_T48 l (a : Int)).f2 (by rw [hK]; simp)
      have w : wrap64 ((1 : Int) + 1) = 2 := w64 (by omega) (by omega)
      have hr : Ev (fun k => impl_effectOf.l0 k l (a : Int) 0 (kidsM (rd_T48 l (a : Int))) ((kidsM (rd_T48 l (a : Int))).length : Int) 1) x := by
        refine Ev.step (fun k => by rw [impl_effectOf.l0]) ?_
        refine evP (by omega) ?_
        refine evP (by omega) ?_
        refine evP (by omega) ?_
        refine evP (by omega) ?_
        rw [show rd (kidsM (rd_T48 l (a : Int))) 1 = (rd_T48 l (a : Int)).f2 by rw [hK]; rfl]
        refine Ev.bind x2 ?_
        rw [w, bits_or_zero x3]
        refine Ev.step (fun k => by rw [impl_effectOf.l0]) ?_
        exact evN (by omega) (Ev.now _)
      have sk := skip x (.inr t6) hr (by omega)
      refine ⟨x, Ev.step (fun k => by rw [spec_l23Effect.f]) ?_, Ev.step (fun k => by rw [impl_effectOf.f]) ?_, x3⟩
      · exact evP h0 (evP h1 (evN t3 (evP t6 (Ev.bind x1 (Ev.now _)))))
      · refine evP h0 (evP h1 ?_)
        refine evN (by omega) ?_
        refine evN (by omega) ?_
        refine evN (by omega) ?_
        refine evN (by omega) ?_
        refine evN (by omega) ?_
        exact sk
    have fin : ∀ e : Int, 0 ≤ e ∧ e < 32 → (∀ r, Ev (fun k => spec_l23Effect.j0 k l e (rd_T48 l (a : Int)).f0 (rd_T48 l (a : Int)).f1 (rd_T48 l (a : Int)).f2 (rd_T48 l (a : Int)).f3 (rd_T48 l (a : Int)).f4 (rd_T48 l (a : Int)).f5 (rd_T48 l (a : Int)).f6) r → Ev (fun k => spec_l23Effect.f k l (a : Int)) r) →
        (∀ r, Ev (fun k => impl_effectOf.j0 k l (a : Int) e (rd_T48 l (a : Int)).f0 (rd_T48 l (a : Int)).f1 (rd_T48 l (a : Int)).f2 (rd_T48 l (a : Int)).f3 (rd_T48 l (a : Int)).f4 (rd_T48 l (a : Int)).f5 (rd_T48 l (a : Int)).f6) r → Ev (fun k => impl_effectOf.f k l (a : Int)) r) →
        ∃ r : Int, Ev (fun k => spec_l23Effect.f k l (a : Int)) r ∧ Ev (fun k => impl_effectOf.f k l (a : Int)) r ∧ 0 ≤ r ∧ r < 32 := by
      intro e he s1 s2
      obtain ⟨r, r1, r2, r3⟩ := both e he ⟨t3, t6⟩
      exact ⟨r, s1 r r1, s2 r r2, r3⟩
    by_cases c1 : (rd_T48 l (a : Int)).f0 = 16
    · exact fin 1 (by omega) (fun r hr => Ev.step (fun k => by rw [spec_l23Effect.f]) (evP h0 (evP h1 (evN t3 (evN t6 (evP c1 hr)))))) (fun r hr => Ev.step (fun k => by rw [impl_effectOf.f]) (evP h0 (evP h1 (evP c1 hr))))
    by_cases c2 : (rd_T48 l (a : Int)).f0 = 17
    · exact fin 2 (by omega) (fun r hr => Ev.step (fun k => by rw [spec_l23Effect.f]) (evP h0 (evP h1 (evN t3 (evN t6 (evN c1 (evP c2 hr))))))) (fun r hr => Ev.step (fun k => by rw [impl_effectOf.f]) (evP h0 (evP h1 (evN c1 (evP c2 hr)))))
    by_cases c3 : (rd_T48 l (a : Int)).f0 = 18
    · exact fin 4 (by omega) (fun r hr => Ev.step (fun k => by rw [spec_l23Effect.f]) (evP h0 (evP h1 (evN t3 (evN t6 (evN c1 (evN c2 (evP c3 hr)))))))) (fun r hr => Ev.step (fun k => by rw [impl_effectOf.f]) (evP h0 (evP h1 (evN c1 (evN c2 (evP c3 hr))))))
    by_cases c4 : (rd_T48 l (a : Int)).f0 = 15
    · exact fin 8 (by omega) (fun r hr => Ev.step (fun k => by rw [spec_l23Effect.f]) (evP h0 (evP h1 (evN t3 (evN t6 (evN c1 (evN c2 (evN c3 (evP c4 hr))))))))) (fun r hr => Ev.step (fun k => by rw [impl_effectOf.f]) (evP h0 (evP h1 (evN c1 (evN c2 (evN c3 (evP c4 hr)))))))
    by_cases c5 : (rd_T48 l (a : Int)).f0 = 4
    · exact fin 16 (by omega) (fun r hr => Ev.step (fun k => by rw [spec_l23Effect.f]) (evP h0 (evP h1 (evN t3 (evN t6 (evN c1 (evN c2 (evN c3 (evN c4 (evP c5 hr)))))))))) (fun r hr => Ev.step (fun k => by rw [impl_effectOf.f]) (evP h0 (evP h1 (evN c1 (evN c2 (evN c3 (evN c4 (evP c5 hr))))))))
    exact fin 0 (by omega) (fun r hr => Ev.step (fun k => by rw [spec_l23Effect.f]) (evP h0 (evP h1 (evN t3 (evN t6 (evN c1 (evN c2 (evN c3 (evN c4 (evN c5 hr)))))))))) (fun r hr => Ev.step (fun k => by rw [impl_effectOf.f]) (evP h0 (evP h1 (evN c1 (evN c2 (evN c3 (evN c4 (evN c5 hr))))))))
theorem effectOf_ev (l : List S48) (a : Int) (hq : ∀ x ∈ l, x.f5.size ≤ 9223372036854775807 ∧ x.f6.size ≤ 9223372036854775807) : ∃ r : Int, Ev (fun k => spec_EffectOf.f k l a) r ∧ Ev (fun k => impl_EffectOf.f k l a) r := by
  obtain ⟨b, b1, b2, b3⟩ := nodesOk_ev l hq
  unfold spec_EffectOf.f impl_EffectOf.f
  cases b with
  | false => exact ⟨0, Ev.bind b1 (evN (by simp) (Ev.now _)), Ev.bind b2 (evN (by simp) (Ev.now _))⟩
  | true =>
    obtain ⟨n1, n2, hd⟩ := b3 rfl
    have hw : wrap64 ((l.length : Int) - 1) = (l.length : Int) - 1 := w64 (by omega) (by omega)
    rw [hw]
    by_cases c : (decide (a ≥ 0) && decide (a ≤ (l.length : Int) - 1)) = true
    · have c' : 0 ≤ a ∧ a ≤ (l.length : Int) - 1 := by simpa using c
      obtain ⟨r, r1, r2, r3⟩ := effect_ev l n2 hd (a.toNat + 1) a.toNat (by omega) (by omega)
      rw [Int.toNat_of_nonneg c'.1] at r1 r2
      exact ⟨r, Ev.bind b1 (evP rfl (evS (spec_in_eq _ _ _) (evP c (Ev.bind r1 (Ev.now _))))), Ev.bind b2 (evP rfl (evS (impl_in_eq _ _ _) (evP c (Ev.bind r2 (Ev.now _)))))⟩
    · exact ⟨0, Ev.bind b1 (evP rfl (evS (spec_in_eq _ _ _) (evN c (Ev.now _)))), Ev.bind b2 (evP rfl (evS (impl_in_eq _ _ _) (evN c (Ev.now _))))⟩

theorem FnExactEffectOf : ∀ (l0 : List S45) (a1 : Int), l0.length * 72 ≤ 140737488351232 → (∀ x ∈ l0, (Lit.int .i64 x.f0).wf = true ∧ (Lit.int .i64 x.f1).wf = true ∧ (Lit.int .i64 x.f2).wf = true ∧ (Lit.int .i64 x.f3).wf = true ∧ (Lit.int .i64 x.f4).wf = true ∧ x.f5.size ≤ maxLen ∧ x.f6.size ≤ maxLen) → (Lit.int .i64 a1).wf = true → ∃ k, laws_FnExactEffectOf.f k l0 a1 = some true := by
  intro l0 a hl hw _
  apply Ev.rounds
  unfold laws_FnExactEffectOf.f
  obtain ⟨r, er, hr⟩ := szNodeS_ev l0 hl
  refine Ev.bind er ?_
  refine evI (fun _ => Ev.now _) (fun c => ?_)
  have hm : l0.length ≤ 1048576 := Nat.le_of_not_lt (fun h => c (hr h))
  have hm2 : (l0.map ofN).length ≤ 1048576 := by rw [List.length_map]; exact hm
  have hq : ∀ x ∈ l0.map ofN, x.f5.size ≤ 9223372036854775807 ∧ x.f6.size ≤ 9223372036854775807 := by
    intro x hx
    obtain ⟨y, hy, rfl⟩ := List.mem_map.1 hx
    have h := hw y hy
    exact ⟨h.2.2.2.2.2.1, h.2.2.2.2.2.2⟩
  obtain ⟨e, e1, e2⟩ := effectOf_ev (l0.map ofN) a hq
  refine Ev.bind (toNodeS_ev l0 hm) ?_
  refine Ev.bind e1 ?_
  refine Ev.bind (toNodeS_ev l0 hm) ?_
  refine Ev.bind e2 ?_
  refine evP rfl ?_
  refine Ev.bind (toNodeS_ev l0 hm) ?_
  refine Ev.bind (eqNodeS_self _ hm2) ?_
  exact evP rfl (Ev.now _)

end Go.Proofs.YtoebebgeiahagaaDoor.Pure
