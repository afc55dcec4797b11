/- What the statements share: part 23 of a proof by an executable machine over the program's code. -/
import Derived.Test.YtbkpkchegopmiaaGreatDoorMc21
import Derived.Test.YtbkpkchegopmiaaGreatDoorMc22
import Derived.Shelf.Strings.Split
import Derived.Sort.OwnSorted
import Derived.Shelf.Slices.In.SortNone2
import Derived.Shelf.SlSortCmp.KitK
import Derived.Shelf.SlicesE.Kit
import Derived.Shelf.RegionOpenPlain
import Derived.WalkKit
import Derived.Deep.LoopGhost
import Derived.Deep.Draws
import Derived.Lib.Walk
import Derived.Sort.WalkB12
import Derived.Lib.SliceRun
import Derived.Lib.SlicesCompact
import Derived.Shelf.SlicesQ.Reverse
set_option linter.unusedVariables false
set_option linter.unusedSimpArgs false
set_option maxRecDepth 100000
set_option maxHeartbeats 6000000
namespace Go.Mach
open Go Go.RowKit Go.Proofs
theorem key_count : Go.Lib.countB keyS spaceS = keyL.length - 1 := by kernel_rfl
theorem key_data : Go.Lib.splitK spaceS.data.toList 0 (keyL.length - 1) keyS.data.toList = keyL.map (·.data.toList) := by kernel_rfl
theorem data_inj : ∀ {l m : List ByteArray}, l.map (·.data.toList) = m.map (·.data.toList) → l = m
 | [], [], _ => rfl
 | ⟨⟨a⟩⟩ :: l, ⟨⟨b⟩⟩ :: m, h => by
   simp only [List.map_cons, List.cons.injEq] at h
   rw [show a = b from h.1, data_inj h.2]
theorem key_split : Go.Lib.splitB spaceS 0 (keyL.length - 1) keyS = keyL := by
 apply data_inj; rw [Go.Lib.splitB_data]; exact key_data
set_option maxHeartbeats 1000000 in
theorem split_one {P : Program} {ρ : Go.Shelf.Ren} (L : Lays.n146 P ρ) (hi9 : (P.info? (ρ.t 9)).map (fun i => (i.zero, i.size, i.bytes)) = some (some (.string ByteArray.empty), 1, 16)) (s sep : ByteArray) (w : World)
  (hs : s.size < 4294967281) (h1 : sep.size = 1) :
  Calls P (ρ.f 146) #[.string s, .string sep] w fun e w' =>
   e = .returned (.slice (some ⟨w.heap.size, 0, none⟩) (Go.Lib.countB s sep + 1) (Go.Lib.countB s sep + 1)) ∧ w' = w.alloc (.cells ((Go.Lib.splitB sep 0 (Go.Lib.countB s sep) s).map Value.string).toArray (ρ.t 9)) := by
 have h1' : 1 ≤ sep.size := by omega
 have hle := Go.Lib.countB_le sep h1' s.size s (Nat.le_refl _)
 have hlen := Go.Lib.splitB_all sep h1' 0 _ s rfl
 have hI : ∀ (x : ByteArray) (c : Array Value), x.size ≤ s.size → Calls P (ρ.f 143) #[.string x, .string sep] (w.alloc (.cells c (ρ.t 9))) fun e w' => e = .returned (.int .i64 (Go.Lib.indexB x sep)) ∧ w' = w.alloc (.cells c (ρ.t 9)) := by
  intro x c _
  obtain ⟨b, rfl⟩ := Go.Lib.one_byte sep h1
  refine (Any.strings_Index_one { L with } x b _).mono fun e w' ⟨he, hw⟩ => ⟨?_, hw⟩
  rw [he]
  show _ = Ending.returned (Value.int .i64 (Go.Lib.index x.data.toList [b]))
  rw [Go.Lib.index_one]
 have hC : Calls P (ρ.f 138) #[.string s, .string sep] w fun e w' => e = .returned (.int .i64 (Go.Lib.countB s sep)) ∧ w' = w := by
  obtain ⟨b, rfl⟩ := Go.Lib.one_byte sep h1
  refine (Any.strings_Count_one { L with } s b w).mono fun e w' ⟨he, hw⟩ => ⟨?_, hw⟩
  rw [he]
  show _ = Ending.returned (Value.int .i64 ((Go.Lib.count s.data.toList [b] : Nat) : Int))
  rw [Go.Lib.count_one]
  rfl
 have c := Any.strings_genSplit_core { L with } hi9 s sep 0 (-1) (Go.Lib.countB s sep + 1) w hs h1' (Nat.zero_le _) hI hC (by decide) (by decide) (by rw [if_pos (by decide)]; omega)
 rw [Nat.add_sub_cancel, hlen] at c
 have e2 : Go.Lib.cellsOf (Go.Lib.splitB sep 0 (Go.Lib.countB s sep) s) (Go.Lib.countB s sep + 1) = ((Go.Lib.splitB sep 0 (Go.Lib.countB s sep) s).map Value.string).toArray := by rw [← hlen]; exact Go.Lib.cellsOf_full _
 rw [e2] at c
 have t3 := L.t3; have t9 := L.t9; have t31 := L.t31
 have a3 := L.a3; have a9 := L.a9; have a31 := L.a31
 have z3 := L.z3; have v3 := L.v3; have z9 := L.z9; have v9 := L.v9; have z31 := L.z31; have v31 := L.v31
 have e221 : ∀ args w, (callFunc (ρ.f 221) args).run P w = .ok (.enter (ρ.f 221) args) w := enters_of L.f221 (by kernel_rfl) rfl
 go_enter L.f146, Body.n146_ntmps ρ
 go_wp2_with (go_at_fn (ρ.f 221); refine c.mono ?_; rintro e w' ⟨rfl, hw⟩; rw [hw])
 go_ret
 exact ⟨rfl, rfl⟩
theorem key_len : keyL.length = Go.Lib.countB keyS spaceS + 1 := by rw [key_count]; rfl
theorem split_ok : ExtOk Tryz.prog 227 splitX := by
 refine ⟨⟨_, Tryz.func227, by decide, by kernel_rfl⟩, ?_⟩
 intro σ w args vs d hl hr hbig hg
 unfold splitX at hg
 split at hg
 · rename_i a b
   split at hg
   · rename_i hab
     simp only [Bool.and_eq_true, beq_iff_eq] at hab
     rw [ByteArray.toList_eq, ByteArray.toList_eq, ByteArray.toList_eq, ByteArray.toList_eq] at hab
     obtain rfl : a = keyS := by obtain ⟨⟨a⟩⟩ := a; exact congrArg (fun l => ByteArray.mk ⟨l⟩) hab.1
     obtain rfl : b = spaceS := by obtain ⟨⟨b⟩⟩ := b; exact congrArg (fun l => ByteArray.mk ⟨l⟩) hab.2
     obtain rfl := Option.some.inj hg
     obtain ⟨v0, v1, rfl⟩ : ∃ v0 v1, vs = #[v0, v1] := by
      obtain ⟨l⟩ := vs
      match l, hl with
      | [v0, v1], _ => exact ⟨v0, v1, rfl⟩
     have h0 := hr 0 (by decide)
     have h1 := hr 1 (by decide)
     obtain rfl : v0 = .string keyS := by
      rcases h0 with ⟨_, h⟩ | ⟨h, _⟩
      · cases h; rfl
      · simp [D.hand] at h
     obtain rfl : v1 = .string spaceS := by
      rcases h1 with ⟨_, h⟩ | ⟨h, _⟩
      · cases h; rfl
      · simp [D.hand] at h
     refine (split_one Tryz.lays146 (by kernel_rfl) keyS spaceS w (by decide) rfl).mono ?_
     rintro e w' ⟨rfl, rfl⟩
     rw [key_count, key_split, ← key_count, ← key_len]
     refine ⟨_, fun b => if b = w.heap.size then keyL.length else σ b, rfl, ?_, ⟨rfl, trivial⟩, ⟨(Below.refl _ _).alloc (Nat.le_refl _) _, Nat.le_refl _⟩, fun b hb => if_neg (by omega), fun b hb => ?_⟩
     · have hk : (eB keyL).length = keyL.length := by simp [eB]
       rw [← hk]
       refine .sl _ _ (eB keyL) w.heap.size 0 _ (fun i j => .string (keyL.getD i ⟨#[]⟩)) (by decide) (by decide) ?_ ?_ (Nat.le_refl _) (fun _ => by rw [if_pos rfl]; omega) (fun i j hi hj => ?_) (fun i j hi hj => ?_)
       · intro e he; simp only [eB, List.mem_map] at he; obtain ⟨x, _, rfl⟩ := he; rfl
       · intro e he; simp only [eB, List.mem_map] at he; obtain ⟨x, _, rfl⟩ := he
         intro c hc; simp only [List.mem_singleton] at hc; subst hc; rfl
       · rw [cell_alloc_new]
         obtain rfl : j = 0 := by omega
         rw [hk] at hi
         simp [hi]
       · obtain rfl : j = 0 := by omega
         rw [hk] at hi
         have : (eB keyL).getD i [] = [.str (keyL.getD i ⟨#[]⟩)] := by simp [eB, hi]
         rw [this]; exact .str _
     · show (if b = w.heap.size then _ else _) = 0
       rw [size_alloc] at hb
       rw [if_neg (by omega)]; exact hbig b (by omega)
   · cases hg
 · cases hg
theorem mixed_ok : Tryz.prog.follows .mixedOrders = true := by kernel_rfl
theorem env_ok {xa xb : Option (List D → Option D)} (ha : ∀ g, xa = some g → ExtOk Tryz.prog 118 g) (hb : ∀ g, xb = some g → ExtOk Tryz.prog 181 g) : EnvOk Tryz.prog (env xa xb) := by
 refine ⟨mixed_ok, ty_ok, eq_ok, fn_ok, fun f g h => ?_⟩
 replace h : exT xa xb f = some g := h
 unfold exT at h
 split at h
 · rename_i h1; obtain rfl := Nat.eq_of_beq_eq_true h1; exact ha g h
 · split at h
   · rename_i h1; obtain rfl := Nat.eq_of_beq_eq_true h1; exact hb g h
   · split at h
     · rename_i h1; obtain rfl := Nat.eq_of_beq_eq_true h1; cases h; exact split_ok
     · cases h
theorem env_ok0 : EnvOk Tryz.prog (env none none) := env_ok (fun g h => by cases h) (fun g h => by cases h)
theorem impl_Kids.ans {xa xb : Option (List D → Option D)} (o : Std) (ho : o = std) (n_f0 : Int) (n_f1 : Int) (n_f2 : Int) (n_f3 : Int) (n_f4 : Int) (n_f5 : ByteArray) (n_f6 : ByteArray) : Ans (env xa xb) 123 [.agg [iX n_f0, iX n_f1, iX n_f2, iX n_f3, iX n_f4, .str n_f5, .str n_f6]] (rK o (kidsM (⟨n_f0, n_f1, n_f2, n_f3, n_f4, n_f5, n_f6⟩ : Nd))) := by
 refine Ans.mkA ho _ rfl rfl ?_
 have har := arityM_le n_f0
 repeat' (first
  | (refine .id ?_
     (try (conv => arg 2; cbv))
     first
      | (refine .pE (β := Int) (fun v => iX v) (as' := [iX _]) (impl_Arity.ans o ho _) ?_; rintro v hv)
      | (refine .needD ho (by kernel_rfl) ?_)
      | (refine .need ?_ ?_)
      | (refine .fin ?_; (conv => lhs; cbv); refine congrArg some ?_))
  | ((fail_if_success (refine .id ?_))
     first
      | (subst_vars; refine congrArg (D.sl Tok.ro 1) ?_; simp [std, kidsM, eK, List.map_take]; done)
      | (subst ho; simp [std, lenE]; omega)))
theorem impl_fieldsOk.ans {xa xb : Option (List D → Option D)} (o : Std) (ho : o = std) (n_f0 : Int) (n_f1 : Int) (n_f2 : Int) (n_f3 : Int) (n_f4 : Int) (n_f5 : ByteArray) (n_f6 : ByteArray) (h0 : n_f5.size ≤ 1048576 ∧ n_f6.size ≤ 1048576) : Ans (env xa xb) 122 [.agg [iX n_f0, iX n_f1, iX n_f2, iX n_f3, iX n_f4, .str n_f5, .str n_f6]] (.bool (fldB (⟨n_f0, n_f1, n_f2, n_f3, n_f4, n_f5, n_f6⟩ : Nd))) := by
 refine Ans.mkA ho _ rfl rfl ?_
 have har := arityM_le n_f0; have hal : ([n_f1, n_f2, n_f3] : List Int).length = 3 := rfl
 repeat' (first
  | (refine .id ?_
     (try (conv => arg 2; cbv))
     first
      | refine .testT ?_
      | refine .t1 ?_
      | refine .t0 ?_
      | refine .tN1 ho ?_
      | refine .tN0 ho ?_
      | (refine .test (fun hr => ?_) (fun hr => ?_) <;> (have hb := hr) <;> (try simp (disch := omega) only [ho, std, wI, lenE, nrm] at hb) <;> (try (exfalso; first | contradiction | omega | exact hb rfl)))
      | (refine .pE (β := Bool) .bool (as' := [iX _, iX _, iX _]) (impl_in.ans o ho _ _ _) ?_; rintro (_ | _) hv <;> (try simp only [dE] at hv) <;> (try first | contradiction | exact bX hv))
      | (refine .pE (β := Int) (fun v => iX v) (as' := [iX _]) (impl_namesOf.ans o ho _) ?_; rintro v hv)
      | (refine .pE (β := Bool) .bool (as' := [.str _, .bool _]) (impl_nameFits.ans o ho _ _ ?_) ?_; rotate_left 1; rintro (_ | _) hv <;> (try simp only [dE] at hv) <;> (try first | contradiction | exact bX hv))
      | (refine .needD ho (by kernel_rfl) ?_)
      | (refine .indF (fun m_ s_ => ∃ (a36 : Int) (a37 : Int) (tk : List Nat), s_ = ⟨[Jk, .pbx (.loc 0) 0, Jk, Jk, Jk, Jk, Jk, Jk, Jk, Jk, Jk, Jk, Jk, Jk, Jk, Jk, Jk, Jk, Jk, Jk, Jk, Jk, Jk, Jk, Jk, Jk, Jk, Jk, Jk, Jk, Jk, Jk, Jk, Jk, Jk, .sl .cap 1 (o.bx fun _ => eK .i64 [n_f1, n_f2, n_f3]), iX a36, iX a37] ++ List.replicate 29 Jk, [[[iX n_f0, iX n_f1, iX n_f2, iX n_f3, iX n_f4, .str n_f5, .str n_f6]]], [], tk⟩ ∧ (a36 = 3 ∧ 0 ≤ a37 ∧ a37 ≤ 3 ∧ (∀ j : Nat, (j : Int) < a37 → j < 3 → arityM n_f0 ≤ j → rI [n_f1, n_f2, n_f3] j = 0)) ∧ (3 - a37).toNat ≤ m_) _ _ ⟨_, _, _, by subst ho; rfl, ?_, Nat.le_refl _⟩ ?_
         rotate_right
         rintro m_ _ ⟨a36, a37, tk, rfl, hIa, hka⟩ iha
         obtain ⟨i4, i1, i2, i3⟩ := hIa; refine .unloopA ho ?_
         repeat' (first
          | (refine .id ?_
             (try (conv => arg 2; cbv))
             first
              | refine .testF ?_
              | refine .t1 ?_
              | refine .t0 ?_
              | (refine .test (fun hr => ?_) (fun hr => ?_) <;> (have hb := hr) <;> (try simp (disch := omega) only [ho, std, wI, lenE, nrm] at hb) <;> (try (exfalso; first | contradiction | omega | exact hb rfl)))
              | (refine .pE (β := Bool) .bool (as' := [iX _, iX _, iX _]) (impl_in.ans o ho _ _ _) ?_; rintro (_ | _) hv <;> (try simp only [dE] at hv) <;> (try first | contradiction | exact bX hv))
              | (refine .pE (β := Int) (fun v => iX v) (as' := [iX _]) (impl_Arity.ans o ho _) ?_; rintro v hv)
              | (refine .fetchXK ho ?_ ?_ (fun y hy => ?_); rotate_left 2)
              | (refine iha _ _ ?_ ⟨_, _, _, by subst ho; rfl, ?_, Nat.le_refl _⟩)
              | (refine .fin ?_; (conv => lhs; cbv); refine congrArg some ?_))
          | ((fail_if_success (refine .id ?_))
             first
              | (subst ho; exact ⟨rfl, Int.le_refl _, by omega, fun j hj => absurd hj (by omega)⟩)
              | (refine dB ?_; exact fld_no4 (rest_no (t := n_f0) i1 (by omega) (by omega) hy (by assumption)))
              | (simp (disch := omega) only [ho, std, wI]; exact ⟨i4, by omega, by omega, rest_step (t := n_f0) i1 i3 hy (by omega)⟩)
              | (subst ho; refine dB (fld_end (by assumption) (nfit_lt (by assumption) (by assumption) 0 rfl) (nfit_lt (by assumption) (by assumption) 1 rfl) (rest_end (t := n_f0) (by omega) i3) ?_); first | exact numB_2t (by assumption) (by assumption) | exact numB_2f (by assumption) (by assumption) | exact numB_8t (by assumption) (by assumption) | exact numB_8f (by assumption) (by assumption) | exact numB_0 (by assumption) (by assumption) rfl)
              | assumption
              | omega
              | (subst ho; simp (disch := omega) only [std, wI, tdiv2, tdivN, lenE] <;> first | done | rfl | omega))))
      | (refine .fin ?_; (conv => lhs; cbv); refine congrArg some ?_))
  | ((fail_if_success (refine .id ?_))
     first
      | (refine dB ?_; exact fld_no1 (by assumption))
      | (subst ho; refine dB ?_; exact fld_no2 (nfit_lt (by assumption) (by assumption) 0 rfl))
      | (subst ho; refine dB ?_; exact fld_no3 (nfit_lt (by assumption) (by assumption) 1 rfl))
      | omega))
theorem impl_NodesOk.ans {xa xb : Option (List D → Option D)} (o : Std) (ho : o = std) (l : List Nd) (h0 : Sz l) (h1 : l.length ≤ 1048576) : Ans (env xa xb) 95 [rNd o l] (.bool (okM l)) := by
 refine Ans.mkA ho _ rfl rfl ?_
 repeat' (first
  | (refine .id ?_
     (try (conv => arg 2; cbv))
     first
      | refine .tN1 ho ?_
      | refine .tN0 ho ?_
      | (refine .pE (β := Bool) .bool (as' := [iX _, iX _, iX _]) (impl_in.ans o ho _ _ _) ?_; rintro (_ | _) hv <;> (try simp only [dE] at hv) <;> (try first | contradiction | exact bX hv) <;> (try have hl1 : 1 ≤ (l.length : Int) ∧ (l.length : Int) ≤ 150 := (by subst ho; simp only [std, len_eNd] at hv; exact hv)))
      | (refine .need ?_ ?_)
      | (refine .indF (fun m_ s_ => ∃ (a17 : Int) (a18 : Int) (tk : List Nat) (bx0 : Box) (nn : Nat), s_ = ⟨[rNd o l, Jk, Jk, .asl (.loc 0) 1 nn, Jk, Jk, Jk, Jk, Jk, Jk, Jk, Jk, Jk, Jk, Jk, Jk, rNd o l, iX a17, iX a18] ++ List.replicate 45 Jk, [bx0], [], tk⟩ ∧ (bx0 = (o.bx fun _ => eK .i64 (stB l a18)) ∧ nn = l.length ∧ a17 = l.length ∧ 0 ≤ a18 ∧ a18 ≤ l.length ∧ (startsO l a18.toNat).isSome = true) ∧ (l.length - a18).toNat ≤ m_) _ _ ⟨_, _, _, _, _, by subst ho; rfl, ?_, Nat.le_refl _⟩ ?_
         rotate_right
         rintro m_ _ ⟨a17, a18, tk, bx0, nn, rfl, hIa, hka⟩ iha
         obtain ⟨rfl, hnn, h17, i1, i2, i3⟩ := hIa; have hb1 := stS_bnd i1 i3; have hbl := stB_len i1 i2 i3; refine .unloopA ho ?_
         repeat' (first
          | (refine .id ?_
             (try (conv => arg 2; cbv))
             first
              | refine .tN1 ho ?_
              | refine .tN0 ho ?_
              | (refine .test (fun hr => ?_) (fun hr => ?_) <;> (have hb := hr) <;> (try simp (disch := omega) only [ho, std, wI, lenE, nrm] at hb) <;> (try (exfalso; first | contradiction | omega | exact hb rfl)))
              | (refine .pE (β := Bool) .bool (as' := [.agg [iX _, iX _, iX _, iX _, iX _, .str _, .str _]]) (impl_fieldsOk.ans o ho _ _ _ _ _ _ _ ?_) ?_; rotate_left 1; rintro (_ | _) hv <;> (try simp only [dE] at hv) <;> (try first | contradiction | exact bX hv))
              | (refine .pE (β := List Int) (rK o) (as' := [.agg [iX _, iX _, iX _, iX _, iX _, .str _, .str _]]) (impl_Kids.ans o ho _ _ _ _ _ _ _) ?_; rintro v hv)
              | (refine .fetchYK ho ?_ ?_ (by with_reducible assumption) ?_)
              | (refine .fetchXK ho ?_ ?_ (fun y hy => ?_); rotate_left 2; (first | (have _hkk := hkk; have hy1 : rI (stB l a18) (b7 - 1) = y := (by subst ho; simp (disch := omega) only [std, wI] at hy; exact hy); have hy2 := (stB_at i1 i3 (by omega) (by omega)).symm.trans hy1; have hbq := bnd_at hb1.2 (by omega) (by omega) hy2) | (have hkk := hy)))
              | (refine .fetchXNd ho ?_ ?_ (fun y hy => ?_); rotate_left 2; rcases y with ⟨y0, y1, y2, y3, y4, y5, y6⟩; (have hsz := h0.at i1 (by omega) hy); dsimp only at hsz)
              | (refine .indF (fun m_ s_ => ∃ (b6 : List Int) (b7 : Int) (b8 : Int) (tb6 : Tok) (tk : List Nat), s_ = ⟨[rNd o l, Jk, Jk, .asl (.loc 0) 1 nn, iX a18, Jk, .sl tb6 1 (o.bx fun _ => eK .i64 b6), iX b7, iX b8, Jk, Jk, Jk, Jk, Jk, Jk, Jk, rNd o l, iX a17, iX a18] ++ List.replicate 45 Jk, [(o.bx fun _ => eK .i64 (stB l a18)), [[iX y0, iX y1, iX y2, iX y3, iX y4, .str y5, .str y6]]], [], tk⟩ ∧ (b6 = kidsM (rN l a18) ∧ -1 ≤ b8 ∧ b8 < b6.length ∧ 0 ≤ b7 ∧ b7 ≤ a18 ∧ fldB (rN l a18) = true ∧ walkK (stS l a18) (kidsM (rN l a18)) (kidsM (rN l a18)).length a18 = walkK (stS l a18) (kidsM (rN l a18)) (b8 + 1).toNat b7) ∧ (b8 + 1).toNat ≤ m_) _ _ ⟨_, _, _, _, _, by subst ho; rfl, ?_, Nat.le_refl _⟩ ?_
                 rotate_right
                 rintro m_ _ ⟨b6, b7, b8, tb6, tk, rfl, hIb, hkb⟩ ihb
                 obtain ⟨j1, j2, j3, j4, j5, j6, j7⟩ := hIb; have hkl := len_kidsM (rN l a18); have hka2 := arityM_le (rN l a18).f0; rw [← j1] at hkl; refine .unloopA ho ?_
                 repeat' (first
                  | (refine .id ?_
                     (try (conv => arg 2; cbv))
                     first
                      | refine .testT ?_
                      | refine .t1 ?_
                      | refine .t0 ?_
                      | (refine .test (fun hr => ?_) (fun hr => ?_) <;> (have hb := hr) <;> (try simp (disch := omega) only [ho, std, wI, lenE, nrm] at hb) <;> (try (exfalso; first | contradiction | omega | exact hb rfl)))
                      | (refine .fetchYK ho ?_ ?_ (by with_reducible assumption) ?_)
                      | (refine .fetchXK ho ?_ ?_ (fun y hy => ?_); rotate_left 2; (first | (have _hkk := hkk; have hy1 : rI (stB l a18) (b7 - 1) = y := (by subst ho; simp (disch := omega) only [std, wI] at hy; exact hy); have hy2 := (stB_at i1 i3 (by omega) (by omega)).symm.trans hy1; have hbq := bnd_at hb1.2 (by omega) (by omega) hy2) | (have hkk := hy)))
                      | (refine ihb _ _ ?_ ⟨_, _, _, _, _, by subst ho; rfl, ?_, Nat.le_refl _⟩)
                      | (refine iha _ _ ?_ ⟨_, _, _, _, _, by subst ho; rfl, ?_, Nat.le_refl _⟩)
                      | (refine .fin ?_; (conv => lhs; cbv); refine congrArg some ?_))
                  | ((fail_if_success (refine .id ?_))
                     first
                      | (refine dB ?_; exact okM_failI (st_fail i1 (by omega) i3 (.inr (by rw [j7]; exact walkK_no (by assumption) (by rw [← j1]; first | omega | (rw [hkk]; omega))))))
                      | ((try clear iha); have e1 : v = kidsM (rN l a18) := (at_nd (P := fun x => v = kidsM x) (by assumption) hv.symm); subst ho; have e2 := len_kidsM (rN l a18); have e3 := arityM_le (rN l a18).f0; rw [← e1] at e2; simp (disch := omega) only [std, wI, len_eK]; refine ⟨e1, by omega, by omega, i1, Int.le_refl _, at_nd (P := fun x => fldB x = true) (by assumption) (by assumption), ?_⟩; rw [← e1, Int.sub_add_cancel, Int.toNat_natCast])
                      | ((try clear iha); (try clear ihb); simp (disch := omega) only [ho, std, wI]; exact ⟨j1, by omega, by omega, by omega, by omega, j6, j7.trans (walkK_yes (by assumption) (by rw [← j1]; exact hkk.trans (by assumption)) rfl (by omega) hy2)⟩)
                      | ((try clear iha); (try clear ihb); subst ho; simp (disch := omega) only [std, wI]; rw [set_eK, stB_set i1 (by omega) i3 (stS_next i1 i3 j6 (j7.trans (walkK_zero (by omega))))]; exact ⟨rfl, hnn, h17, by omega, by omega, by rw [st_next i1 i3 j6 (j7.trans (walkK_zero (by omega)))]; rfl⟩)
                      | assumption
                      | omega
                      | (subst ho; simp (disch := omega) only [std, wI, tdiv2, tdivN, lenE] <;> first | done | rfl | omega))))
              | (refine .fin ?_; (conv => lhs; cbv); refine congrArg some ?_))
          | ((fail_if_success (refine .id ?_))
             first
              | (subst ho; refine ⟨?_, by simp [std, len_eNd], by simp [std, len_eNd], Int.le_refl _, by omega, rfl⟩; simp only [std, len_eNd]; rw [stB_zero, ← rep_eK]; rfl)
              | (refine dB ?_; exact okM_failI (st_fail i1 (by omega) i3 (.inl (at_nd (P := fun x => fldB x = false) (by assumption) (by assumption)))))
              | (subst ho; simp (disch := omega) only [std, wI, len_eNd] at hy; refine dB ?_; exact okM_endI hl1 (by omega) i2 i3 hy rfl)
              | assumption
              | omega
              | (subst ho; simp (disch := omega) only [std, wI, tdiv2, tdivN, lenE] <;> first | done | rfl | omega))))
      | (refine .fin ?_; (conv => lhs; cbv); refine congrArg some ?_))
  | ((fail_if_success (refine .id ?_))
     first
      | (subst ho; refine dB ?_; simp only [std, len_eNd] at *; exact okM_len (by assumption))
      | (subst ho; simp [std, lenE]; omega)))
noncomputable def impl_sorted_rest.fi : FnI := { fni Tryz.f200 (fun | 4 => [0, 3, 8, 9, 10] | _ => []) false with body := dropC 1 (bodyOf Tryz.f200) }
theorem impl_sorted_rest.part {xa xb : Option (List D → Option D)} (o : Std) (ho : o = std) (l : List ByteArray) (h0 : l.length ≤ 1048576) : AnsI (env xa xb) impl_sorted_rest.fi .ret (fun s => outD (env xa xb) impl_sorted_rest.fi.nw s impl_sorted_rest.fi.res) [rTx o l, Jk, .sl .nil 1 []] (fun d_ tk_ => d_ = rTx o (dedN l l.length) ∧ (True)) := by
 refine AnsI.mkA ho (by rfl) ?_
 repeat' (first
  | (refine .id ?_
     (try (conv => arg 2; cbv))
     first
      | (refine .indF (fun m_ s_ => ∃ (ea3 : Box) (a9 : Int) (a10 : Int) (ta3 : Tok) (tk : List Nat), s_ = ⟨[rTx o l, Jk, Jk, .sl ta3 1 ea3, Jk, Jk, Jk, Jk, rTx o l, iX a9, iX a10] ++ List.replicate 21 Jk, [], [], tk⟩ ∧ Lv tk ta3 ea3.length ∧ ea3 = (o.bx fun _ => eB (dedN l a10.toNat)) ∧ (a9 = l.length ∧ 0 ≤ a10 ∧ a10 ≤ l.length) ∧ (l.length - a10).toNat ≤ m_) _ _ ⟨_, _, _, _, _, by subst ho; rfl, ?_, ?_, ?_, Nat.le_refl _⟩ ?_
         rotate_right
         rintro m_ _ ⟨ea3, a9, a10, ta3, tk, rfl, hla0, rfl, hIa, hka⟩ iha
         obtain ⟨i1, i2, i3⟩ := hIa; have hrl := (len_dedN l a10.toNat).1; refine .unloopA ho ?_
         repeat' (first
          | (refine .id ?_
             (try (conv => arg 2; cbv))
             first
              | refine .testT ?_
              | refine .t1 ?_
              | refine .t0 ?_
              | (refine .test (fun hr => ?_) (fun hr => ?_) <;> (have hb := hr) <;> (try simp (disch := omega) only [ho, std, wI, lenE, nrm] at hb) <;> (try (exfalso; first | contradiction | omega | exact hb rfl)))
              | (refine .fetchXB ho ?_ ?_ (fun y hy => ?_); rotate_left 2; (first | (have _h := hyp; have hyq := hy) | (have hyp := hy)))
              | (refine .need ?_ ?_)
              | (refine .app1 ?_ (fun t' tk' hl' => ?_))
              | (refine iha _ _ ?_ ⟨_, _, _, _, _, by subst ho; rfl, ?_, ?_, ?_, Nat.le_refl _⟩)
              | (refine .done ⟨rfl, ?_⟩; refine ⟨_, by (conv => lhs; cbv) <;> rfl, ?_⟩))
          | ((fail_if_success (refine .id ?_))
             first
              | (exact Lv.nil)
              | (subst ho; exact hla0)
              | (subst ho; refine ⟨congrArg (D.sl _ 1) (congrArg eB ?_), trivial⟩; exact congrArg (dedN l) (by omega))
              | (subst ho; exact ⟨by simp [std, len_eB], Int.le_refl _, by omega⟩)
              | (subst ho; simp (disch := omega) only [std, wI] at *; exact push_eB (ded_first (by assumption) hyp))
              | (subst ho; simp (disch := omega) only [std, wI] at *; exact push_eB (ded_new i2 hyp hyq (by assumption)))
              | (subst ho; simp (disch := omega) only [std, wI] at *; refine congrArg eB ?_; exact (ded_old i2 (by assumption) hyp hyq (by assumption)).symm)
              | ((try clear iha); subst ho; simp (disch := omega) only [std, wI]; exact ⟨i1, by omega, by omega⟩)
              | assumption
              | omega
              | (subst ho; rfl)
              | (subst ho; simpa [std, lenE] using hl')
              | (subst ho; simp [std, lenE]; omega)
              | (subst ho; simp (disch := omega) only [std, wI, tdiv2, tdivN, lenE] <;> first | done | rfl | omega)))))
  | ((fail_if_success (refine .id ?_))
     first
      | fail))
def headC : Nat → Code → Code
 | 0, .seq a _ => a
 | n + 1, .seq _ b => headC n b
 | _, _ => .skip
theorem sorted_calls {v : Value} {w : World} {ls : List ByteArray} (hlen : ls.length ≤ 1048576) {Post : World → Prop} {σ : Nat → Nat}
  (hC : Calls Tryz.prog 219 #[v] w fun e w' => e = .returned (.tuple #[]) ∧ Post w')
  (hP : ∀ w', Post w' → RD σ w' (.sl .ro 1 (eB ls)) v ∧ ∀ b, w'.heap.size ≤ b → σ b = 0) :
  Calls Tryz.prog 200 #[v] w fun e w'' => ∃ v' σ' w', e = .returned v' ∧ Post w' ∧ RD σ' w'' (.sl .ro 1 (eB (dedN ls ls.length))) v' ∧ (Below w'.heap.size w' w'' ∧ w'.drawn ≤ w''.drawn) ∧ (∀ b, b < w'.heap.size → σ' b = σ b) ∧ ∀ b, w''.heap.size ≤ b → σ' b = 0 := by
 have e219 : ∀ args w, (callFunc 219 args).run Tryz.prog w = .ok (.enter 219 args) w := enters_of Tryz.func219 (by kernel_rfl) rfl
 have hn : Tryz.f200.ntmps = 32 := by kernel_rfl
 refine calls_of_wp Tryz.func200 (c := bodyOf Tryz.f200) (by kernel_rfl) ?_
 simp only [hn, List.size_toArray, List.length_cons, List.length_nil, Nat.reduceAdd, Nat.reduceSub, Array.replicate_succ, Array.replicate_zero, List.push_toArray, List.append_toArray, List.nil_append, List.cons_append]
 have hb : bodyOf Tryz.f200 = .seq (headC 0 (bodyOf Tryz.f200)) (.seq (headC 1 (bodyOf Tryz.f200)) impl_sorted_rest.fi.body) := by kernel_rfl
 rw [hb]
 obtain ⟨c, hc⟩ : ∃ c, c = impl_sorted_rest.fi.body := ⟨_, rfl⟩
 rw [← hc]
 simp only [headC, bodyOf, Tryz.f200, Option.getD]
 go_wp2_with (go_at_fn 219; refine hC.mono ?_; rintro e w' ⟨rfl, hw⟩)
 obtain ⟨hrd, hbig⟩ := hP _ hw
 rw [hc]
 refine wp_rest env_ok0 (.inr rfl) (impl_sorted_rest.part std rfl ls (by omega)) rfl (σ := σ) rfl rfl ?_ hbig ?_
 · intro i hi
   match i, hi with
   | 0, _ => exact .inr (.inl ⟨rfl, hrd⟩)
   | 1, _ => exact .inl rfl
   | 2, _ => exact .inr (.inl ⟨rfl, .slN _ _⟩)
 · rintro v' d tk σ' w'' ⟨rfl, _⟩ h1 h2 h3 h3d h4 h5
   exact ⟨v', σ', w', rfl, hw, h1, ⟨h3, h3d⟩, h4, h5⟩
end Go.Mach
namespace Go.Mach
open Go Go.RowKit Go.Proofs
open Go.Sort hiding Below
section
variable {α : Type} [Inhabited α]
def srtS (l : List ByteArray) : List ByteArray := ((l.map fun b => b.data.toList).mergeSort fun x y => decide (x ≤ y)).map fun b => (⟨b.toArray⟩ : ByteArray)
theorem len_srtS (l : List ByteArray) : (srtS l).length = l.length := by simp [srtS]
theorem heap_sorted {enc : α → Value} {w : World} {g o n : Nat} {os : Array Obj} (d : Array α) {k : Nat} (hk : k < w.heap.size) (hne : k ≠ g) : (grow (putRow enc (Sort.ahead w n) g o d) os).heap[k]? = w.heap[k]? := by
 rw [heap_grow_old _ _ (by simpa using hk)]
 have : g ≠ k := fun e => hne e.symm
 simp [putRow, mapBlock, Sort.ahead, Array.getElem?_modify, this]
theorem size_sorted {enc : α → Value} {w : World} {g o n : Nat} {os : Array Obj} (d : Array α) : w.heap.size ≤ (grow (putRow enc (Sort.ahead w n) g o d) os).heap.size := by simp
theorem below_sorted {enc : α → Value} {w : World} {g o n B : Nat} {os : Array Obj} (d : Array α) (hB : B ≤ g) (hg : g < w.heap.size) : Below B w (grow (putRow enc (Sort.ahead w n) g o d) os) :=
 ⟨rfl, rfl, rfl, size_sorted d, fun k hk => heap_sorted d (by omega) (by omega)⟩
theorem holds_ahead {enc : α → Value} {w : World} {b o n : Nat} {d : Array α} (h : Holds enc w b o d) : Holds enc (Sort.ahead w n) b o d := h
theorem cell_sorted {enc : α → Value} {w : World} {g o n : Nat} {os : Array Obj} {d0 d : Array α} (h0 : Holds enc w g o d0) (hs : d.size = d0.size) (hg : g < w.heap.size) {j : Nat} (hj : j < d.size) :
  (grow (putRow enc (Sort.ahead w n) g o d) os).cell? ⟨g, o + j, none⟩ = some (enc d[j]!) := by
 rw [cell?_grow _ _ _ (by simpa using hg)]
 exact cell?_putRow enc _ g o d0 d (holds_ahead h0) hs j hj
theorem sortS_calls {σ : Nat → Nat} {w : World} {ls : List ByteArray} {v : Value} {B : Nat} {t : Tok} (hr : RD σ w (.sl t 1 (eB ls)) v) (hlen : ls.length < 4611686018427387904) (hbig : ∀ b, w.heap.size ≤ b → σ b = 0) (hBw : B ≤ w.heap.size)
  (hown : ∀ b o l c, v = .slice (some ⟨b, o, none⟩) l c → B ≤ b ∧ ∃ c e, w.heap[b]? = some (.cells c e (0, 0))) :
  ∃ σ', (∀ b, b < B → σ' b = σ b) ∧ Calls Tryz.prog 219 #[v] w fun e w' => e = .returned (.tuple #[]) ∧ ((Below B w w' ∧ w.drawn ≤ w'.drawn) ∧ RD σ' w' (.sl .ro 1 (eB (srtS ls))) v ∧ ∀ b, w'.heap.size ≤ b → σ' b = 0) := by
 generalize hes : eB ls = es at hr
 cases hr with
 | slN =>
   have hl : ls = [] := by cases ls with
    | nil => rfl
    | cons x l => simp [eB] at hes
   subst hl
   refine ⟨σ, fun _ _ => rfl, (Any.sort_Strings_none Tryz.lays192 none 0 w).mono ?_⟩
   rintro e w' ⟨rfl, rfl⟩
   have h0 : eB (srtS []) = [] := by simp [srtS, eB]
   exact ⟨rfl, ⟨Below.refl _ _, Nat.le_refl _⟩, by rw [h0]; exact .slN _ _, hbig⟩
 | sl _ _ _ b o cap f ht hz hl hc hcap hs hw h =>
   subst hes
   obtain ⟨hb, c, e, hblk⟩ := hown b o _ _ rfl
   have hbs : b < w.heap.size := by
    rcases Nat.lt_or_ge b w.heap.size with h | h
    · exact h
    · rw [Array.getElem?_eq_none h] at hblk; cases hblk
   have hkl : (eB ls).length = ls.length := by simp [eB]
   have hH : Holds encStr w b o (ls.map fun x => x.data.toList).toArray := by
    intro j hj
    have hj' : j < ls.length := by simpa using hj
    refine ⟨?_, by simp [World.frozen?, hblk]⟩
    have h1 := hw j 0 (by rw [hkl]; exact hj') hz
    have h2 := h j 0 (by rw [hkl]; exact hj') hz
    have h3 : (eB ls).getD j [] = [.str ls[j]] := by simp [eB, hj']
    rw [h3] at h2
    have h4 : f j 0 = .string ls[j] := by
     generalize f j 0 = y at h2
     cases h2; rfl
    rw [Nat.mul_one, Nat.add_zero] at h1
    rw [h1, h4]
    simp [hj', encStr]
   refine ⟨fun k => if k = b then o + ls.length else if k < B then σ k else 0, fun k hk => by dsimp only; rw [if_neg (by omega), if_pos hk], ?_⟩
   have hc2 := Any.sort_Strings Tryz.lays192 b o cap (ls.map fun x => x.data.toList) w hH hbs (by simpa using hlen)
   rw [List.length_map] at hc2
   rw [hkl]
   refine hc2.mono ?_
   rintro e w' ⟨rfl, n, os, rfl⟩
   refine ⟨rfl, ⟨below_sorted _ hb hbs, Nat.le_add_right _ _⟩, ?_, fun k hk => ?_⟩
   · have hk2 : (eB (srtS ls)).length = ls.length := by simp [eB, len_srtS]
     rw [← hk2]
     refine .sl _ _ (eB (srtS ls)) b o cap (fun i j => .string ((srtS ls).getD i ⟨#[]⟩)) (by decide) (by decide) ?_ ?_ (by omega) (fun _ => by show _ ≤ (if b = b then _ else _); rw [if_pos rfl]; omega) (fun i j hi hj => ?_) (fun i j hi hj => ?_)
     · intro e he; simp only [eB, List.mem_map] at he; obtain ⟨x, _, rfl⟩ := he; rfl
     · intro e he; simp only [eB, List.mem_map] at he; obtain ⟨x, _, rfl⟩ := he
       intro c hc; simp only [List.mem_singleton] at hc; subst hc; rfl
     · obtain rfl : j = 0 := by omega
       rw [Nat.mul_one, Nat.add_zero]
       have hi2 : i < ((ls.map fun x => x.data.toList).mergeSort fun x y => decide (x ≤ y)).toArray.size := by simp; omega
       rw [cell_sorted hH (by simp) hbs hi2]
       have hi3 : i < ls.length := by omega
       simp only [srtS, encStr]
       congr 2
       simp [hi3]
     · obtain rfl : j = 0 := by omega
       have hi3 : i < (srtS ls).length := by rw [len_srtS]; omega
       have : (eB (srtS ls)).getD i [] = [.str ((srtS ls).getD i ⟨#[]⟩)] := by simp [eB, hi3]
       rw [this]; exact .str _
   · have := size_sorted (enc := encStr) (w := w) (g := b) (o := o) (n := n) (os := os) (((ls.map fun x => x.data.toList).mergeSort fun x y => decide (x ≤ y)).toArray)
     dsimp only
     rw [if_neg (by omega), if_neg (by omega)]
end
def encF (f : Fc) : List Value := [.int .i64 f.k, .int .i64 f.n, .int .i64 f.c, .int .i64 f.v.k, .int .i64 f.v.n, .int .i64 f.v.c]
instance : Inhabited Fc := ⟨zF⟩
theorem encF_len (f : Fc) : (encF f).length = 6 := rfl
theorem encF_one (f : Fc) : ∀ v ∈ encF f, v.oneCell' = true := fun v hv => by
 simp only [encF, List.mem_cons, List.not_mem_nil, or_false] at hv
 rcases hv with rfl | rfl | rfl | rfl | rfl | rfl <;> rfl
theorem ordF_swo : SWO (ltOf ordF) where
 irrefl x := decide_eq_false fun h => ltF_irrefl x ((ordF_lt x x).1 h)
 trans x y z h k := decide_eq_true ((ordF_lt x z).2 (ltF_trans ((ordF_lt x y).1 (of_decide_eq_true h)) ((ordF_lt y z).1 (of_decide_eq_true k))))
 ntrans x y z h k := decide_eq_false fun hh => by
  have h1 : ¬ ltF x y := fun q => of_decide_eq_false h ((ordF_lt x y).2 q)
  have h2 : ¬ ltF y z := fun q => of_decide_eq_false k ((ordF_lt y z).2 q)
  have h3 := (ordF_lt x z).1 hh
  by_cases e : ltF y x
  · exact h2 (ltF_trans e h3)
  · have := ltF_total h1 e; subst this; exact h2 h3
theorem ordF_tot (x y : Fc) (h : (ltOf ordF) x y = false) (k : (ltOf ordF) y x = false) : x = y :=
 ltF_total (fun q => of_decide_eq_false h ((ordF_lt x y).2 q)) (fun q => of_decide_eq_false k ((ordF_lt y x).2 q))
theorem world_grow {W w' : World} (h : Below W.heap.size W w') (hd : W.drawn ≤ w'.drawn) : ∃ q os, w' = grow (W.drewN q) os := by
 refine ⟨w'.drawn - W.drawn, w'.heap.extract W.heap.size w'.heap.size, ?_⟩
 have hh : w'.heap = W.heap ++ w'.heap.extract W.heap.size w'.heap.size := by
  refine Array.ext_getElem? fun i => ?_
  by_cases hi : i < W.heap.size
  · rw [h.block i hi, Array.getElem?_append_left hi]
  · rw [Array.getElem?_append_right (by omega), Array.getElem?_extract]
    split
    · congr 1; omega
    · rw [Array.getElem?_eq_none (by omega)]
 have h1 := h.os; have h2 := h.tape; have h3 := h.output
 have h4 : W.drawn + (w'.drawn - W.drawn) = w'.drawn := by omega
 obtain ⟨a, b, c, d, e⟩ := w'
 simp only [grow, World.drewN] at *
 rw [h4, ← hh, ← h1, ← h2, ← h3]
theorem aggF_rd {σ : Nat → Nat} {w : World} (x : Fc) : RD σ w (.agg [.int .i64 x.k, .int .i64 x.n, .int .i64 x.c, .int .i64 x.v.k, .int .i64 x.v.n, .int .i64 x.v.c]) (.agg (encF x).toArray) := by
 refine .agg _ _ rfl (by intro c hc; simp only [List.mem_cons, List.not_mem_nil, or_false] at hc; rcases hc with rfl | rfl | rfl | rfl | rfl | rfl <;> rfl) fun i hi => ?_
 match i, hi with
 | 0, _ => exact .int _ _
 | 1, _ => exact .int _ _
 | 2, _ => exact .int _ _
 | 3, _ => exact .int _ _
 | 4, _ => exact .int _ _
 | 5, _ => exact .int _ _
theorem order_calls (x y : Fc) (W : World) : Calls Tryz.prog 130 #[.agg (encF x).toArray, .agg (encF y).toArray] W fun e w' => e = .returned (.int .i64 (ordF x y)) ∧ ∃ q os, w' = grow (W.drewN q) os := by
 refine (ans_calls env_ok0 (impl_order.ans std rfl x.k x.n x.c x.v.k x.v.n x.v.c y.k y.n y.c y.v.k y.v.n y.v.c) (W := W) (σ := fun _ => 0) rfl ?_ (fun _ _ => rfl)).mono ?_
 · intro i hi
   match i, hi with
   | 0, _ => exact .inl ⟨rfl, aggF_rd x⟩
   | 1, _ => exact .inl ⟨rfl, aggF_rd y⟩
 · rintro e w' ⟨v, σ', rfl, hr, _, ⟨hb, hd⟩, _⟩
   cases hr
   exact ⟨rfl, world_grow hb hd⟩
theorem order_lays (blk off size : Nat) (w : World) : CmpLays Tryz.prog 130 #[] encF 6 ordF blk off size w := fun m os dk _ x y => order_calls x y _
def OwnF (w : World) (B : Nat) (fs : List Fc) (v : Value) : Prop :=
 (fs = [] ∧ v = .slice none 0 0) ∨ ∃ b o cap, v = .slice (some ⟨b, o, none⟩) fs.length cap ∧ B ≤ b ∧ b < w.heap.size ∧ fs.length ≤ cap ∧ HoldsK encF 6 w b o fs.toArray
def srtF (l : List Fc) : List Fc := l.mergeSort fun x y => !(ltOf ordF) y x
theorem len_srtF (l : List Fc) : (srtF l).length = l.length := by simp [srtF]
theorem sortF_calls {w : World} {fs : List Fc} {v : Value} {B : Nat} (h : OwnF w B fs v) (hlen : fs.length < 4611686018427387904) :
  Calls Tryz.prog 146 #[v, .func (.func 130) #[] #[]] w fun e w' => e = .returned (.tuple #[]) ∧ (Below B w w' ∧ w.drawn ≤ w'.drawn) ∧ OwnF w' B (srtF fs) v := by
 rcases h with ⟨rfl, rfl⟩ | ⟨b, o, cap, rfl, hB, hb, hcap, hH⟩
 · refine Calls.mono (P := Tryz.prog) (f := 146) (AnyF.slices_SortFunc_none Tryz.sortFc none 0 _ w) ?_
   rintro e w' ⟨rfl, rfl⟩
   exact ⟨rfl, ⟨Below.refl _ _, Nat.le_refl _⟩, .inl ⟨by simp [srtF], rfl⟩⟩
 · have eg : ∀ args w, (callFunc 130 args).run Tryz.prog w = .ok (.enter 130 args) w := enters_of Tryz.func130 (by kernel_rfl) rfl
   have hc := AnyQ.slices_SortFunc_total Tryz.sortFc 6 Tryz.isAgg55 Tryz.sizeOf55 encF encF_len encF_one ordF ordF_swo 130 #[] b o cap fs.toArray w eg (order_lays _ _ _ _) hH hb (by simpa using hlen) ordF_tot
   have hsz : fs.toArray.size = fs.length := by simp
   rw [hsz] at hc
   refine Calls.mono (P := Tryz.prog) (f := 146) hc ?_
   rintro e w' ⟨rfl, n, os, rfl⟩
   refine ⟨rfl, ⟨?_, Nat.le_add_right _ _⟩, .inr ⟨b, o, cap, by rw [len_srtF], hB, ?_, by rw [len_srtF]; exact hcap, ?_⟩⟩
   · exact below_sorted (enc := id) _ hB hb
   · exact Nat.lt_of_lt_of_le hb (size_sortWorldK_c encF 6 w b o n _ os)
   · exact holdsK_sortWorldK_c encF 6 w b o fs.toArray _ n os hH hb (by simp)
end Go.Mach
namespace Go.Mach
open Go Go.RowKit Go.Proofs Go.Lib Go.Shelf
open Go.Sort hiding Below
section
variable {enc : Fc → List Value} {k : Nat} {w W : World} {b o : Nat} {dk d : Array Fc}
structure WF (enc : Fc → List Value) (k : Nat) (w W : World) (b o : Nat) (dk : Array Fc) : Prop where
 hold : HoldsK enc k W b o dk
 size : W.heap.size = w.heap.size
 other : ∀ i, i ≠ b → W.heap[i]? = w.heap[i]?
 os : W.os = w.os
 tape : W.tape = w.tape
 output : W.output = w.output
 drawn : w.drawn ≤ W.drawn
theorem WF.start (h : HoldsK enc k w b o d) : WF enc k w w b o d := ⟨h, rfl, fun _ _ => rfl, rfl, rfl, rfl, Nat.le_refl _⟩
theorem WF.drewN (h : WF enc k w W b o dk) (q : Nat) : WF enc k w (W.drewN q) b o dk := ⟨h.hold, h.size, h.other, h.os, h.tape, h.output, Nat.le_trans h.drawn (Nat.le_add_right _ _)⟩
theorem WF.load (h : WF enc k w W b o dk) (hk : ∀ x, (enc x).length = k) (P : Program) (i : Nat) (hi : i < dk.size) : Sem.run P (loadCellsFrom ⟨b, o + i * k, none⟩ 0 k #[]) W = .ok (enc dk[i]!).toArray W :=
 run_loadCellsFrom_list P _ _ _ k (hk _) (HoldsK.cells h.hold hk hi)
theorem WF.st (h : WF enc k w W b o dk) (hk : ∀ x, (enc x).length = k) (h1 : ∀ x, ∀ v ∈ enc x, v.oneCell' = true) (P : Program) (i : Nat) (hi : i < dk.size) (y : Fc) :
  Sem.run P (storeCells ⟨b, o + i * k, none⟩ (enc y) 0) W = .ok () (W.setCells b (o + i * k) (enc y)) :=
 stores_of_holds P h.hold (i * k) _ (by rw [hk, size_flatK]; exact rowK_bnd dk k i hi) (h1 _)
theorem flat_set (hk : ∀ x, (enc x).length = k) (i : Nat) (hi : i < dk.size) (x : Fc) : setMany (flatK enc k dk) (i * k) (enc x) = flatK enc k (dk.setIfInBounds i x) := by
 refine ext_get! (by simp) fun t ht => ?_
 have ht' : t < dk.size * k := by simpa using ht
 have k0 : 0 < k := by rcases Nat.eq_zero_or_pos k with h | h; · subst h; simp at ht'
                       · exact h
 rw [get_setMany _ _ _ _ (by simpa using ht'), get_flatK _ _ _ _ (by simpa using ht'), hk]
 by_cases e : t / k = i
 · have h1 := (blk_iff k i t k0).2 e
   rw [if_pos h1, get_flatK enc k (dk.setIfInBounds i x) t (by simpa using ht'), e, getElem!_set_same dk i x hi]
   congr 1
   have := Nat.div_add_mod t k
   rw [e, Nat.mul_comm] at this; omega
 · have h1 : ¬ (i * k ≤ t ∧ t < i * k + k) := fun q => e ((blk_iff k i t k0).1 q)
   rw [if_neg h1, get_flatK enc k (dk.setIfInBounds i x) t (by simpa using ht'), getElem!_set_other dk i (t / k) x e]
theorem WF.set (h : WF enc k w W b o dk) (hk : ∀ x, (enc x).length = k) (i : Nat) (hi : i < dk.size) (x : Fc) : WF enc k w (W.setCells b (o + i * k) (enc x)) b o (dk.setIfInBounds i x) := by
 obtain ⟨e1, e2, e3, e4⟩ := rest_setCells b (enc x) (o + i * k) W
 refine ⟨?_, by rw [size_setCells]; exact h.size, fun j hj => ?_, by rw [e1]; exact h.os, by rw [e2]; exact h.tape, by rw [e3]; exact h.output, by rw [e4]; exact h.drawn⟩
 · have := holds_setCells_c h.hold (i * k) (enc x) (by rw [hk, size_flatK]; exact rowK_bnd dk k i hi)
   rw [flat_set hk i hi x] at this
   exact this
 · rw [heap_setCells b _ _ _ _ hj]; exact h.other j hj
theorem WF.zero (h : WF enc k w W b o dk) (vs : List Value) (kk : Nat) (hkk : kk ≤ dk.size) (hvs : vs.length ≤ (dk.size - kk) * k) (r : List Fc) (hr : r.length = kk) (hl : ∀ j, j < kk → r[j]? = some dk[j]!) :
  WF enc k w (W.setCells b (o + kk * k) vs) b o r.toArray := by
 obtain ⟨e1, e2, e3, e4⟩ := rest_setCells b vs (o + kk * k) W
 refine ⟨fun t ht => ?_, by rw [size_setCells]; exact h.size, fun j hj => ?_, by rw [e1]; exact h.os, by rw [e2]; exact h.tape, by rw [e3]; exact h.output, by rw [e4]; exact h.drawn⟩
 · have ht' : t < kk * k := by have := ht; simp only [size_flatK, List.size_toArray, hr] at this; exact this
   have hle : kk * k ≤ dk.size * k := Nat.mul_le_mul_right _ hkk
   obtain ⟨h1, h2⟩ := h.hold t (by rw [size_flatK]; omega)
   have k0 : 0 < k := by rcases Nat.eq_zero_or_pos k with h | h; · subst h; simp at ht'
                         · exact h
   have hj : t / k < kk := (Nat.div_lt_iff_lt_mul k0).2 ht'
   rw [World.cell?_setCells_out b vs _ _ _ (fun _ _ => by left; show o + t < o + kk * k; omega), World.frozen?_setCells]
   refine ⟨?_, h2⟩
   rw [h1, get_flatK _ _ _ _ (by omega), get_flatK _ _ _ _ (by simpa [hr] using ht')]
   have h3 := hl _ hj
   have h4 : r.toArray[t / k]! = dk[t / k]! := by
    rw [getElem!_pos r.toArray (t / k) (by simpa [hr] using hj)]
    have h5 : r[t / k]? = some r[t / k] := List.getElem?_eq_getElem (by omega)
    rw [h5] at h3
    simpa using Option.some.inj h3
   rw [h4]
 · rw [heap_setCells b _ _ _ _ hj]; exact h.other j hj
theorem run_clear_k {P : Program} {t e : TypeId} {z : Value} (ht : P.underlying t = some (.slice e)) (hv : ∀ w, (zeroValue e).run P w = .ok z w) (h1 : ∀ v ∈ z.cells, v.oneCell' = true) (hz : z.cells.size = k) (h : WF enc k w W b o dk) (kk n c : Nat) (hn : 0 < n) (hkn : kk + n = dk.size) :
  (∀ ty, (Builtin.clear_ #[t] ty #[.slice (some ⟨b, o + kk * k, none⟩) n c]).run P W = .ok (.tuple #[]) (W.setCells b (o + kk * k) (Builtin.zeroCells z.cells n).toList)) ∧ (Builtin.zeroCells z.cells n).toList.length ≤ n * k := by
 refine ⟨fun ty => ?_, by simp [Builtin.zeroCells, hz]⟩
 have hlen : (Builtin.zeroCells z.cells n).toList.length = n * k := by simp [Builtin.zeroCells, hz]
 have hbnd : kk * k + n * k = dk.size * k := by rw [← Nat.add_mul, hkn]
 have hst := stores_of_holds P h.hold (kk * k) (Builtin.zeroCells z.cells n).toList (by rw [hlen, size_flatK]; omega) (fun v hv' => ?_)
 · obtain ⟨m, rfl⟩ : ∃ m, n = m + 1 := ⟨n - 1, by omega⟩
   simp [Builtin.clear_, run_underlying ht, hv, hst]
 · obtain ⟨i, hi, rfl⟩ := List.getElem_of_mem hv'
   refine h1 _ ?_
   have hi' : i < n * z.cells.size := by simpa [Builtin.zeroCells] using hi
   have h0 : 0 < z.cells.size := by rcases Nat.eq_zero_or_pos z.cells.size with h | h; · rw [h] at hi'; simp at hi'
                                    · exact h
   have hm := Nat.mod_lt i h0
   simp only [Builtin.zeroCells, Array.getElem_toList, Array.getElem_map, Array.getElem_range]
   rw [getElem!_pos z.cells _ hm]
   exact Array.getElem_mem hm
end
end Go.Mach
