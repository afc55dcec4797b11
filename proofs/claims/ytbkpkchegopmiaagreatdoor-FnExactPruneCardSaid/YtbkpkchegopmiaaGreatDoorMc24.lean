/- What the statements share: part 24 of a proof by an executable machine over the program's code. -/
import Derived.Test.YtbkpkchegopmiaaGreatDoorMc23
import Derived.Lib.SlicesCompact
set_option linter.unusedVariables false
set_option linter.unusedSimpArgs false
set_option maxRecDepth 100000
set_option maxHeartbeats 1000000
namespace Go.Mach
open Go Go.RowKit Go.Proofs Go.Lib Go.Shelf
open Go.Sort hiding Below
def Good (enc : Fc → List Value) (k : Nat) (w : World) (b o : Nat) (d : Array Fc) (w' : World) : Prop := WF enc k w w' b o (compactUpTo d d.size).toArray
set_option maxHeartbeats 8000000 in
set_option maxRecDepth 1000000 in
theorem compact_core (enc : Fc → List Value) (k : Nat) (z55 : ∀ w, (Go.sizeOf 55).run Tryz.prog w = .ok k w) (hk : ∀ x, (enc x).length = k) (h1 : ∀ x, ∀ v ∈ enc x, v.oneCell' = true)
  (heq : ∀ (x y : Fc) (w : World), Sem.run Tryz.prog (binOp .eql 55 (.agg (enc x).toArray) (.agg (enc y).toArray)) w = .ok (.bool (decide (x = y))) w)
  (hne : ∀ (x y : Fc) (w : World), Sem.run Tryz.prog (binOp .neq 55 (.agg (enc x).toArray) (.agg (enc y).toArray)) w = .ok (.bool (!decide (x = y))) w)
  (hgd : ∀ (op : BinOp) (a b : Operand) (x y : Fc) (w : World), Sem.run Tryz.prog (eqGuard op 55 a b (.agg (enc x).toArray) (.agg (enc y).toArray)) w = .ok () w)
  (zr : Fc) (v55 : ∀ w, (zeroValue 55).run Tryz.prog w = .ok (.agg (enc zr).toArray) w) (blk off cap : Nat) (d : Array Fc) (w : World) (hH : HoldsK enc k w blk off d) (hsz : d.size ≤ 9223372036854775807) (hcap : d.size ≤ cap) :
  Calls Tryz.prog 147 #[.slice (some ⟨blk, off, none⟩) d.size cap] w fun e w' => e = .returned (.slice (some ⟨blk, off, none⟩) (compactUpTo d d.size).length cap) ∧ Good enc k w blk off d w' := by
 have mixed := mixed_ok
 have t3 := Tryz.underlying3; have a3 := Tryz.isAgg3; have z3 := Tryz.sizeOf3; have v3 := Tryz.zeroValue3
 have t36 := Tryz.underlying36; have a36 := Tryz.isAgg36; have z36 := Tryz.sizeOf36; have v36 := Tryz.zeroValue36
 have a55 := Tryz.isAgg55
 have same : ∀ W, WF enc k w W blk off d → (∀ j, j < d.size → keeps d j = true) → (compactUpTo d d.size).length = d.size ∧ Good enc k w blk off d W := by
  intro W hW hall
  have e : compactUpTo d d.size = d.toList := by rw [compactUpTo_all d _ hall, range_map_get]
  refine ⟨by rw [e]; simp, ?_⟩
  unfold Good; rw [e, Array.toArray_toList]; exact hW
 have HS : Aside (∀ W, WF enc k w W blk off d → (∀ j, j < d.size → keeps d j = true) → (compactUpTo d d.size).length = d.size ∧ Good enc k w blk off d W) := same
 have HK : Aside (∀ x, (enc x).length = k) := hk
 have H1 : Aside (∀ x, ∀ v ∈ enc x, v.oneCell' = true) := h1
 have HW : Aside (WF enc k w w blk off d) := WF.start hH
 have hn : Tryz.f147.ntmps = 61 := by kernel_rfl
 clear same hk h1 hH
 by_cases h2 : d.size < 2
 · go_enter Tryz.func147, hn
   go_wp2
   go_ret
   obtain ⟨e1, e2⟩ := HS.out w HW.out (fun j hj => keeps_lt_one d j (by omega))
   exact ⟨by rw [e1]; rfl, e2⟩
 · go_enter Tryz.func147, hn
   go_wp2
   go_loopg [3] d.size (fun g s3 wr => ∃ kk : Nat, 1 ≤ kk ∧ kk ≤ d.size ∧ d.size - kk ≤ g ∧ s3 = .int .i64 kk ∧ Aside (WF enc k w wr blk off d) ∧ Aside (∀ j, j < kk → keeps d j = true))
   case atStart => exact ⟨1, Nat.le_refl _, by omega, by omega, rfl, HW, keeps_lt_one d⟩
   case round =>
    obtain ⟨kk, hk1, hkd, hg, rfl, HR, A⟩ := hrel
    by_cases hlt : kk < d.size
    · obtain ⟨kp, rfl⟩ : ∃ kp, kk = kp + 1 := ⟨kk - 1, by omega⟩
      have hwp : IntKind.i64.wrap (kp : Int) = (kp : Int) := by rw [IntKind.wrap_i64]; omega
      have jz : (kp : Int) + 1 < (d.size : Int) := by omega
      have jz1 : (kp : Int) < (d.size : Int) := by omega
      have p0 : (0 : Int) ≤ (kp : Int) + 1 := by omega
      have e0 : ((kp : Int) + 1).toNat = kp + 1 := by omega
      have g1 : ∀ m, Sem.run Tryz.prog (loadCellsFrom ⟨blk, off + (kp + 1) * k, none⟩ 0 k #[]) (wr.drewN m) = .ok (enc d[kp + 1]!).toArray (wr.drewN m) := fun m => (HR.out.drewN m).load HK.out _ (kp + 1) hlt
      have g2 : ∀ m, Sem.run Tryz.prog (loadCellsFrom ⟨blk, off + kp * k, none⟩ 0 k #[]) (wr.drewN m) = .ok (enc d[kp]!).toArray (wr.drewN m) := fun m => (HR.out.drewN m).load HK.out _ kp (by omega)
      generalize hx : d[kp + 1]! = x at g1
      generalize hy : d[kp]! = y at g2
      have B : Aside (d[kp + 1]! = x ∧ d[kp]! = y) := ⟨hx, hy⟩
      clear hx hy
      by_cases hdup : x = y
      · subst hdup
        go_wp2_with fail
        go_quiet_o (fail)
        go_wp2
        clear g1 g2
        have hkc : kp + 1 < d.size := by omega
        go_loopg [3, 5] d.size (fun g s3 s5 wr2 => ∃ (k0 k2 : Nat) (dk : Array Fc), s3 = .int .i64 k0 ∧ s5 = .int .i64 k2 ∧ 1 ≤ k2 ∧ kp + 1 + k2 ≤ d.size ∧ d.size - (kp + 1 + k2) ≤ g ∧ Aside (WF enc k w wr2 blk off dk) ∧ Aside (CompInv d (kp + 1 + k2) k0 dk) ∧ k0 < kp + 1 + k2)
        case atStart => exact ⟨kp + 1, 1, d, by go_num, rfl, Nat.le_refl _, by omega, by omega, HR.out.drewN _, CompInv.start A.out (keeps_neg (by omega) (by rw [Nat.add_sub_cancel, B.out.1, B.out.2])), by omega⟩
        case round =>
         obtain ⟨k0, k2, dk, rfl, rfl, h1, hle, hg2, HR2, I2, hk0⟩ := hrel
         by_cases hlt2 : kp + 1 + k2 < d.size
         · obtain ⟨p2, rfl⟩ : ∃ p2, k2 = p2 + 1 := ⟨k2 - 1, by omega⟩
           have hds := I2.out.size
           have e1 : dk[kp + 1 + (p2 + 1)]! = d[kp + 1 + (p2 + 1)]! := I2.out.high _ (by omega)
           have e2 : dk[kp + 1 + p2]! = d[kp + 1 + p2]! := I2.out.high _ (by omega)
           have l1 : ∀ m, Sem.run Tryz.prog (loadCellsFrom ⟨blk, off + (kp + 1) * k + (p2 + 1) * k, none⟩ 0 k #[]) (wr.drewN m) = .ok (enc d[kp + 1 + (p2 + 1)]!).toArray (wr.drewN m) := fun m => by
            have := (HR2.out.drewN m).load HK.out Tryz.prog (kp + 1 + (p2 + 1)) (by omega)
            rw [e1, Nat.add_mul (kp + 1), ← Nat.add_assoc] at this; exact this
           have l2 : ∀ m, Sem.run Tryz.prog (loadCellsFrom ⟨blk, off + (kp + 1) * k + p2 * k, none⟩ 0 k #[]) (wr.drewN m) = .ok (enc d[kp + 1 + p2]!).toArray (wr.drewN m) := fun m => by
            have := (HR2.out.drewN m).load HK.out Tryz.prog (kp + 1 + p2) (by omega)
            rw [e2, Nat.add_mul (kp + 1), ← Nat.add_assoc] at this; exact this
           have hwp2 : IntKind.i64.wrap (p2 : Int) = (p2 : Int) := by rw [IntKind.wrap_i64]; omega
           have q0 : (0 : Int) ≤ (p2 : Int) + 1 := by omega
           have q1 : ((p2 : Int) + 1).toNat = p2 + 1 := by omega
           have q2 : (p2 : Int) + 1 < ((d.size - (kp + 1) : Nat) : Int) := by omega
           have q3 : (p2 : Int) < ((d.size - (kp + 1) : Nat) : Int) := by omega
           have b0 : (k0 : Int) < (d.size : Int) := by omega
           have b1 : k0 < d.size := by omega
           clear e1 e2
           generalize hu : d[kp + 1 + (p2 + 1)]! = u at l1
           generalize hv : d[kp + 1 + p2]! = v at l2
           have C : Aside (d[kp + 1 + (p2 + 1)]! = u ∧ d[kp + 1 + p2]! = v) := ⟨hu, hv⟩
           clear hu hv
           by_cases huv : u = v
           · subst huv
             go_wp2_with fail
             go_quiet_o (fail)
             go_wp2
             go_roundg (d.size - (kp + 1 + (p2 + 1 + 1)))
             case measure => omega
             case rel => exact ⟨k0, p2 + 1 + 1, dk, rfl, by go_num, by omega, by omega, Nat.le_refl _, (show Aside _ from HR2.out.drewN _), (show Aside _ from I2.out.skip (keeps_neg (by omega) (by rw [show kp + 1 + (p2 + 1) - 1 = kp + 1 + p2 by omega, C.out.1, C.out.2]))), by omega⟩
           · have hku : (enc u).length = k := HK.out u
             have s1 : ∀ m, Sem.run Tryz.prog (storeCells ⟨blk, off + k0 * k, none⟩ (enc u) 0) (wr.drewN m) = .ok () ((wr.drewN m).setCells blk (off + k0 * k) (enc u)) := fun m => (HR2.out.drewN m).st HK.out H1.out _ k0 (by omega) u
             go_wp2_with fail
             go_quiet_o (fail)
             go_wp2
             go_roundg (d.size - (kp + 1 + (p2 + 1 + 1)))
             case measure => omega
             case rel => exact ⟨k0 + 1, p2 + 1 + 1, dk.setIfInBounds k0 u, by go_num, by go_num, by omega, by omega, Nat.le_refl _, (show Aside _ from (HR2.out.drewN _).set HK.out k0 (by omega) u), (show Aside _ from by
              have h := I2.out.keep hlt2 (keeps_pos (by rw [show kp + 1 + (p2 + 1) - 1 = kp + 1 + p2 by omega, C.out.1, C.out.2]; exact huv))
              rw [C.out.1] at h; exact h), by omega⟩
         · have hend : kp + 1 + k2 = d.size := by omega
           have hds := I2.out.size
           have b0 : (k0 : Int) < (d.size : Int) := by omega
           have b1 : k0 < d.size := by omega
           have b2 : ¬ (k2 : Int) < ((d.size - (kp + 1) : Nat) : Int) := by omega
           obtain ⟨hcl, hcn⟩ := run_clear_k (P := Tryz.prog) (t := 36) (e := 55) (z := .agg (enc zr).toArray) t36 v55 (fun v hv => H1.out zr v (by simpa [Value.cells] using hv)) (by simp [Value.cells, HK.out]) HR2.out k0 (d.size - k0) (cap - k0) (by omega) (by omega)
           generalize hvs : (Builtin.zeroCells (Value.agg (enc zr).toArray).cells (d.size - k0)).toList = vs at hcl hcn
           go_wp2
           go_ret
           have hI := I2.out
           rw [hend] at hI
           refine ⟨by rw [hI.len]; rfl, ?_⟩
           exact HR2.out.zero vs k0 (by omega) (by rw [hds]; exact hcn) _ hI.len hI.low
      · go_wp2_with fail
        go_quiet_o (fail)
        go_wp2
        go_roundg (d.size - (kp + 1 + 1))
        case measure => omega
        case rel =>
         refine ⟨kp + 1 + 1, by omega, by omega, Nat.le_refl _, by go_num, (show Aside _ from HR.out.drewN _), (show Aside _ from fun j hj => ?_)⟩
         by_cases e : j = kp + 1
         · subst e
           exact keeps_pos (by rw [Nat.add_sub_cancel, B.out.1, B.out.2]; exact hdup)
         · exact A.out j (by omega)
    · have : kk = d.size := by omega
      subst this
      go_wp2
      go_ret
      obtain ⟨e1, e2⟩ := HS.out _ HR.out A.out
      exact ⟨by rw [e1]; rfl, e2⟩
end Go.Mach
namespace Go.Mach
open Go Go.RowKit Go.Proofs Go.Lib
def cmpF (l : List Fc) : List Fc := compactUpTo l.toArray l.toArray.size
theorem get_toArray (l : List Fc) {i : Nat} (h : i < l.length) : l.toArray[i]! = l[i] := by
 rw [getElem!_pos l.toArray i (by simpa using h)]; simp
theorem cmp_mem {d : Array Fc} : ∀ (m : Nat), m ≤ d.size → ∀ x, x ∈ compactUpTo d m ↔ ∃ j, j < m ∧ d[j]! = x
 | 0, _, x => by simp [compactUpTo]
 | m + 1, hm, x => by
   rw [compactUpTo_succ, List.mem_append, cmp_mem m (by omega) x]
   constructor
   · rintro (⟨j, h1, h2⟩ | h)
     · exact ⟨j, by omega, h2⟩
     · split at h
       · rw [List.mem_singleton] at h; exact ⟨m, by omega, h.symm⟩
       · cases h
   · rintro ⟨j, h1, h2⟩
     by_cases e : j = m
     · subst e
       by_cases hk : keeps d j = true
       · right; rw [if_pos hk, List.mem_singleton]; exact h2.symm
       · left
         have h3 : ¬ (j = 0 ∨ d[j]! ≠ d[j - 1]!) := fun q => hk (decide_eq_true q)
         have h4 : j ≠ 0 := fun q => h3 (.inl q)
         have h5 : d[j]! = d[j - 1]! := Classical.byContradiction fun q => h3 (.inr q)
         exact ⟨j - 1, by omega, by rw [← h5]; exact h2⟩
     · exact .inl ⟨j, by omega, h2⟩
theorem cmp_up {d : Array Fc} (hs : ∀ i j, i < j → j < d.size → ¬ ltF d[j]! d[i]!) : ∀ (m : Nat), m ≤ d.size → Up (compactUpTo d m)
 | 0, _ => by simp [compactUpTo, Up]
 | m + 1, hm => by
   rw [compactUpTo_succ]
   unfold Up
   rw [List.pairwise_append]
   refine ⟨cmp_up hs m (by omega), ?_, fun x hx y hy => ?_⟩
   · split <;> simp
   · split at hy
     · rename_i hk
       rw [List.mem_singleton] at hy; subst hy
       obtain ⟨j, h1, rfl⟩ := (cmp_mem m (by omega) x).1 hx
       have h2 : m = 0 ∨ d[m]! ≠ d[m - 1]! := of_decide_eq_true hk
       have h3 : d[m]! ≠ d[m - 1]! := h2.resolve_left (by omega)
       have h4 : ltF d[m - 1]! d[m]! := Classical.byContradiction fun q => h3 (ltF_total (hs (m - 1) m (by omega) (by omega)) q)
       by_cases e : j = m - 1
       · subst e; exact h4
       · have h5 := hs j (m - 1) (by omega) (by omega)
         by_cases h6 : ltF d[j]! d[m - 1]!
         · exact ltF_trans h6 h4
         · rw [ltF_total h6 h5]; exact h4
     · cases hy
theorem srt_sorted (l : List Fc) : (srtF l).Pairwise fun x y => ¬ ltF y x := by
 unfold srtF
 refine (List.pairwise_mergeSort (le := fun x y => !(ltOf ordF) y x) ?_ ?_ l).imp ?_
 · intro a b c h1 h2
   have q1 : ¬ ltF b a := fun q => by have := decide_eq_true ((ordF_lt b a).2 q); simp [ltOf, this] at h1
   have q2 : ¬ ltF c b := fun q => by have := decide_eq_true ((ordF_lt c b).2 q); simp [ltOf, this] at h2
   have q3 : ¬ ltF c a := fun q => by
    by_cases e : ltF a b
    · exact q2 (ltF_trans q e)
    · have := ltF_total e q1; subst this; exact q2 q
   have : decide (ordF c a < 0) = false := decide_eq_false fun q => q3 ((ordF_lt c a).1 q)
   simp [ltOf, this]
 · intro a b
   by_cases e : ltF a b
   · have : decide (ordF b a < 0) = false := decide_eq_false fun q => ltF_irrefl a (ltF_trans e ((ordF_lt b a).1 q))
     simp only [ltOf, this]; simp
   · have : decide (ordF a b < 0) = false := decide_eq_false fun q => e ((ordF_lt a b).1 q)
     simp only [ltOf, this]; simp
 · intro a b h q
   have := decide_eq_true ((ordF_lt b a).2 q)
   simp only [ltOf, this] at h
   cases h
theorem srt_mem (l : List Fc) (x : Fc) : x ∈ srtF l ↔ x ∈ l := by unfold srtF; exact List.mem_mergeSort
theorem cmpF_up (l : List Fc) : Up (cmpF (srtF l)) := by
 refine cmp_up (fun i j hij hj => ?_) _ (Nat.le_refl _)
 have hj' : j < (srtF l).length := by simpa using hj
 rw [get_toArray _ hj', get_toArray _ (by omega)]
 exact List.pairwise_iff_getElem.1 (srt_sorted l) i j (by omega) hj' hij
theorem cmpF_mem (l : List Fc) (x : Fc) : x ∈ cmpF (srtF l) ↔ x ∈ l := by
 unfold cmpF
 rw [cmp_mem _ (Nat.le_refl _), ← srt_mem l x, List.mem_iff_getElem]
 constructor
 · rintro ⟨j, h1, h2⟩
   have h1' : j < (srtF l).length := by simpa using h1
   exact ⟨j, h1', by rw [← h2, get_toArray _ h1']⟩
 · rintro ⟨j, h1, h2⟩
   exact ⟨j, by simpa using h1, by rw [get_toArray _ h1]; exact h2⟩
theorem cmpF_pass {l : List Nd} (hC : Clo l) {fs : List Fc} (h : Fit l fs) (dp : Int) : cmpF (srtF (moreI l (bindsM l) dp fs ++ fs)) = passM l dp fs :=
 pass_same hC h dp (cmpF_up _) fun x => by rw [cmpF_mem, List.mem_append]
end Go.Mach
namespace Go.Mach
open Go Go.RowKit Go.Proofs
theorem impl_factAt.ans {xa xb : Option (List D → Option D)} (o : Std) (ho : o = std) (l : List Fc) (f_k : Int) (f_n : Int) (f_c : Int) (f_v_k : Int) (f_v_n : Int) (f_v_c : Int) (h0 : Up l) (h1 : l.length ≤ 2900000000000) : Ans (env xa xb) 83 [rFc o l, .agg [iX f_k, iX f_n, iX f_c, iX f_v_k, iX f_v_n, iX f_v_c]] (iX (((posF l (⟨f_k, f_n, f_c, ⟨f_v_k, f_v_n, f_v_c⟩⟩ : Fc) : Nat) : Int))) := by
 refine Ans.mkA ho _ rfl rfl ?_
 repeat' (first
  | (refine .id ?_
     (try (conv => arg 2; cbv))
     first
      | (refine .indF (fun m_ s_ => ∃ (a5 : Int) (a6 : Int) (tk : List Nat), s_ = ⟨[rFc o l, Jk, Jk, .pbx (.loc 0) 0, Jk, iX a5, iX a6] ++ List.replicate 20 Jk, [[[iX f_k, iX f_n, iX f_c, iX f_v_k, iX f_v_n, iX f_v_c]]], [], tk⟩ ∧ (0 ≤ a5 ∧ a5 ≤ a6 ∧ a6 ≤ l.length ∧ (∀ j : Nat, (j : Int) < a5 → ltF (l.getD j zF) (⟨f_k, f_n, f_c, ⟨f_v_k, f_v_n, f_v_c⟩⟩ : Fc)) ∧ (∀ j : Nat, a6 ≤ j → j < l.length → ¬ ltF (l.getD j zF) (⟨f_k, f_n, f_c, ⟨f_v_k, f_v_n, f_v_c⟩⟩ : Fc))) ∧ (a6 - a5).toNat ≤ m_) _ _ ⟨_, _, _, by subst ho; rfl, ?_, Nat.le_refl _⟩ ?_
         rotate_right
         rintro m_ _ ⟨a5, a6, tk, rfl, hIa, hka⟩ iha
         obtain ⟨i1, i2, i3, i4, i5⟩ := hIa; refine .unloopA ho ?_
         repeat' (first
          | (refine .id ?_
             (try (conv => arg 2; cbv))
             first
              | refine .testT ?_
              | refine .testF ?_
              | (refine .test (fun hr => ?_) (fun hr => ?_) <;> (have hb := hr) <;> (try simp (disch := omega) only [ho, std, wI, lenE, nrm] at hb) <;> (try (exfalso; first | contradiction | omega | exact hb rfl)))
              | (refine .pE (β := Bool) .bool (as' := [.agg [iX _, iX _, iX _, iX _, iX _, iX _], .agg [iX _, iX _, iX _, iX _, iX _, iX _]]) (impl_FactLess.ans o ho _ _ _ _ _ _ _ _ _ _ _ _) ?_; rintro (_ | _) hv <;> (try simp only [dE] at hv) <;> (try first | contradiction | exact bX hv))
              | (refine .fetchXFc ho ?_ ?_ (fun y hy => ?_); rotate_left 2; rcases y with ⟨yk, yn, yc, yvk, yvn, yvc⟩)
              | (refine .needD ho (by kernel_rfl) ?_)
              | (refine .need ?_ ?_)
              | (refine iha _ _ ?_ ⟨_, _, _, by subst ho; rfl, ?_, Nat.le_refl _⟩)
              | (refine .fin ?_; (conv => lhs; cbv); refine congrArg some ?_))
          | ((fail_if_success (refine .id ?_))
             first
              | (refine dI (bs_end (by assumption) (by assumption) (by assumption) (by assumption) (by assumption) (by assumption)))
              | (refine ⟨Int.le_refl 0, ?_, ?_, fun j hj => absurd hj (by omega), fun j hj hl => absurd hj ?_⟩ <;> subst ho <;> simp only [std, len_eFc] <;> omega)
              | (clear iha; subst ho; simp (disch := omega) only [std, wI, tdiv2] at *; refine ⟨by omega, by omega, by omega, ?_, by assumption⟩; exact bs_lo h0 (by omega) (by omega) (by rw [hy]; exact ltB_iff.1 hv))
              | (clear iha; subst ho; simp (disch := omega) only [std, wI, tdiv2] at *; refine ⟨by omega, by omega, by omega, by assumption, ?_⟩; exact bs_hi h0 (by omega) (by omega) (fun h => by rw [hy] at h; rw [ltB_iff.2 h] at hv; cases hv))
              | (subst ho; rfl)
              | (subst ho; simp (disch := omega) only [std, wI, tdiv2, tdivN, lenE] <;> first | done | rfl | omega)))))
  | ((fail_if_success (refine .id ?_))
     first
      | fail))
theorem impl_has.ans {xa xb : Option (List D → Option D)} (o : Std) (ho : o = std) (l : List Fc) (f_k : Int) (f_n : Int) (f_c : Int) (f_v_k : Int) (f_v_n : Int) (f_v_c : Int) (h0 : Up l) (h1 : l.length ≤ 2900000000000) : Ans (env xa xb) 56 [rFc o l, .agg [iX f_k, iX f_n, iX f_c, iX f_v_k, iX f_v_n, iX f_v_c]] (.bool (decide ((⟨f_k, f_n, f_c, ⟨f_v_k, f_v_n, f_v_c⟩⟩ : Fc) ∈ l))) := by
 refine Ans.mkA ho _ rfl rfl ?_
 repeat' (first
  | (refine .id ?_
     (try (conv => arg 2; cbv))
     first
      | refine .t1 ?_
      | refine .t0 ?_
      | (refine .test (fun hr => ?_) (fun hr => ?_) <;> (have hb := hr) <;> (try simp (disch := omega) only [ho, std, wI, lenE, nrm] at hb) <;> (try (exfalso; first | contradiction | omega | exact hb rfl)))
      | (refine .pE (β := Int) (fun v => iX v) (as' := [rFc o _, .agg [iX _, iX _, iX _, iX _, iX _, iX _]]) (impl_factAt.ans o ho _ _ _ _ _ _ _ ?_ ?_) ?_; rotate_left 2; rintro v hv)
      | (refine .fetchXFc ho ?_ ?_ (fun y hy => ?_); rotate_left 2; rcases y with ⟨yk, yn, yc, yvk, yvn, yvc⟩)
      | (refine .needD ho (by kernel_rfl) ?_)
      | (refine .fin ?_; (conv => lhs; cbv); refine congrArg some ?_))
  | ((fail_if_success (refine .id ?_))
     first
      | (subst ho; refine dBt ?_; simp only [std, Bool.and_eq_true, beq_iff_eq, and_true]; rw [has_iff h0 hv (by assumption) hy]; simp only [Fc.mk.injEq, Ab.mk.injEq]; done)
      | (refine dB (decide_eq_false ?_).symm; rw [mem_posF h0]; omega)
      | assumption
      | omega))
theorem impl_absAt.ans {xa xb : Option (List D → Option D)} (o : Std) (ho : o = std) (l : List Fc) (k : Int) (n : Int) (c : Int) (h0 : Up l) (h1 : ∀ f ∈ l, 0 ≤ f.v.k ∧ 0 ≤ f.v.n) (h2 : l.length ≤ 2900000000000) : Ans (env xa xb) 76 [rFc o l, iX k, iX n, iX c] (rAb o (vals l k n c)) := by
 refine Ans.mkA ho _ rfl rfl ?_
 repeat' (first
  | (refine .id ?_
     (try (conv => arg 2; cbv))
     first
      | (refine .pE (β := Int) (fun v => iX v) (as' := [rFc o _, .agg [iX _, iX _, iX _, iX _, iX _, iX _]]) (impl_factAt.ans o ho _ _ _ _ _ _ _ ?_ ?_) ?_; rotate_left 2; rintro v hv)
      | (refine .indF (fun m_ s_ => ∃ (ea9 : Box) (a10 : Int) (ta9 : Tok) (tk : List Nat), s_ = ⟨[rFc o l, iX k, iX n, iX c, Jk, Jk, Jk, Jk, Jk, .sl ta9 3 ea9, iX a10] ++ List.replicate 40 Jk, [], [], tk⟩ ∧ Lv tk ta9 ea9.length ∧ ea9 = (o.bx fun _ => eAb (vals (l.take a10.toNat) k n c)) ∧ (0 ≤ a10 ∧ a10 ≤ l.length ∧ (∀ j : Nat, j < l.length → a10 ≤ j → ltF ⟨k, n, c, ⟨0, -22951, 0⟩⟩ (l.getD j zF))) ∧ (l.length - a10).toNat ≤ m_) _ _ ⟨_, _, _, _, by subst ho; rfl, ?_, ?_, ?_, Nat.le_refl _⟩ ?_
         rotate_right
         rintro m_ _ ⟨ea9, a10, ta9, tk, rfl, hla0, rfl, hIa, hka⟩ iha
         obtain ⟨i1, i2, i3⟩ := hIa; refine .unloopA ho ?_
         repeat' (first
          | (refine .id ?_
             (try (conv => arg 2; cbv))
             first
              | refine .testT ?_
              | refine .t1 ?_
              | refine .t0 ?_
              | (refine .test (fun hr => ?_) (fun hr => ?_) <;> (have hb := hr) <;> (try simp (disch := omega) only [ho, std, wI, lenE, nrm] at hb) <;> (try (exfalso; first | contradiction | omega | exact hb rfl)))
              | (refine .fetchXFc ho ?_ ?_ (fun y hy => ?_); rotate_left 2; rcases y with ⟨yk, yn, yc, yvk, yvn, yvc⟩)
              | (refine .need ?_ ?_)
              | (refine .app1 ?_ (fun t' tk' hl' => ?_))
              | (refine iha _ _ ?_ ⟨_, _, _, _, by subst ho; rfl, ?_, ?_, ?_, Nat.le_refl _⟩)
              | (refine .fin ?_; (conv => lhs; cbv); refine congrArg some ?_))
          | ((fail_if_success (refine .id ?_))
             first
              | (exact Lv.nil)
              | (subst ho; exact hla0)
              | (subst ho; refine congrArg (D.sl Tok.ro 3) (congrArg eAb ?_); first | exact vals_endG i1 i2 h0 i3 (.inl (by omega)) | exact vals_endG i1 i2 h0 i3 (.inr ⟨by omega, fun hh => by rw [hy] at hh; obtain ⟨q1, q2, q3⟩ := hh; dsimp only at q1 q2 q3; omega⟩))
              | (subst hv; subst ho; exact ⟨(vals_startG h0 (lowI h1)).1, (vals_startG h0 (lowI h1)).2.1, (vals_startG h0 (lowI h1)).2.2.2⟩)
              | (subst hv; subst ho; exact congrArg eAb (vals_startG h0 (lowI h1)).2.2.1)
              | (subst ho; have hl := len_vals (l.take a10.toNat) k n c; simp [std, len_eAb]; simp at hl; omega)
              | (subst ho; refine push_eAb (x := ⟨yvk, yvn, yvc⟩) ?_; simp (disch := omega) only [std, wI]; rw [vals_take_succ i1 (by omega), hy, if_pos (by simp_all [hasKey])])
              | (subst ho; simp (disch := omega) only [std, wI]; refine ⟨by omega, by omega, fun j hj hk => i3 j hj (by omega)⟩)
              | (subst ho; simpa [std, lenE] using hl')
              | (subst ho; simp (disch := omega) only [std, wI, tdiv2, tdivN, lenE] <;> first | done | rfl | omega)))))
  | ((fail_if_success (refine .id ?_))
     first
      | assumption))
theorem impl_startOf.ans {xa xb : Option (List D → Option D)} (o : Std) (ho : o = std) (l : List Nd) (i : Int) (h0 : Downs l) (h1 : 0 ≤ i ∧ i < l.length) : Ans (env xa xb) 248 [rNd o l, iX i] (iX (startM l i)) := by
 refine Ans.mkA ho _ rfl rfl ?_
 repeat' (first
  | (refine .id ?_
     (try (conv => arg 2; cbv))
     first
      | (refine .indF (fun m_ s_ => ∃ (a1 : Int) (tk : List Nat), s_ = ⟨[rNd o l, iX a1] ++ List.replicate 16 Jk, [], [], tk⟩ ∧ (0 ≤ a1 ∧ a1 < l.length ∧ startM l a1 = startM l i) ∧ a1.toNat ≤ m_) _ _ ⟨_, _, by subst ho; rfl, ?_, Nat.le_refl _⟩ ?_
         rotate_right
         rintro m_ _ ⟨a1, tk, rfl, hIa, hka⟩ iha
         obtain ⟨i1, i2, i3⟩ := hIa; refine .unloopA ho ?_
         repeat' (first
          | (refine .id ?_
             (try (conv => arg 2; cbv))
             first
              | (refine .test (fun hr => ?_) (fun hr => ?_) <;> (have hb := hr) <;> (try simp (disch := omega) only [ho, std, wI, lenE, nrm] at hb) <;> (try (exfalso; first | contradiction | omega | exact hb rfl)))
              | (refine .pE (β := Int) (fun v => iX v) (as' := [iX _]) (impl_Arity.ans o ho _) ?_; rintro v hv)
              | (refine .fetchYNd ho ?_ ?_ (by with_reducible assumption) ?_)
              | (refine .fetchXNd ho ?_ ?_ (fun y hy => ?_); rotate_left 2; rcases y with ⟨y0, y1, y2, y3, y4, y5, y6⟩; (have hd := h0 _ i1 i2); rw [hy] at hd; dsimp only at hd)
              | (refine iha _ _ ?_ ⟨_, _, by subst ho; rfl, ?_, Nat.le_refl _⟩)
              | (refine .fin ?_; (conv => lhs; cbv); refine congrArg some ?_))
          | ((fail_if_success (refine .id ?_))
             first
              | (refine dI ?_; rw [← i3, startM_base (by rw [hy]; dsimp only; omega)])
              | (have hd2 := hd (by omega); refine ⟨by omega, by omega, ?_⟩; rw [← i3]; exact (startM_step h0 i1 i2 hy (by dsimp only; omega)).symm)
              | assumption
              | omega))))
  | ((fail_if_success (refine .id ?_))
     first
      | fail))
theorem impl_bodyOf.ans {xa xb : Option (List D → Option D)} (o : Std) (ho : o = std) (l : List Nd) (f : Int) (h0 : Downs l) (h1 : 0 ≤ f ∧ f < l.length) (h2 : 0 < arityM (rN l f).f0) : Ans (env xa xb) 235 [rNd o l, iX f] (.tup [iX ((startM l (rN l f).f1, (rN l f).f1)).1, iX ((startM l (rN l f).f1, (rN l f).f1)).2]) := by
 refine Ans.mkA ho _ rfl rfl ?_
 repeat' (first
  | (refine .id ?_
     (try (conv => arg 2; cbv))
     first
      | (refine .pE (β := Int) (fun v => iX v) (as' := [rNd o _, iX _]) (impl_startOf.ans o ho _ _ ?_ ?_) ?_; rotate_left 2; rintro v hv)
      | (refine .fetchYNd ho ?_ ?_ (by with_reducible assumption) ?_)
      | (refine .fetchXNd ho ?_ ?_ (fun y hy => ?_); rotate_left 2; rcases y with ⟨y0, y1, y2, y3, y4, y5, y6⟩)
      | (refine .needD ho (by kernel_rfl) ?_)
      | (refine .fin ?_; (conv => lhs; cbv); refine congrArg some ?_))
  | ((fail_if_success (refine .id ?_))
     first
      | (have hd := h0 _ h1.1 h1.2 h2; rw [hy] at hd; dsimp only at hd; omega)
      | (subst hv; rw [hy])
      | omega))
theorem impl_flower_values.gns {xa xb : Option (List D → Option D)} (o : Std) (ho : o = std) (l : List Nd) (us : List Bd) (dp : Int) (fs m : List Fc) (t : Tok) (tk : List Nat) (hl : Lw tk t (o.bx fun _ => eFc m).length) (a_k : Int) (a_n : Int) (a_c : Int) (h0 : Fok l fs) : Gns (env xa xb) 201 [.pbx (.out 0) 0, .agg [iX a_k, iX a_n, iX a_c]] [[cells5 (o.bx fun _ => eNd l) (o.bx fun _ => eBd us) dp (o.bx fun _ => eFc fs) t (o.bx fun _ => eFc m)]] tk (FR o l us dp fs (m) (rAb o (vals fs a_k a_n a_c))) := by
 refine Gns.mkA (E := env xa xb) (f := 201) ho _ (by rfl) (by rfl) ?_
 have hF := h0; have hu := h0.up; have hL := h0.len; have hp := h0.pos; have hL2 : fs.length ≤ 2900000000000 := (by omega)
 repeat' (first
  | (refine .id ?_
     (try (conv => arg 2; cbv))
     first
      | (refine .pE (β := List Ab) (rAb o) (as' := [rFc o _, iX _, iX _, iX _]) (impl_absAt.ans o ho _ _ _ _ ?_ ?_ ?_) ?_; rotate_left 3; rintro v hv)
      | (refine .needD ho (by kernel_rfl) ?_)
      | (refine .fin ?_; refine ⟨_, by (conv => lhs; cbv) <;> rfl, ?_, _, _, by rfl, ?_, ?_⟩; first | (focus ((conv => lhs; cbv); done)) | ((conv => lhs; cbv); refine congrArg some ?_)))
  | ((fail_if_success (refine .id ?_))
     first
      | (subst ho; exact hl)
      | (subst hv; rfl)
      | assumption))
theorem impl_flower_see.gns {xa xb : Option (List D → Option D)} (o : Std) (ho : o = std) (l : List Nd) (us : List Bd) (dp : Int) (fs m : List Fc) (t : Tok) (tk : List Nat) (hl : Lw tk t (o.bx fun _ => eFc m).length) (i : Int) (c : Int) (h0 : m.length + 1 ≤ 2900000000000) : Gns (env xa xb) 186 [.pbx (.out 0) 0, iX i, iX c] [[cells5 (o.bx fun _ => eNd l) (o.bx fun _ => eBd us) dp (o.bx fun _ => eFc fs) t (o.bx fun _ => eFc m)]] tk (FR o l us dp fs (m ++ (seeL i c)) (.tup [])) := by
 refine Gns.mkA (E := env xa xb) (f := 186) ho _ (by rfl) (by rfl) ?_
 repeat' (first
  | (refine .id ?_
     (try (conv => arg 2; cbv))
     first
      | (refine .gcF ho (β := Unit) (r := ()) (fun v => .tup []) (.out 0) (xs := [.pbx (.out 0) 0, .agg [iX _, iX _, iX _], .agg [iX _, iX _, iX _]]) (by rfl) (by rfl) (by rfl) (fun t0 tk0 hl0 => impl_flower_add.gns o ho _ _ _ _ _ t0 tk0 hl0 _ _ _ _ _ _ ?_) ?_ ?_; rotate_left 2; rintro _ t' tk' _ hl')
      | (refine .fin ?_; refine ⟨_, by (conv => lhs; cbv) <;> rfl, ?_, _, _, by rfl, ?_, ?_⟩; first | (focus ((conv => lhs; cbv); done)) | ((conv => lhs; cbv); refine congrArg some ?_)))
  | ((fail_if_success (refine .id ?_))
     first
      | (subst ho; exact hl)
      | (subst ho; exact hl')
      | rfl
      | assumption))
theorem impl_flower_flow.gns {xa xb : Option (List D → Option D)} (o : Std) (ho : o = std) (l : List Nd) (us : List Bd) (dp : Int) (fs m : List Fc) (t : Tok) (tk : List Nat) (hl : Lw tk t (o.bx fun _ => eFc m).length) (a_k : Int) (a_n : Int) (a_c : Int) (b_k : Int) (b_n : Int) (b_c : Int) (h0 : Fok l fs) (h1 : m.length + 2500 ≤ 2900000000000) : Gns (env xa xb) 183 [.pbx (.out 0) 0, .agg [iX a_k, iX a_n, iX a_c], .agg [iX b_k, iX b_n, iX b_c]] [[cells5 (o.bx fun _ => eNd l) (o.bx fun _ => eBd us) dp (o.bx fun _ => eFc fs) t (o.bx fun _ => eFc m)]] tk (FR o l us dp fs (m ++ (flowL fs a_k a_n a_c b_k b_n b_c)) (.tup [])) := by
 refine Gns.mkA (E := env xa xb) (f := 183) ho _ (by rfl) (by rfl) ?_
 have hF := h0; have hu := h0.up; have hL := h0.len; have hp := h0.pos; have hL2 : fs.length ≤ 2900000000000 := (by omega)
 repeat' (first
  | (refine .id ?_
     (try (conv => arg 2; cbv))
     first
      | (refine .gcF ho (β := List Ab) (rAb o) (.out 0) (xs := [.pbx (.out 0) 0, .agg [iX _, iX _, iX _]]) (by rfl) (by rfl) (by rfl) (fun t0 tk0 hl0 => impl_flower_values.gns o ho _ _ _ _ _ t0 tk0 hl0 _ _ _ ?_) ?_ ?_; rotate_left 2; rintro v t' tk' hv hl')
      | (refine .indF (fun m_ s_ => ∃ (a10 : List Ab) (a11 : Int) (a12 : Int) (ema : Box) (ta10 ua : Tok) (tk : List Nat), s_ = ⟨[.pbx (.out 0) 0, Jk, Jk, Jk, Jk, .pbx (.loc 1) 0, Jk, Jk, Jk, Jk, .sl ta10 3 (o.bx fun _ => eAb a10), iX a11, iX a12] ++ List.replicate 8 Jk, [[[iX a_k, iX a_n, iX a_c]], [[iX b_k, iX b_n, iX b_c]]], [[cells5 (o.bx fun _ => eNd l) (o.bx fun _ => eBd us) dp (o.bx fun _ => eFc fs) ua ema]], tk⟩ ∧ Lw tk ua ema.length ∧ ema = (o.bx fun _ => eFc (m ++ (mapF (a10.take a12.toNat) b_k b_n b_c))) ∧ (a10 = vals fs a_k a_n a_c ∧ a11 = a10.length ∧ 0 ≤ a12 ∧ a12 ≤ a10.length) ∧ (a10.length - a12).toNat ≤ m_) _ _ ⟨_, _, _, _, _, _, _, by subst ho; rfl, ?_, ?_, ?_, Nat.le_refl _⟩ ?_
         rotate_right
         rintro m_ _ ⟨a10, a11, a12, ema, ta10, ua, tk, rfl, hla0, rfl, hIa, hka⟩ iha
         obtain ⟨i1, i2, i3, i4⟩ := hIa; have hz := len_vals fs a_k a_n a_c; rw [← i1] at hz; have hw := List.length_take_le a12.toNat a10; have hx := len_mapF (a10.take a12.toNat) b_k b_n b_c; refine .unloopA ho ?_
         repeat' (first
          | (refine .id ?_
             (try (conv => arg 2; cbv))
             first
              | (refine .test (fun hr => ?_) (fun hr => ?_) <;> (have hb := hr) <;> (try simp (disch := omega) only [ho, std, wI, lenE, nrm] at hb) <;> (try (exfalso; first | contradiction | omega | exact hb rfl)))
              | (refine .gcF ho (β := Unit) (r := ()) (fun v => .tup []) (.out 0) (xs := [.pbx (.out 0) 0, .agg [iX _, iX _, iX _], .agg [iX _, iX _, iX _]]) (by rfl) (by rfl) (by rfl) (fun t0 tk0 hl0 => impl_flower_add.gns o ho _ _ _ _ _ t0 tk0 hl0 _ _ _ _ _ _ ?_) ?_ ?_; rotate_left 2; rintro _ t' tk' _ hl')
              | (refine .fetchXAb ho ?_ ?_ (fun y hy => ?_); rotate_left 2; rcases y with ⟨yk, yn, yc⟩)
              | (refine iha _ _ ?_ ⟨_, _, _, _, _, _, _, by subst ho; rfl, ?_, ?_, ?_, Nat.le_refl _⟩)
              | (refine .fin ?_; refine ⟨_, by (conv => lhs; cbv) <;> rfl, ?_, _, _, by rfl, ?_, ?_⟩; first | (focus ((conv => lhs; cbv); done)) | ((conv => lhs; cbv); refine congrArg some ?_)))
          | ((fail_if_success (refine .id ?_))
             first
              | (subst ho; exact hl')
              | (subst ho; exact hla0)
              | (subst ho; refine congrArg eFc ?_; rw [take_allG (by omega), i1]; rfl)
              | (subst ho; refine congrArg eFc ?_; simp [mapF]; done)
              | (subst hv; subst ho; exact ⟨rfl, by simp [std, len_eAb], Int.le_refl _, by omega⟩)
              | (rw [List.length_append]; omega)
              | (subst ho; simp (disch := omega) only [std, wI]; exact ⟨i1, i2, by omega, by omega⟩)
              | (subst ho; refine congrArg eFc ?_; simp (disch := omega) only [std, wI]; rw [mapF_succ i3 (by omega), hy, List.append_assoc])
              | assumption
              | omega
              | (subst ho; simp (disch := omega) only [std, wI, tdiv2, tdivN, lenE] <;> first | done | rfl | omega)))))
  | ((fail_if_success (refine .id ?_))
     first
      | (subst ho; exact hl)
      | assumption))
theorem impl_flower_raise.gns {xa xb : Option (List D → Option D)} (o : Std) (ho : o = std) (l : List Nd) (us : List Bd) (dp : Int) (fs m : List Fc) (t : Tok) (tk : List Nat) (hl : Lw tk t (o.bx fun _ => eFc m).length) (by1 : Int) (by2 : Int) (i : Int) (c : Int) (h0 : Fok l fs) (h1 : m.length + 1 ≤ 2900000000000) : Gns (env xa xb) 187 [.pbx (.out 0) 0, iX by1, iX by2, iX i, iX c] [[cells5 (o.bx fun _ => eNd l) (o.bx fun _ => eBd us) dp (o.bx fun _ => eFc fs) t (o.bx fun _ => eFc m)]] tk (FR o l us dp fs (m ++ (riseL (hasR fs by1 by2) i c)) (.tup [])) := by
 refine Gns.mkA (E := env xa xb) (f := 187) ho _ (by rfl) (by rfl) ?_
 have hF := h0; have hu := h0.up; have hL := h0.len; have hp := h0.pos; have hL2 : fs.length ≤ 2900000000000 := (by omega)
 repeat' (first
  | (refine .id ?_
     (try (conv => arg 2; cbv))
     first
      | refine .testT ?_
      | refine .testF ?_
      | (refine .pE (β := Bool) .bool (as' := [rFc o _, .agg [iX _, iX _, iX _, iX _, iX _, iX _]]) (impl_has.ans o ho _ _ _ _ _ _ _ ?_ ?_) ?_; rotate_left 2; rintro (_ | _) hv <;> (try simp only [dE] at hv) <;> (try first | contradiction | exact bX hv))
      | (refine .gcF ho (β := Unit) (r := ()) (fun v => .tup []) (.out 0) (xs := [.pbx (.out 0) 0, .agg [iX _, iX _, iX _], .agg [iX _, iX _, iX _]]) (by rfl) (by rfl) (by rfl) (fun t0 tk0 hl0 => impl_flower_add.gns o ho _ _ _ _ _ t0 tk0 hl0 _ _ _ _ _ _ ?_) ?_ ?_; rotate_left 2; rintro _ t' tk' _ hl')
      | (refine .fin ?_; refine ⟨_, by (conv => lhs; cbv) <;> rfl, ?_, _, _, by rfl, ?_, ?_⟩; first | (focus ((conv => lhs; cbv); done)) | ((conv => lhs; cbv); refine congrArg some ?_)))
  | ((fail_if_success (refine .id ?_))
     first
      | (subst ho; exact hl)
      | (subst ho; exact hl')
      | (subst ho; refine congrArg eFc ?_; unfold hasR; simp [riseL, hv]; done)
      | assumption))
theorem impl_flower_those.gns {xa xb : Option (List D → Option D)} (o : Std) (ho : o = std) (l : List Nd) (us : List Bd) (dp : Int) (fs m : List Fc) (t : Tok) (tk : List Nat) (hl : Lw tk t (o.bx fun _ => eFc m).length) (a_k : Int) (a_n : Int) (a_c : Int) (kd : Int) (h0 : Fok l fs) : Gns (env xa xb) 203 [.pbx (.out 0) 0, .agg [iX a_k, iX a_n, iX a_c], iX kd] [[cells5 (o.bx fun _ => eNd l) (o.bx fun _ => eBd us) dp (o.bx fun _ => eFc fs) t (o.bx fun _ => eFc m)]] tk (FR o l us dp fs (m) (rAb o (thoseL fs a_k a_n a_c kd))) := by
 refine Gns.mkA (E := env xa xb) (f := 203) ho _ (by rfl) (by rfl) ?_
 have hF := h0; have hu := h0.up; have hL := h0.len; have hp := h0.pos; have hL2 : fs.length ≤ 2900000000000 := (by omega)
 repeat' (first
  | (refine .id ?_
     (try (conv => arg 2; cbv))
     first
      | (refine .gcF ho (β := List Ab) (rAb o) (.out 0) (xs := [.pbx (.out 0) 0, .agg [iX _, iX _, iX _]]) (by rfl) (by rfl) (by rfl) (fun t0 tk0 hl0 => impl_flower_values.gns o ho _ _ _ _ _ t0 tk0 hl0 _ _ _ ?_) ?_ ?_; rotate_left 2; rintro v t' tk' hv hl')
      | (refine .indF (fun m_ s_ => ∃ (ea7 : Box) (a12 : List Ab) (a13 : Int) (a14 : Int) (ema : Box) (ta7 ta12 ua : Tok) (tk : List Nat), s_ = ⟨[Jk, Jk, iX kd, Jk, Jk, Jk, Jk, .sl ta7 3 ea7, Jk, Jk, Jk, Jk, .sl ta12 3 (o.bx fun _ => eAb a12), iX a13, iX a14] ++ List.replicate 13 Jk, [[[iX a_k, iX a_n, iX a_c]]], [[cells5 (o.bx fun _ => eNd l) (o.bx fun _ => eBd us) dp (o.bx fun _ => eFc fs) ua ema]], tk⟩ ∧ Lv tk ta7 ea7.length ∧ ea7 = (o.bx fun _ => eAb ((a12.take a14.toNat).filter fun v => v.k == kd)) ∧ Lw tk ua ema.length ∧ ema = (o.bx fun _ => eFc m) ∧ (Apart ta7 ua ∧ a12 = vals fs a_k a_n a_c ∧ a13 = a12.length ∧ 0 ≤ a14 ∧ a14 ≤ a12.length) ∧ (a12.length - a14).toNat ≤ m_) _ _ ⟨_, _, _, _, _, _, _, _, _, by subst ho; rfl, ?_, ?_, ?_, ?_, ?_, Nat.le_refl _⟩ ?_
         rotate_right
         rintro m_ _ ⟨ea7, a12, a13, a14, ema, ta7, ta12, ua, tk, rfl, hla0, rfl, hla1, rfl, hIa, hka⟩ iha
         obtain ⟨i0, i1, i2, i3, i4⟩ := hIa; have hz := len_vals fs a_k a_n a_c; rw [← i1] at hz; have hw := List.length_take_le a14.toNat a12; have hx := List.length_filter_le (fun v => v.k == kd) (a12.take a14.toNat); refine .unloopA ho ?_
         repeat' (first
          | (refine .id ?_
             (try (conv => arg 2; cbv))
             first
              | (refine .test (fun hr => ?_) (fun hr => ?_) <;> (have hb := hr) <;> (try simp (disch := omega) only [ho, std, wI, lenE, nrm] at hb) <;> (try (exfalso; first | contradiction | omega | exact hb rfl)))
              | (refine .app12 hla1 i0 ?_ (fun t' tk' hl' hlw hap => ?_))
              | (refine .fetchXAb ho ?_ ?_ (fun y hy => ?_); rotate_left 2; rcases y with ⟨yk, yn, yc⟩)
              | (refine .need ?_ ?_)
              | (refine iha _ _ ?_ ⟨_, _, _, _, _, _, _, _, _, by subst ho; rfl, ?_, ?_, ?_, ?_, ?_, Nat.le_refl _⟩)
              | (refine .fin ?_; refine ⟨_, by (conv => lhs; cbv) <;> rfl, ?_, _, _, by rfl, ?_, ?_⟩; first | (focus ((conv => lhs; cbv); done)) | ((conv => lhs; cbv); refine congrArg some ?_)))
          | ((fail_if_success (refine .id ?_))
             first
              | (subst ho; exact hl')
              | (exact Lv.nil)
              | (subst ho; exact hla0)
              | (subst ho; exact hla1)
              | (subst ho; exact hlw)
              | (subst ho; refine congrArg (D.sl Tok.ro 3) (congrArg eAb ?_); rw [take_allG (by omega), i1]; rfl)
              | (subst hv; subst ho; refine ⟨?_, rfl, by simp [std, len_eAb], Int.le_refl _, by omega⟩; intro i h; cases h)
              | (simp (disch := omega) only [ho, std, wI]; exact ⟨by assumption, i1, i2, by omega, by omega⟩)
              | (subst ho; simp [std, len_eAb]; omega)
              | (simp (disch := omega) only [ho, std, wI]; rw [filter_succ i3 (by omega), hy, if_neg (by simpa using hb), List.append_nil])
              | (subst ho; refine push_eAb (x := ⟨yk, yn, yc⟩) ?_; simp (disch := omega) only [std, wI]; rw [filter_succ i3 (by omega), hy, if_pos (by simpa using hb)])
              | assumption
              | omega
              | (subst ho; rfl)
              | (subst ho; simpa [std, lenE] using hl')
              | (subst ho; simp (disch := omega) only [std, wI, tdiv2, tdivN, lenE] <;> first | done | rfl | omega)))))
  | ((fail_if_success (refine .id ?_))
     first
      | (subst ho; exact hl)
      | assumption))
theorem impl_flower_take.gns {xa xb : Option (List D → Option D)} (o : Std) (ho : o = std) (l : List Nd) (us : List Bd) (dp : Int) (fs m : List Fc) (t : Tok) (tk : List Nat) (hl : Lw tk t (o.bx fun _ => eFc m).length) (a_k : Int) (a_n : Int) (a_c : Int) (kd : Int) (part : Int) (h_k : Int) (h_n : Int) (h_c : Int) (h0 : Fok l fs) (h1 : m.length + 6250000 ≤ 2900000000000) : Gns (env xa xb) 221 [.pbx (.out 0) 0, .agg [iX a_k, iX a_n, iX a_c], iX kd, iX part, .agg [iX h_k, iX h_n, iX h_c]] [[cells5 (o.bx fun _ => eNd l) (o.bx fun _ => eBd us) dp (o.bx fun _ => eFc fs) t (o.bx fun _ => eFc m)]] tk (FR o l us dp fs (m ++ (takeL fs kd part h_k h_n h_c (thoseL fs a_k a_n a_c kd))) (.tup [])) := by
 refine Gns.mkA (E := env xa xb) (f := 221) ho _ (by rfl) (by rfl) ?_
 have hF := h0; have hu := h0.up; have hL := h0.len; have hp := h0.pos; have hL2 : fs.length ≤ 2900000000000 := (by omega)
 repeat' (first
  | (refine .id ?_
     (try (conv => arg 2; cbv))
     first
      | (refine .gcF ho (β := List Ab) (rAb o) (.out 0) (xs := [.pbx (.out 0) 0, .agg [iX _, iX _, iX _], iX _]) (by rfl) (by rfl) (by rfl) (fun t0 tk0 hl0 => impl_flower_those.gns o ho _ _ _ _ _ t0 tk0 hl0 _ _ _ _ ?_) ?_ ?_; rotate_left 2; rintro v t' tk' hv hl')
      | (refine .indF (fun m_ s_ => ∃ (a15 : List Ab) (a16 : Int) (a17 : Int) (ema : Box) (ta15 ua : Tok) (tk : List Nat), s_ = ⟨[.pbx (.out 0) 0, Jk, Jk, iX part, Jk, Jk, Jk, Jk, Jk, .pbx (.loc 1) 0, Jk, Jk, Jk, Jk, Jk, .sl ta15 3 (o.bx fun _ => eAb a15), iX a16, iX a17] ++ List.replicate 13 Jk, [[[iX a_k, iX a_n, iX a_c]], [[iX h_k, iX h_n, iX h_c]]], [[cells5 (o.bx fun _ => eNd l) (o.bx fun _ => eBd us) dp (o.bx fun _ => eFc fs) ua ema]], tk⟩ ∧ Lw tk ua ema.length ∧ ema = (o.bx fun _ => eFc (m ++ (takeL fs kd part h_k h_n h_c (a15.take a17.toNat)))) ∧ (a15 = thoseL fs a_k a_n a_c kd ∧ a16 = a15.length ∧ 0 ≤ a17 ∧ a17 ≤ a15.length) ∧ (a15.length - a17).toNat ≤ m_) _ _ ⟨_, _, _, _, _, _, _, by subst ho; rfl, ?_, ?_, ?_, Nat.le_refl _⟩ ?_
         rotate_right
         rintro m_ _ ⟨a15, a16, a17, ema, ta15, ua, tk, rfl, hla0, rfl, hIa, hka⟩ iha
         obtain ⟨i1, i2, i3, i4⟩ := hIa; have hz := len_those fs a_k a_n a_c kd; rw [← i1] at hz; have hw := List.length_take_le a17.toNat a15; have hx := len_flatMap_le (fun v : Ab => flowL fs part v.n v.c h_k h_n h_c) 2500 (fun v => by rw [len_flowL]; exact Nat.le_trans (len_vals _ _ _ _) h0.len) (a15.take a17.toNat); refine .unloopA ho ?_
         repeat' (first
          | (refine .id ?_
             (try (conv => arg 2; cbv))
             first
              | (refine .test (fun hr => ?_) (fun hr => ?_) <;> (have hb := hr) <;> (try simp (disch := omega) only [ho, std, wI, lenE, nrm] at hb) <;> (try (exfalso; first | contradiction | omega | exact hb rfl)))
              | (refine .gcF ho (β := Unit) (r := ()) (fun v => .tup []) (.out 0) (xs := [.pbx (.out 0) 0, .agg [iX _, iX _, iX _], .agg [iX _, iX _, iX _]]) (by rfl) (by rfl) (by rfl) (fun t0 tk0 hl0 => impl_flower_flow.gns o ho _ _ _ _ _ t0 tk0 hl0 _ _ _ _ _ _ ?_ ?_) ?_ ?_; rotate_left 3; rintro _ t' tk' _ hl')
              | (refine .fetchXAb ho ?_ ?_ (fun y hy => ?_); rotate_left 2; rcases y with ⟨yk, yn, yc⟩)
              | (refine iha _ _ ?_ ⟨_, _, _, _, _, _, _, by subst ho; rfl, ?_, ?_, ?_, Nat.le_refl _⟩)
              | (refine .fin ?_; refine ⟨_, by (conv => lhs; cbv) <;> rfl, ?_, _, _, by rfl, ?_, ?_⟩; first | (focus ((conv => lhs; cbv); done)) | ((conv => lhs; cbv); refine congrArg some ?_)))
          | ((fail_if_success (refine .id ?_))
             first
              | (subst ho; exact hl')
              | (subst ho; exact hla0)
              | (subst ho; refine congrArg eFc ?_; rw [take_allG (by omega), i1])
              | (subst ho; refine congrArg eFc ?_; simp [takeL]; done)
              | (subst hv; subst ho; exact ⟨rfl, by simp [std, len_eAb], Int.le_refl _, by omega⟩)
              | (rw [List.length_append]; unfold takeL; omega)
              | (simp (disch := omega) only [ho, std, wI]; exact ⟨i1, i2, by omega, by omega⟩)
              | (subst ho; refine congrArg eFc ?_; simp (disch := omega) only [std, wI]; unfold takeL; rw [flatMap_succ _ zA i3 (by omega), show rdG zA a15 a17 = ⟨yk, yn, yc⟩ from hy, List.append_assoc])
              | assumption
              | omega
              | (subst ho; simp (disch := omega) only [std, wI, tdiv2, tdivN, lenE] <;> first | done | rfl | omega)))))
  | ((fail_if_success (refine .id ?_))
     first
      | (subst ho; exact hl)
      | assumption))
end Go.Mach
