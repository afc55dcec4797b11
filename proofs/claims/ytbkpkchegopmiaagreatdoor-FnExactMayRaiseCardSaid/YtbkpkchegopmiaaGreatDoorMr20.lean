/- FnExactMayRaise: the program's MayRaise answers what the reference's answers, for all arguments (a tied card): part 20 of a proof by an executable machine over the program's code. -/
import Derived.Test.YtbkpkchegopmiaaGreatDoorMr15
import Derived.Test.YtbkpkchegopmiaaGreatDoorMr16
import Derived.Test.YtbkpkchegopmiaaGreatDoorMr18
import Derived.Test.YtbkpkchegopmiaaGreatDoorMr19
import Derived.Lib.SlicesCompact
section
set_option linter.unusedVariables false
set_option linter.unusedSimpArgs false
namespace Go.Mach
open Go Go.RowKit Go.Proofs Go.Lib Go.Shelf
open Go.Sort hiding Below
def Good (enc : Fc → List Value) (k : Nat) (w : World) (b o : Nat) (d : Array Fc) (w' : World) : Prop := WF enc k w w' b o (compactUpTo d d.size).toArray
set_option maxHeartbeats 8000000 in
set_option maxRecDepth 1000000 in
theorem compact_core (enc : Fc → List Value) (k : Nat) (z55 : ∀ w, (Go.sizeOf 55).run Tryz.prog w = .ok k w) (hk : ∀ x, (enc x).length = k) (h1 : ∀ x, ∀ v ∈ enc x, v.oneCell' = true)
    (heq : ∀ (x y : Fc) (w : World), Sem.run Tryz.prog (binOp .eql 55 (.agg (enc x).toArray) (.agg (enc y).toArray)) w = .ok (.bool (decide (x = y))) w)
    (hne : ∀ (x y : Fc) (w : World), Sem.run Tryz.prog (binOp .neq 55 (.agg (enc x).toArray) (.agg (enc y).toArray)) w = .ok (.bool (!decide (x = y))) w)
    (hgd : ∀ (op : BinOp) (a b : Operand) (x y : Fc) (w : World), Sem.run Tryz.prog (eqGuard op 55 a b (.agg (enc x).toArray) (.agg (enc y).toArray)) w = .ok () w)
    (zr : Fc) (v55 : ∀ w, (zeroValue 55).run Tryz.prog w = .ok (.agg (enc zr).toArray) w) (blk off cap : Nat) (d : Array Fc) (w : World) (hH : HoldsK enc k w blk off d) (hsz : d.size ≤ 9223372036854775807) (hcap : d.size ≤ cap) :
    Calls Tryz.prog 147 #[.slice (some ⟨blk, off, none⟩) d.size cap] w fun e w' => e = .returned (.slice (some ⟨blk, off, none⟩) (compactUpTo d d.size).length cap) ∧ Good enc k w blk off d w' := by
  have mixed := mixed_ok
  have t3 := Tryz.underlying3; have a3 := Tryz.isAgg3; have z3 := Tryz.sizeOf3; have v3 := Tryz.zeroValue3
  have t36 := Tryz.underlying36; have a36 := Tryz.isAgg36; have z36 := Tryz.sizeOf36; have v36 := Tryz.zeroValue36
  have a55 := Tryz.isAgg55
  have same : ∀ W, WF enc k w W blk off d → (∀ j, j < d.size → keeps d j = true) → (compactUpTo d d.size).length = d.size ∧ Good enc k w blk off d W := by
    intro W hW hall
    have e : compactUpTo d d.size = d.toList := by rw [compactUpTo_all d _ hall, range_map_get]
    refine ⟨by rw [e]; simp, ?_⟩
    unfold Good; rw [e, Array.toArray_toList]; exact hW
  have HS : Aside (∀ W, WF enc k w W blk off d → (∀ j, j < d.size → keeps d j = true) → (compactUpTo d d.size).length = d.size ∧ Good enc k w blk off d W) := same
  have HK : Aside (∀ x, (enc x).length = k) := hk
  have H1 : Aside (∀ x, ∀ v ∈ enc x, v.oneCell' = true) := h1
  have HW : Aside (WF enc k w w blk off d) := WF.start hH
  have hn : Tryz.f147.ntmps = 61 := by kernel_rfl
  clear same hk h1 hH
  by_cases h2 : d.size < 2
  · go_enter Tryz.func147, hn
    go_wp2
    go_ret
    obtain ⟨e1, e2⟩ := HS.out w HW.out (fun j hj => keeps_lt_one d j (by omega))
    exact ⟨by rw [e1]; rfl, e2⟩
  · go_enter Tryz.func147, hn
    go_wp2
    go_loopg [3] d.size (fun g s3 wr => ∃ kk : Nat, 1 ≤ kk ∧ kk ≤ d.size ∧ d.size - kk ≤ g ∧ s3 = .int .i64 kk ∧ Aside (WF enc k w wr blk off d) ∧ Aside (∀ j, j < kk → keeps d j = true))
    case atStart => exact ⟨1, Nat.le_refl _, by omega, by omega, rfl, HW, keeps_lt_one d⟩
    case round =>
      obtain ⟨kk, hk1, hkd, hg, rfl, HR, A⟩ := hrel
      by_cases hlt : kk < d.size
      · obtain ⟨kp, rfl⟩ : ∃ kp, kk = kp + 1 := ⟨kk - 1, by omega⟩
        have hwp : IntKind.i64.wrap (kp : Int) = (kp : Int) := by rw [IntKind.wrap_i64]; omega
        have jz : (kp : Int) + 1 < (d.size : Int) := by omega
        have jz1 : (kp : Int) < (d.size : Int) := by omega
        have p0 : (0 : Int) ≤ (kp : Int) + 1 := by omega
        have e0 : ((kp : Int) + 1).toNat = kp + 1 := by omega
        have g1 : ∀ m, Sem.run Tryz.prog (loadCellsFrom ⟨blk, off + (kp + 1) * k, none⟩ 0 k #[]) (wr.drewN m) = .ok (enc d[kp + 1]!).toArray (wr.drewN m) := fun m => (HR.out.drewN m).load HK.out _ (kp + 1) hlt
        have g2 : ∀ m, Sem.run Tryz.prog (loadCellsFrom ⟨blk, off + kp * k, none⟩ 0 k #[]) (wr.drewN m) = .ok (enc d[kp]!).toArray (wr.drewN m) := fun m => (HR.out.drewN m).load HK.out _ kp (by omega)
        generalize hx : d[kp + 1]! = x at g1
        generalize hy : d[kp]! = y at g2
        have B : Aside (d[kp + 1]! = x ∧ d[kp]! = y) := ⟨hx, hy⟩
        clear hx hy
        by_cases hdup : x = y
        · subst hdup
          go_wp2_with fail
          go_quiet_o (fail)
          go_wp2
          clear g1 g2
          have hkc : kp + 1 < d.size := by omega
          go_loopg [3, 5] d.size (fun g s3 s5 wr2 => ∃ (k0 k2 : Nat) (dk : Array Fc), s3 = .int .i64 k0 ∧ s5 = .int .i64 k2 ∧ 1 ≤ k2 ∧ kp + 1 + k2 ≤ d.size ∧ d.size - (kp + 1 + k2) ≤ g ∧ Aside (WF enc k w wr2 blk off dk) ∧ Aside (CompInv d (kp + 1 + k2) k0 dk) ∧ k0 < kp + 1 + k2)
          case atStart => exact ⟨kp + 1, 1, d, by go_num, rfl, Nat.le_refl _, by omega, by omega, HR.out.drewN _, CompInv.start A.out (keeps_neg (by omega) (by rw [Nat.add_sub_cancel, B.out.1, B.out.2])), by omega⟩
          case round =>
            obtain ⟨k0, k2, dk, rfl, rfl, h1, hle, hg2, HR2, I2, hk0⟩ := hrel
            by_cases hlt2 : kp + 1 + k2 < d.size
            · obtain ⟨p2, rfl⟩ : ∃ p2, k2 = p2 + 1 := ⟨k2 - 1, by omega⟩
              have hds := I2.out.size
              have e1 : dk[kp + 1 + (p2 + 1)]! = d[kp + 1 + (p2 + 1)]! := I2.out.high _ (by omega)
              have e2 : dk[kp + 1 + p2]! = d[kp + 1 + p2]! := I2.out.high _ (by omega)
              have l1 : ∀ m, Sem.run Tryz.prog (loadCellsFrom ⟨blk, off + (kp + 1) * k + (p2 + 1) * k, none⟩ 0 k #[]) (wr.drewN m) = .ok (enc d[kp + 1 + (p2 + 1)]!).toArray (wr.drewN m) := fun m => by
                have := (HR2.out.drewN m).load HK.out Tryz.prog (kp + 1 + (p2 + 1)) (by omega)
                rw [e1, Nat.add_mul (kp + 1), ← Nat.add_assoc] at this; exact this
              have l2 : ∀ m, Sem.run Tryz.prog (loadCellsFrom ⟨blk, off + (kp + 1) * k + p2 * k, none⟩ 0 k #[]) (wr.drewN m) = .ok (enc d[kp + 1 + p2]!).toArray (wr.drewN m) := fun m => by
                have := (HR2.out.drewN m).load HK.out Tryz.prog (kp + 1 + p2) (by omega)
                rw [e2, Nat.add_mul (kp + 1), ← Nat.add_assoc] at this; exact this
              have hwp2 : IntKind.i64.wrap (p2 : Int) = (p2 : Int) := by rw [IntKind.wrap_i64]; omega
              have q0 : (0 : Int) ≤ (p2 : Int) + 1 := by omega
              have q1 : ((p2 : Int) + 1).toNat = p2 + 1 := by omega
              have q2 : (p2 : Int) + 1 < ((d.size - (kp + 1) : Nat) : Int) := by omega
              have q3 : (p2 : Int) < ((d.size - (kp + 1) : Nat) : Int) := by omega
              have b0 : (k0 : Int) < (d.size : Int) := by omega
              have b1 : k0 < d.size := by omega
              clear e1 e2
              generalize hu : d[kp + 1 + (p2 + 1)]! = u at l1
              generalize hv : d[kp + 1 + p2]! = v at l2
              have C : Aside (d[kp + 1 + (p2 + 1)]! = u ∧ d[kp + 1 + p2]! = v) := ⟨hu, hv⟩
              clear hu hv
              by_cases huv : u = v
              · subst huv
                go_wp2_with fail
                go_quiet_o (fail)
                go_wp2
                go_roundg (d.size - (kp + 1 + (p2 + 1 + 1)))
                case measure => omega
                case rel => exact ⟨k0, p2 + 1 + 1, dk, rfl, by go_num, by omega, by omega, Nat.le_refl _, (show Aside _ from HR2.out.drewN _), (show Aside _ from I2.out.skip (keeps_neg (by omega) (by rw [show kp + 1 + (p2 + 1) - 1 = kp + 1 + p2 by omega, C.out.1, C.out.2]))), by omega⟩
              · have hku : (enc u).length = k := HK.out u
                have s1 : ∀ m, Sem.run Tryz.prog (storeCells ⟨blk, off + k0 * k, none⟩ (enc u) 0) (wr.drewN m) = .ok () ((wr.drewN m).setCells blk (off + k0 * k) (enc u)) := fun m => (HR2.out.drewN m).st HK.out H1.out _ k0 (by omega) u
                go_wp2_with fail
                go_quiet_o (fail)
                go_wp2
                go_roundg (d.size - (kp + 1 + (p2 + 1 + 1)))
                case measure => omega
                case rel => exact ⟨k0 + 1, p2 + 1 + 1, dk.setIfInBounds k0 u, by go_num, by go_num, by omega, by omega, Nat.le_refl _, (show Aside _ from (HR2.out.drewN _).set HK.out k0 (by omega) u), (show Aside _ from by
                  have h := I2.out.keep hlt2 (keeps_pos (by rw [show kp + 1 + (p2 + 1) - 1 = kp + 1 + p2 by omega, C.out.1, C.out.2]; exact huv))
                  rw [C.out.1] at h; exact h), by omega⟩
            · have hend : kp + 1 + k2 = d.size := by omega
              have hds := I2.out.size
              have b0 : (k0 : Int) < (d.size : Int) := by omega
              have b1 : k0 < d.size := by omega
              have b2 : ¬ (k2 : Int) < ((d.size - (kp + 1) : Nat) : Int) := by omega
              obtain ⟨hcl, hcn⟩ := run_clear_k (P := Tryz.prog) (t := 36) (e := 55) (z := .agg (enc zr).toArray) t36 v55 (fun v hv => H1.out zr v (by simpa [Value.cells] using hv)) (by simp [Value.cells, HK.out]) HR2.out k0 (d.size - k0) (cap - k0) (by omega) (by omega)
              generalize hvs : (Builtin.zeroCells (Value.agg (enc zr).toArray).cells (d.size - k0)).toList = vs at hcl hcn
              go_wp2
              go_ret
              have hI := I2.out
              rw [hend] at hI
              refine ⟨by rw [hI.len]; rfl, ?_⟩
              exact HR2.out.zero vs k0 (by omega) (by rw [hds]; exact hcn) _ hI.len hI.low
        · go_wp2_with fail
          go_quiet_o (fail)
          go_wp2
          go_roundg (d.size - (kp + 1 + 1))
          case measure => omega
          case rel =>
            refine ⟨kp + 1 + 1, by omega, by omega, Nat.le_refl _, by go_num, (show Aside _ from HR.out.drewN _), (show Aside _ from fun j hj => ?_)⟩
            by_cases e : j = kp + 1
            · subst e
              exact keeps_pos (by rw [Nat.add_sub_cancel, B.out.1, B.out.2]; exact hdup)
            · exact A.out j (by omega)
      · have : kk = d.size := by omega
        subst this
        go_wp2
        go_ret
        obtain ⟨e1, e2⟩ := HS.out _ HR.out A.out
        exact ⟨by rw [e1]; rfl, e2⟩
end Go.Mach
end
section
set_option linter.unusedVariables false
set_option linter.unusedSimpArgs false
namespace Go.Mach
open Go Go.RowKit
def faM (l : List Fc) (f : Fc) : List Fc := if okF l = true ∧ l.length < 2500 then ins l f else l
theorem fa_no {l : List Fc} {f : Fc} (h : okF l = false ∨ 2500 ≤ (l.length : Int)) : faM l f = l := by
  unfold faM; rw [if_neg]; rintro ⟨h1, h2⟩
  rcases h with h | h
  · rw [h] at h1; cases h1
  · omega
theorem fa_has {l : List Fc} {f : Fc} (h : okF l = true) (hf : f ∈ l) : faM l f = l := by
  have hu : Up l := (of_decide_eq_true h).1
  unfold faM
  split
  · rw [ins_eq, if_pos ((mem_posF hu).1 hf)]
  · rfl
theorem fa_new {l : List Fc} {f : Fc} {v : Int} (h : okF l = true) (hl : (l.length : Int) < 2500) (hf : f ∉ l) (hv : ((posF l f : Nat) : Int) = v) : faM l f = l.take v.toNat ++ f :: l.drop v.toNat := by
  have hu : Up l := (of_decide_eq_true h).1
  unfold faM
  rw [if_pos ⟨h, by omega⟩]
  refine ins_put hv fun h1 e => hf ((mem_posF hu).2 ⟨by omega, ?_⟩)
  subst hv; exact e
theorem fa_seed {l : List Nd} {i : Int} {f : Fc} {v : List Fc} (h0 : 0 ≤ i) (h1 : i < 1) (hf : rF (seedM l) i = f) (hv : faM ((seedM l).take i.toNat) f = v) : v = (seedM l).take (i + 1).toNat := by
  have : i = 0 := by omega
  subst this
  subst hv
  have e : f = ⟨6, l.length - 1, 0, ⟨0, 0, 0⟩⟩ := hf.symm
  subst e
  rfl
theorem Den.emp {E : Env} {Q : X → S → Prop} {o : Std} (ho : o = std) {i : Decidable (o.empty [] = true)} {a b : T} (h : Den E a Q) : Den E (@ite T (o.empty [] = true) i a b) Q := by
  subst ho; rw [if_pos (show std.empty [] = true from rfl)]; exact h
theorem may_yesI {l : List Nd} {dp : Int} {v : List Fc} {b : Bool} (h : solveR l dp = (v, true)) (hb : decide ((⟨7, l.length - 1, 0, ⟨0, 0, 0⟩⟩ : Fc) ∈ v) = b) : b = mayM l dp := by
  have hs := solveR_fit h
  have hk : okF v = true := decide_eq_true ⟨hs.1, hs.2.1⟩
  exact may_yes h (by rw [hk, Bool.true_and]; exact hb)
end Go.Mach
end
section
set_option linter.unusedVariables false
set_option linter.unusedSimpArgs false
namespace Go.Mach
open Go Go.RowKit
def SzL (a : List Nd) : Prop := (a.length : Int) ≤ 1048576 ∧ ∀ x ∈ a, x.f5.size ≤ 1048576 ∧ x.f6.size ≤ 1048576
def Bg (a : List Nd) : Prop := (a.length : Int) ≤ 9223372036854775807 ∧ ∀ x ∈ a, x.f5.size ≤ 9223372036854775807 ∧ x.f6.size ≤ 9223372036854775807
theorem Bg.at {a : List Nd} (h : Bg a) {i : Int} {y : Nd} (h0 : 0 ≤ i) (h1 : i < a.length) (hy : rN a i = y) : y.f5.size ≤ 9223372036854775807 ∧ y.f6.size ≤ 9223372036854775807 := by
  subst hy; exact h.2 _ (rdG_mem h0 h1)
theorem sz_step {a : List Nd} {i : Int} {y : Nd} (h0 : 0 ≤ i) (h1 : i < a.length) (hs : ∀ x ∈ a.take i.toNat, x.f5.size ≤ 1048576 ∧ x.f6.size ≤ 1048576) (hy : rN a i = y) (h : y.f5.size ≤ 1048576 ∧ y.f6.size ≤ 1048576) : ∀ x ∈ a.take (i + 1).toNat, x.f5.size ≤ 1048576 ∧ x.f6.size ≤ 1048576 := by
  rw [take_succG zNd h0 h1, show rdG zNd a i = y from hy]
  intro x hx
  rcases List.mem_append.1 hx with hx | hx
  · exact hs x hx
  · rw [List.mem_singleton.1 hx]; exact h
theorem sz_end {a : List Nd} {i r : Int} (h : a.length ≤ i) (hl : (a.length : Int) ≤ 1048576) (hs : ∀ x ∈ a.take i.toNat, x.f5.size ≤ 1048576 ∧ x.f6.size ≤ 1048576) : SzL a := by
  rw [take_allG h] at hs; exact ⟨hl, hs⟩
theorem SzL.sz {a : List Nd} (h : SzL a) : Sz a := h.2
def cpB (a : List Nd) (i : Int) : List Nd := a.take i.toNat ++ List.replicate (a.length - i.toNat) zNd
theorem cpB_zero (a : List Nd) : cpB a 0 = List.replicate a.length zNd := by simp [cpB]
theorem cpB_len {a : List Nd} {i : Int} (h0 : 0 ≤ i) (h1 : i ≤ a.length) : (cpB a i).length = a.length := by
  unfold cpB; simp; omega
theorem cpB_set {a : List Nd} {i : Int} {y : Nd} (h0 : 0 ≤ i) (h1 : i < a.length) (hy : rN a i = y) : (cpB a i).set i.toNat y = cpB a (i + 1) := by
  unfold cpB
  rw [take_succG zNd h0 h1, show rdG zNd a i = y from hy, show a.length - i.toNat = (a.length - (i + 1).toNat) + 1 by omega, List.replicate_succ, List.set_append, if_neg (by simp; omega)]
  simp [show i.toNat - min i.toNat a.length = 0 by omega]
theorem cpB_end {a : List Nd} {i : Int} (h : (a.length : Int) = i) : cpB a i = a := by
  unfold cpB; rw [← h]; simp
theorem rep_eNd (n : Nat) : List.replicate n (cNd zNd) = eNd (List.replicate n zNd) := by simp [eNd]
theorem set_eNd (l : List Nd) (i : Nat) (x : Nd) : (eNd l).set i (cNd x) = eNd (l.set i x) := by simp [eNd, List.map_set]
theorem cells_eNd (l : List Nd) : (eNd l).all (fun e => e.all D.cell) = true := by simp [eNd, cNd, D.cell]
end Go.Mach
end
section
set_option linter.unusedVariables false
set_option linter.unusedSimpArgs false
namespace Go.Mach
open Go Go.RowKit
theorem len_flat_those {α : Type} {fs : List Fc} (hl : fs.length ≤ 2500) {g : Ab → List Fc} {K : Nat} (h : ∀ x, (g x).length ≤ K) (k n c kd : Int) : ((thoseL fs k n c kd).flatMap g).length ≤ 2500 * K :=
  Nat.le_trans (len_flatMap_le g K h _) (Nat.mul_le_mul_right _ (Nat.le_trans (len_those fs k n c kd) hl))
theorem len_bothI {l : List Nd} {us : List Bd} {fs : List Fc} (hF : Fok l fs) (hL : Lok l us) (dp i c : Int) (n : Nd) (a b : Plc) : (bothI l us dp fs i c n a b).length ≤ 960000000 := by
  unfold bothI
  have h1 := len_calls hF hL (k := a.k) (n := a.n) (c0 := a.c) rfl i c dp b (thoseL fs a.k a.n a.c 1).length
  rw [List.take_length] at h1
  have h2 := len_those fs a.k a.n a.c 1
  have h3 := hF.len
  have h4 : (thoseL fs a.k a.n a.c 1).length * 380002 ≤ 2500 * 380002 := Nat.mul_le_mul_right _ (by omega)
  have h5 := len_flowPI hF a ⟨3, i, c⟩
  have h6 := len_flowPI hF b ⟨4, i, c⟩
  have h7 := len_flat_those (α := Nat) hF.len (g := fun r => flowP fs b ⟨5, r.n, r.c⟩) (fun r => len_flowPI hF b _) a.k a.n a.c 5
  (repeat' split) <;> (try simp only [List.length_append, List.length_nil, List.length_cons]) <;> omega
theorem len_matchI {l : List Nd} {fs : List Fc} (hF : Fok l fs) (i c : Int) (n : Nd) (a : Plc) : (matchI fs i c n a).length ≤ 13000000 := by
  unfold matchI
  have h7 : ∀ a b, (seeL a b).length = 1 := fun _ _ => rfl
  have h1 := len_flat_those (α := Nat) hF.len (K := 5001) (g := fun v => seeL n.f3 c ++ flowL fs 3 v.n v.c 1 i c ++ flowL fs 4 v.n v.c 2 i c) (fun v => by
    have h1 := len_flowI hF 3 v.n v.c 1 i c
    have h2 := len_flowI hF 4 v.n v.c 2 i c
    simp only [List.length_append, h7]; omega) a.k a.n a.c 4
  have h2 := len_flowI hF 0 n.f2 c 0 i c
  have h3 := len_flowI hF 0 n.f3 c 0 i c
  (repeat' split) <;> (try simp only [List.length_append, List.length_nil, List.length_cons, h7]) <;> omega
theorem len_takeL {l : List Nd} {fs : List Fc} (hF : Fok l fs) (a b d e f k n c kd : Int) : (takeL fs a b d e f (thoseL fs k n c kd)).length ≤ 2500 * 2500 :=
  len_flat_those (α := Nat) hF.len (fun v => len_flowI hF _ _ _ _ _ _) _ _ _ _
theorem len_oneI {l : List Nd} {fs : List Fc} (hF : Fok l fs) (i c : Int) (n : Nd) (a : Plc) : (oneI fs i c n a).length ≤ 7000000 := by
  unfold oneI
  have h7 : ∀ a b, (seeL a b).length = 1 := fun _ _ => rfl
  have h1 := fun k p d kd => len_takeL hF k p d i c a.k a.n a.c kd
  have h2 := h1 3 3 0 3
  have h3 := h1 3 4 0 3
  have h4 := h1 5 5 0 5
  have h5 := len_flowPI hF a ⟨5, i, c⟩
  have h6 := len_flowPI hF a ⟨0, i, c⟩
  have h8 := len_flowI hF 0 n.f2 c 0 i c
  (repeat' split) <;> (try simp only [List.length_append, List.length_nil, List.length_cons, h7]) <;> omega
theorem len_otherI {l : List Nd} {us : List Bd} {fs : List Fc} (hF : Fok l fs) (hL : Lok l us) (dp i c : Int) (n : Nd) : (otherI l us dp fs i c n).length ≤ 965000000 := by
  unfold otherI
  have h7 : ∀ a b, (seeL a b).length = 1 := fun _ _ => rfl
  have h8 := len_flatMap_le _ 1 (fun v => len_kidI fs n.f0 i c v) (kidsM n).zipIdx
  have h9 := len_kidsM n
  have h10 := arityM_le n.f0
  rw [List.length_zipIdx] at h8
  have h1 := len_bothI hF hL dp i c n ⟨0, n.f1, c⟩ ⟨0, n.f2, c⟩
  have h2 := len_matchI hF i c n ⟨0, n.f1, c⟩
  have h3 := len_oneI hF i c n ⟨0, n.f1, c⟩
  have h4 := len_flowI hF 0 n.f1 c 1 i c
  have h5 := len_flowI hF 0 n.f2 c 0 i c
  have h6 := len_flowI hF 0 n.f3 c 0 i c
  (repeat' split) <;> (try simp only [List.length_append, List.length_nil, List.length_cons, h7]) <;> omega
theorem len_nodeI {l : List Nd} {us : List Bd} {fs : List Fc} (hF : Fok l fs) (hL : Lok l us) (dp i c : Int) : (nodeI l us dp fs i c).length ≤ 970000000 := by
  unfold nodeI
  have h7 : ∀ a b, (seeL a b).length = 1 := fun _ _ => rfl
  have h1 := len_otherI hF hL dp i c (rN l i)
  have h2 := len_flowPI hF (nameAt (rB us i) c) ⟨0, i, c⟩
  have h3 := len_flowI hF 0 (rN l i).f2 c 0 i c
  have h4 := len_rise (hasR fs (rN l i).f2 c) i c
  dsimp only
  (repeat' split) <;> (try simp only [List.length_append, List.length_nil, List.length_cons, h7]) <;> omega
def moreT (l : List Nd) (us : List Bd) (dp : Int) (fs L : List Fc) : List Fc := L.flatMap fun f => if f.k = 6 then nodeI l us dp fs f.n f.c else []
theorem moreT_all (l : List Nd) (us : List Bd) (dp : Int) (fs : List Fc) : moreT l us dp fs fs = moreI l us dp fs := rfl
theorem len_moreT {l : List Nd} {us : List Bd} {fs : List Fc} (hF : Fok l fs) (hL : Lok l us) (dp : Int) (L : List Fc) : (moreT l us dp fs L).length ≤ L.length * 970000000 := by
  unfold moreT
  induction L with
  | nil => simp
  | cons x L ih =>
    rw [List.flatMap_cons, List.length_append, List.length_cons, Nat.succ_mul]
    have := len_nodeI hF hL dp x.n x.c
    split
    · omega
    · simp only [List.length_nil]; omega
theorem len_moreT2 {l : List Nd} {us : List Bd} {fs : List Fc} (hF : Fok l fs) (hL : Lok l us) (dp : Int) (n : Nat) : (moreT l us dp fs (fs.take n)).length ≤ 2425000000000 := by
  have h1 := len_moreT hF hL dp (fs.take n)
  have h2 := hF.len
  have h3 := List.length_take_le' n fs
  have h4 : (fs.take n).length * 970000000 ≤ 2500 * 970000000 := Nat.mul_le_mul_right _ (by omega)
  omega
theorem moreT_hit {l : List Nd} {us : List Bd} {dp : Int} {fs : List Fc} {i : Int} {y : Fc} (h0 : 0 ≤ i) (h1 : i < fs.length) (hy : rF fs i = y) (hk : y.k = 6) : moreT l us dp fs (fs.take (i + 1).toNat) = moreT l us dp fs (fs.take i.toNat) ++ nodeI l us dp fs y.n y.c := by
  rw [take_succG zF h0 h1, show rdG zF fs i = y from hy]
  unfold moreT
  rw [List.flatMap_append, List.flatMap_cons, List.flatMap_nil, if_pos hk, List.append_nil]
theorem moreT_miss {l : List Nd} {us : List Bd} {dp : Int} {fs : List Fc} {i : Int} {y : Fc} (h0 : 0 ≤ i) (h1 : i < fs.length) (hy : rF fs i = y) (hk : ¬ y.k = 6) : moreT l us dp fs (fs.take (i + 1).toNat) = moreT l us dp fs (fs.take i.toNat) := by
  rw [take_succG zF h0 h1, show rdG zF fs i = y from hy]
  unfold moreT
  rw [List.flatMap_append, List.flatMap_cons, List.flatMap_nil, if_neg hk, List.append_nil, List.append_nil]
theorem rF_node {l : List Nd} {fs : List Fc} (hF : Fok l fs) {i : Int} {y : Fc} (h0 : 0 ≤ i) (h1 : i < fs.length) (hy : rF fs i = y) : 0 ≤ y.n ∧ y.n < l.length := by
  subst hy; exact hF.node _ (rdG_mem h0 h1)
end Go.Mach
end
section
set_option linter.unusedVariables false
set_option linter.unusedSimpArgs false
namespace Go.Mach
open Go Go.RowKit Go.Proofs Go.Lib
def cmpF (l : List Fc) : List Fc := compactUpTo l.toArray l.toArray.size
theorem get_toArray (l : List Fc) {i : Nat} (h : i < l.length) : l.toArray[i]! = l[i] := by
  rw [getElem!_pos l.toArray i (by simpa using h)]; simp
theorem cmp_mem {d : Array Fc} : ∀ (m : Nat), m ≤ d.size → ∀ x, x ∈ compactUpTo d m ↔ ∃ j, j < m ∧ d[j]! = x
  | 0, _, x => by simp [compactUpTo]
  | m + 1, hm, x => by
    rw [compactUpTo_succ, List.mem_append, cmp_mem m (by omega) x]
    constructor
    · rintro (⟨j, h1, h2⟩ | h)
      · exact ⟨j, by omega, h2⟩
      · split at h
        · rw [List.mem_singleton] at h; exact ⟨m, by omega, h.symm⟩
        · cases h
    · rintro ⟨j, h1, h2⟩
      by_cases e : j = m
      · subst e
        by_cases hk : keeps d j = true
        · right; rw [if_pos hk, List.mem_singleton]; exact h2.symm
        · left
          have h3 : ¬ (j = 0 ∨ d[j]! ≠ d[j - 1]!) := fun q => hk (decide_eq_true q)
          have h4 : j ≠ 0 := fun q => h3 (.inl q)
          have h5 : d[j]! = d[j - 1]! := Classical.byContradiction fun q => h3 (.inr q)
          exact ⟨j - 1, by omega, by rw [← h5]; exact h2⟩
      · exact .inl ⟨j, by omega, h2⟩
theorem cmp_up {d : Array Fc} (hs : ∀ i j, i < j → j < d.size → ¬ ltF d[j]! d[i]!) : ∀ (m : Nat), m ≤ d.size → Up (compactUpTo d m)
  | 0, _ => by simp [compactUpTo, Up]
  | m + 1, hm => by
    rw [compactUpTo_succ]
    unfold Up
    rw [List.pairwise_append]
    refine ⟨cmp_up hs m (by omega), ?_, fun x hx y hy => ?_⟩
    · split <;> simp
    · split at hy
      · rename_i hk
        rw [List.mem_singleton] at hy; subst hy
        obtain ⟨j, h1, rfl⟩ := (cmp_mem m (by omega) x).1 hx
        have h2 : m = 0 ∨ d[m]! ≠ d[m - 1]! := of_decide_eq_true hk
        have h3 : d[m]! ≠ d[m - 1]! := h2.resolve_left (by omega)
        have h4 : ltF d[m - 1]! d[m]! := Classical.byContradiction fun q => h3 (ltF_total (hs (m - 1) m (by omega) (by omega)) q)
        by_cases e : j = m - 1
        · subst e; exact h4
        · have h5 := hs j (m - 1) (by omega) (by omega)
          by_cases h6 : ltF d[j]! d[m - 1]!
          · exact ltF_trans h6 h4
          · rw [ltF_total h6 h5]; exact h4
      · cases hy
theorem srt_sorted (l : List Fc) : (srtF l).Pairwise fun x y => ¬ ltF y x := by
  unfold srtF
  refine (List.pairwise_mergeSort (le := fun x y => !(ltOf ordF) y x) ?_ ?_ l).imp ?_
  · intro a b c h1 h2
    have q1 : ¬ ltF b a := fun q => by have := decide_eq_true ((ordF_lt b a).2 q); simp [ltOf, this] at h1
    have q2 : ¬ ltF c b := fun q => by have := decide_eq_true ((ordF_lt c b).2 q); simp [ltOf, this] at h2
    have q3 : ¬ ltF c a := fun q => by
      by_cases e : ltF a b
      · exact q2 (ltF_trans q e)
      · have := ltF_total e q1; subst this; exact q2 q
    have : decide (ordF c a < 0) = false := decide_eq_false fun q => q3 ((ordF_lt c a).1 q)
    simp [ltOf, this]
  · intro a b
    by_cases e : ltF a b
    · have : decide (ordF b a < 0) = false := decide_eq_false fun q => ltF_irrefl a (ltF_trans e ((ordF_lt b a).1 q))
      simp only [ltOf, this]; simp
    · have : decide (ordF a b < 0) = false := decide_eq_false fun q => e ((ordF_lt a b).1 q)
      simp only [ltOf, this]; simp
  · intro a b h q
    have := decide_eq_true ((ordF_lt b a).2 q)
    simp only [ltOf, this] at h
    cases h
theorem srt_mem (l : List Fc) (x : Fc) : x ∈ srtF l ↔ x ∈ l := by unfold srtF; exact List.mem_mergeSort
theorem cmpF_up (l : List Fc) : Up (cmpF (srtF l)) := by
  refine cmp_up (fun i j hij hj => ?_) _ (Nat.le_refl _)
  have hj' : j < (srtF l).length := by simpa using hj
  rw [get_toArray _ hj', get_toArray _ (by omega)]
  exact List.pairwise_iff_getElem.1 (srt_sorted l) i j (by omega) hj' hij
theorem cmpF_mem (l : List Fc) (x : Fc) : x ∈ cmpF (srtF l) ↔ x ∈ l := by
  unfold cmpF
  rw [cmp_mem _ (Nat.le_refl _), ← srt_mem l x, List.mem_iff_getElem]
  constructor
  · rintro ⟨j, h1, h2⟩
    have h1' : j < (srtF l).length := by simpa using h1
    exact ⟨j, h1', by rw [← h2, get_toArray _ h1']⟩
  · rintro ⟨j, h1, h2⟩
    exact ⟨j, by simpa using h1, by rw [get_toArray _ h1]; exact h2⟩
theorem cmpF_pass {l : List Nd} (hC : Clo l) {fs : List Fc} (h : Fit l fs) (dp : Int) : cmpF (srtF (moreI l (bindsM l) dp fs ++ fs)) = passM l dp fs :=
  pass_same hC h dp (cmpF_up _) fun x => by rw [cmpF_mem, List.mem_append]
end Go.Mach
end
section
set_option linter.unusedVariables false
set_option linter.unusedSimpArgs false
namespace Go.Mach
open Go Go.RowKit Go.Proofs
set_option maxRecDepth 100000
set_option maxHeartbeats 1000000
theorem impl_factAt.ans {xa xb : Option (List D → Option D)} (o : Std) (ho : o = std) (l : List Fc) (f_k : Int) (f_n : Int) (f_c : Int) (f_v_k : Int) (f_v_n : Int) (f_v_c : Int) (h0 : Up l) (h1 : l.length ≤ 2900000000000) : Ans (env xa xb) 83 [.sl .ro 6 (o.bx fun _ => eFc l), .agg [.int .i64 f_k, .int .i64 f_n, .int .i64 f_c, .int .i64 f_v_k, .int .i64 f_v_n, .int .i64 f_v_c]] (.int .i64 (((posF l (⟨f_k, f_n, f_c, ⟨f_v_k, f_v_n, f_v_c⟩⟩ : Fc) : Nat) : Int))) := by
  refine Ans.mkA ho _ rfl rfl ?_
  repeat' (first
    | (refine Den.id ?_
       (try (conv => arg 2; cbv))
       first
         | (refine Den.indF (fun m_ s_ => ∃ (a5 : Int) (a6 : Int) (tk : List Nat), s_ = ⟨[.sl .ro 6 (o.bx fun _ => eFc l), .junk, .junk, .pbx (.loc 0) 0, .junk, .int .i64 a5, .int .i64 a6] ++ List.replicate 20 .junk, [[[.int .i64 f_k, .int .i64 f_n, .int .i64 f_c, .int .i64 f_v_k, .int .i64 f_v_n, .int .i64 f_v_c]]], [], tk⟩ ∧ (0 ≤ a5 ∧ a5 ≤ a6 ∧ a6 ≤ l.length ∧ (∀ j : Nat, (j : Int) < a5 → ltF (l.getD j zF) (⟨f_k, f_n, f_c, ⟨f_v_k, f_v_n, f_v_c⟩⟩ : Fc)) ∧ (∀ j : Nat, a6 ≤ j → j < l.length → ¬ ltF (l.getD j zF) (⟨f_k, f_n, f_c, ⟨f_v_k, f_v_n, f_v_c⟩⟩ : Fc))) ∧ (a6 - a5).toNat ≤ m_) _ _ ⟨_, _, _, by subst ho; rfl, ?_, Nat.le_refl _⟩ ?_
            rotate_right
            rintro m_ _ ⟨a5, a6, tk, rfl, hIa, hka⟩ iha
            obtain ⟨i1, i2, i3, i4, i5⟩ := hIa; refine Den.unloopA ho ?_
            repeat' (first
              | (refine Den.id ?_
                 (try (conv => arg 2; cbv))
                 first
                   | refine Den.testT ?_
                   | refine Den.testF ?_
                   | (refine Den.test (fun hr => ?_) (fun hr => ?_) <;> (have hb := hr) <;> (try simp (disch := omega) only [ho, std, wI, len_eK, len_eB, len_eNd, len_eLNd, len_eFc, len_eAb, len_eBd, len_eEd, len_eLBd, Classical.not_not, decide_eq_true_eq, decide_eq_false_iff_not, beq_iff_eq, beq_eq_false_iff_ne, ne_eq, Bool.not_eq_true', Bool.not_eq_false', gt_iff_lt, ge_iff_le, Int.not_lt, Int.not_le] at hb) <;> (try (exfalso; first | contradiction | omega | exact hb rfl)))
                   | (refine Den.pcallE (β := Bool) (fun v => .bool v) (as' := [.agg [.int .i64 _, .int .i64 _, .int .i64 _, .int .i64 _, .int .i64 _, .int .i64 _], .agg [.int .i64 _, .int .i64 _, .int .i64 _, .int .i64 _, .int .i64 _, .int .i64 _]]) (by first | with_reducible rfl | (subst ho; rfl)) (impl_FactLess.ans o ho _ _ _ _ _ _ _ _ _ _ _ _) ?_; rotate_left 0; rintro (_ | _) hv <;> (try simp only [decide_eq_true_eq, decide_eq_false_iff_not] at hv) <;> (try first | contradiction | exact absurd (hv.symm.trans (show _ = false by assumption)) (by decide) | exact absurd (hv.symm.trans (show _ = true by assumption)) (by decide)))
                   | (refine Den.fetchXFc ho ?_ ?_ (fun y hy => ?_); rotate_left 2; rcases y with ⟨yk, yn, yc, yvk, yvn, yvc⟩)
                   | (refine Den.needD ho (by kernel_rfl) ?_)
                   | (refine Den.need ?_ ?_)
                   | (refine iha _ _ ?_ ⟨_, _, _, by subst ho; rfl, ?_, Nat.le_refl _⟩)
                   | (refine Den.done ⟨by first | exact Or.inl rfl | exact Or.inr rfl, ?_⟩; (conv => lhs; cbv); refine congrArg some ?_))
              | ((fail_if_success (refine Den.id ?_))
                 first
                   | (refine dI (bs_end (by assumption) (by assumption) (by assumption) (by assumption) (by assumption) (by assumption)))
                   | (refine ⟨Int.le_refl 0, ?_, ?_, fun j hj => absurd hj (by omega), fun j hj hl => absurd hj ?_⟩ <;> subst ho <;> simp only [std, len_eFc] <;> omega)
                   | (clear iha; subst ho; simp (disch := omega) only [std, wI, tdiv2] at *; refine ⟨by omega, by omega, by omega, ?_, by assumption⟩; exact bs_lo h0 (by omega) (by omega) (by rw [hy]; exact ltB_iff.1 hv))
                   | (clear iha; subst ho; simp (disch := omega) only [std, wI, tdiv2] at *; refine ⟨by omega, by omega, by omega, by assumption, ?_⟩; exact bs_hi h0 (by omega) (by omega) (fun h => by rw [hy] at h; rw [ltB_iff.2 h] at hv; cases hv))
                   | (subst ho; rfl)
                   | (subst ho; simp (disch := omega) only [std, wI, tdiv2, tdivN, len_eFc, len_eNd, len_eBd, len_eAb, len_eLBd, len_eK, len_eB] <;> first | done | rfl | omega)))))
    | ((fail_if_success (refine Den.id ?_))
       first
         | fail))
theorem impl_has.ans {xa xb : Option (List D → Option D)} (o : Std) (ho : o = std) (l : List Fc) (f_k : Int) (f_n : Int) (f_c : Int) (f_v_k : Int) (f_v_n : Int) (f_v_c : Int) (h0 : Up l) (h1 : l.length ≤ 2900000000000) : Ans (env xa xb) 56 [.sl .ro 6 (o.bx fun _ => eFc l), .agg [.int .i64 f_k, .int .i64 f_n, .int .i64 f_c, .int .i64 f_v_k, .int .i64 f_v_n, .int .i64 f_v_c]] (.bool (decide ((⟨f_k, f_n, f_c, ⟨f_v_k, f_v_n, f_v_c⟩⟩ : Fc) ∈ l))) := by
  refine Ans.mkA ho _ rfl rfl ?_
  repeat' (first
    | (refine Den.id ?_
       (try (conv => arg 2; cbv))
       first
         | refine Den.test1 (by with_reducible assumption) ?_
         | refine Den.test0 (by with_reducible assumption) ?_
         | (refine Den.test (fun hr => ?_) (fun hr => ?_) <;> (have hb := hr) <;> (try simp (disch := omega) only [ho, std, wI, len_eK, len_eB, len_eNd, len_eLNd, len_eFc, len_eAb, len_eBd, len_eEd, len_eLBd, Classical.not_not, decide_eq_true_eq, decide_eq_false_iff_not, beq_iff_eq, beq_eq_false_iff_ne, ne_eq, Bool.not_eq_true', Bool.not_eq_false', gt_iff_lt, ge_iff_le, Int.not_lt, Int.not_le] at hb) <;> (try (exfalso; first | contradiction | omega | exact hb rfl)))
         | (refine Den.pcallE (β := Int) (fun v => .int .i64 v) (as' := [.sl .ro 6 (o.bx fun _ => eFc _), .agg [.int .i64 _, .int .i64 _, .int .i64 _, .int .i64 _, .int .i64 _, .int .i64 _]]) (by first | with_reducible rfl | (subst ho; rfl)) (impl_factAt.ans o ho _ _ _ _ _ _ _ ?_ ?_) ?_; rotate_left 2; rintro v hv)
         | (refine Den.fetchXFc ho ?_ ?_ (fun y hy => ?_); rotate_left 2; rcases y with ⟨yk, yn, yc, yvk, yvn, yvc⟩)
         | (refine Den.needD ho (by kernel_rfl) ?_)
         | (refine Den.done ⟨by first | exact Or.inl rfl | exact Or.inr rfl, ?_⟩; (conv => lhs; cbv); refine congrArg some ?_))
    | ((fail_if_success (refine Den.id ?_))
       first
         | (subst ho; refine dBt ?_; simp only [std, Bool.and_eq_true, beq_iff_eq, and_true]; rw [has_iff h0 hv (by assumption) hy]; simp only [Fc.mk.injEq, Ab.mk.injEq]; done)
         | (refine dB (decide_eq_false ?_).symm; rw [mem_posF h0]; omega)
         | assumption
         | omega))
theorem impl_absAt.ans {xa xb : Option (List D → Option D)} (o : Std) (ho : o = std) (l : List Fc) (k : Int) (n : Int) (c : Int) (h0 : Up l) (h1 : ∀ f ∈ l, 0 ≤ f.v.k ∧ 0 ≤ f.v.n) (h2 : l.length ≤ 2900000000000) : Ans (env xa xb) 76 [.sl .ro 6 (o.bx fun _ => eFc l), .int .i64 k, .int .i64 n, .int .i64 c] (.sl .ro 3 (o.bx fun _ => eAb (vals l k n c))) := by
  refine Ans.mkA ho _ rfl rfl ?_
  repeat' (first
    | (refine Den.id ?_
       (try (conv => arg 2; cbv))
       first
         | (refine Den.pcallE (β := Int) (fun v => .int .i64 v) (as' := [.sl .ro 6 (o.bx fun _ => eFc _), .agg [.int .i64 _, .int .i64 _, .int .i64 _, .int .i64 _, .int .i64 _, .int .i64 _]]) (by first | with_reducible rfl | (subst ho; rfl)) (impl_factAt.ans o ho _ _ _ _ _ _ _ ?_ ?_) ?_; rotate_left 2; rintro v hv)
         | (refine Den.indF (fun m_ s_ => ∃ (ea9 : Box) (a10 : Int) (ta9 : Tok) (tk : List Nat), s_ = ⟨[.sl .ro 6 (o.bx fun _ => eFc l), .int .i64 k, .int .i64 n, .int .i64 c, .junk, .junk, .junk, .junk, .junk, .sl ta9 3 ea9, .int .i64 a10] ++ List.replicate 40 .junk, [], [], tk⟩ ∧ Lv tk ta9 ea9.length ∧ ea9 = (o.bx fun _ => eAb (vals (l.take a10.toNat) k n c)) ∧ (0 ≤ a10 ∧ a10 ≤ l.length ∧ (∀ j : Nat, j < l.length → a10 ≤ j → ltF ⟨k, n, c, ⟨0, -22951, 0⟩⟩ (l.getD j zF))) ∧ (l.length - a10).toNat ≤ m_) _ _ ⟨_, _, _, _, by subst ho; rfl, ?_, ?_, ?_, Nat.le_refl _⟩ ?_
            rotate_right
            rintro m_ _ ⟨ea9, a10, ta9, tk, rfl, hla0, rfl, hIa, hka⟩ iha
            obtain ⟨i1, i2, i3⟩ := hIa; refine Den.unloopA ho ?_
            repeat' (first
              | (refine Den.id ?_
                 (try (conv => arg 2; cbv))
                 first
                   | refine Den.testT ?_
                   | refine Den.test1 (by with_reducible assumption) ?_
                   | refine Den.test0 (by with_reducible assumption) ?_
                   | (refine Den.test (fun hr => ?_) (fun hr => ?_) <;> (have hb := hr) <;> (try simp (disch := omega) only [ho, std, wI, len_eK, len_eB, len_eNd, len_eLNd, len_eFc, len_eAb, len_eBd, len_eEd, len_eLBd, Classical.not_not, decide_eq_true_eq, decide_eq_false_iff_not, beq_iff_eq, beq_eq_false_iff_ne, ne_eq, Bool.not_eq_true', Bool.not_eq_false', gt_iff_lt, ge_iff_le, Int.not_lt, Int.not_le] at hb) <;> (try (exfalso; first | contradiction | omega | exact hb rfl)))
                   | (refine Den.fetchXFc ho ?_ ?_ (fun y hy => ?_); rotate_left 2; rcases y with ⟨yk, yn, yc, yvk, yvn, yvc⟩)
                   | (refine Den.need ?_ ?_)
                   | (refine Den.app1 ?_ (fun t' tk' hl' => ?_))
                   | (refine iha _ _ ?_ ⟨_, _, _, _, by subst ho; rfl, ?_, ?_, ?_, Nat.le_refl _⟩)
                   | (refine Den.done ⟨by first | exact Or.inl rfl | exact Or.inr rfl, ?_⟩; (conv => lhs; cbv); refine congrArg some ?_))
              | ((fail_if_success (refine Den.id ?_))
                 first
                   | (exact Lv.nil)
                   | (subst ho; exact hla0)
                   | (subst ho; refine congrArg (D.sl Tok.ro 3) (congrArg eAb ?_); first | exact vals_endG i1 i2 h0 i3 (.inl (by omega)) | exact vals_endG i1 i2 h0 i3 (.inr ⟨by omega, fun hh => by rw [hy] at hh; obtain ⟨q1, q2, q3⟩ := hh; dsimp only at q1 q2 q3; omega⟩))
                   | (subst hv; subst ho; exact ⟨(vals_startG h0 (lowI h1)).1, (vals_startG h0 (lowI h1)).2.1, (vals_startG h0 (lowI h1)).2.2.2⟩)
                   | (subst hv; subst ho; exact congrArg eAb (vals_startG h0 (lowI h1)).2.2.1)
                   | (subst ho; have hl := len_vals (l.take a10.toNat) k n c; simp [std, len_eAb]; simp at hl; omega)
                   | (subst ho; refine push_eAb (x := ⟨yvk, yvn, yvc⟩) ?_; simp (disch := omega) only [std, wI]; rw [vals_take_succ i1 (by omega), hy, if_pos (by simp_all [hasKey])])
                   | (subst ho; simp (disch := omega) only [std, wI]; refine ⟨by omega, by omega, fun j hj hk => i3 j hj (by omega)⟩)
                   | (subst ho; simpa [std, len_eFc, len_eNd, len_eBd, len_eAb, len_eLBd, len_eK, len_eB] using hl')
                   | (subst ho; simp (disch := omega) only [std, wI, tdiv2, tdivN, len_eFc, len_eNd, len_eBd, len_eAb, len_eLBd, len_eK, len_eB] <;> first | done | rfl | omega)))))
    | ((fail_if_success (refine Den.id ?_))
       first
         | assumption))
theorem impl_startOf.ans {xa xb : Option (List D → Option D)} (o : Std) (ho : o = std) (l : List Nd) (i : Int) (h0 : Downs l) (h1 : 0 ≤ i ∧ i < l.length) : Ans (env xa xb) 248 [.sl .ro 7 (o.bx fun _ => eNd l), .int .i64 i] (.int .i64 (startM l i)) := by
  refine Ans.mkA ho _ rfl rfl ?_
  repeat' (first
    | (refine Den.id ?_
       (try (conv => arg 2; cbv))
       first
         | (refine Den.indF (fun m_ s_ => ∃ (a1 : Int) (tk : List Nat), s_ = ⟨[.sl .ro 7 (o.bx fun _ => eNd l), .int .i64 a1] ++ List.replicate 16 .junk, [], [], tk⟩ ∧ (0 ≤ a1 ∧ a1 < l.length ∧ startM l a1 = startM l i) ∧ a1.toNat ≤ m_) _ _ ⟨_, _, by subst ho; rfl, ?_, Nat.le_refl _⟩ ?_
            rotate_right
            rintro m_ _ ⟨a1, tk, rfl, hIa, hka⟩ iha
            obtain ⟨i1, i2, i3⟩ := hIa; refine Den.unloopA ho ?_
            repeat' (first
              | (refine Den.id ?_
                 (try (conv => arg 2; cbv))
                 first
                   | (refine Den.test (fun hr => ?_) (fun hr => ?_) <;> (have hb := hr) <;> (try simp (disch := omega) only [ho, std, wI, len_eK, len_eB, len_eNd, len_eLNd, len_eFc, len_eAb, len_eBd, len_eEd, len_eLBd, Classical.not_not, decide_eq_true_eq, decide_eq_false_iff_not, beq_iff_eq, beq_eq_false_iff_ne, ne_eq, Bool.not_eq_true', Bool.not_eq_false', gt_iff_lt, ge_iff_le, Int.not_lt, Int.not_le] at hb) <;> (try (exfalso; first | contradiction | omega | exact hb rfl)))
                   | (refine Den.pcallE (β := Int) (fun v => .int .i64 v) (as' := [.int .i64 _]) (by first | with_reducible rfl | (subst ho; rfl)) (impl_Arity.ans o ho _) ?_; rotate_left 0; rintro v hv)
                   | (refine Den.fetchYNd ho ?_ ?_ (by with_reducible assumption) ?_)
                   | (refine Den.fetchXNd ho ?_ ?_ (fun y hy => ?_); rotate_left 2; rcases y with ⟨y0, y1, y2, y3, y4, y5, y6⟩; (have hd := h0 _ i1 i2); rw [hy] at hd; dsimp only at hd)
                   | (refine iha _ _ ?_ ⟨_, _, by subst ho; rfl, ?_, Nat.le_refl _⟩)
                   | (refine Den.done ⟨by first | exact Or.inl rfl | exact Or.inr rfl, ?_⟩; (conv => lhs; cbv); refine congrArg some ?_))
              | ((fail_if_success (refine Den.id ?_))
                 first
                   | (refine dI ?_; rw [← i3, startM_base (by rw [hy]; dsimp only; omega)])
                   | (have hd2 := hd (by omega); refine ⟨by omega, by omega, ?_⟩; rw [← i3]; exact (startM_step h0 i1 i2 hy (by dsimp only; omega)).symm)
                   | assumption
                   | omega))))
    | ((fail_if_success (refine Den.id ?_))
       first
         | fail))
theorem impl_bodyOf.ans {xa xb : Option (List D → Option D)} (o : Std) (ho : o = std) (l : List Nd) (f : Int) (h0 : Downs l) (h1 : 0 ≤ f ∧ f < l.length) (h2 : 0 < arityM (rN l f).f0) : Ans (env xa xb) 235 [.sl .ro 7 (o.bx fun _ => eNd l), .int .i64 f] (.tup [.int .i64 ((startM l (rN l f).f1, (rN l f).f1)).1, .int .i64 ((startM l (rN l f).f1, (rN l f).f1)).2]) := by
  refine Ans.mkA ho _ rfl rfl ?_
  repeat' (first
    | (refine Den.id ?_
       (try (conv => arg 2; cbv))
       first
         | (refine Den.pcallE (β := Int) (fun v => .int .i64 v) (as' := [.sl .ro 7 (o.bx fun _ => eNd _), .int .i64 _]) (by first | with_reducible rfl | (subst ho; rfl)) (impl_startOf.ans o ho _ _ ?_ ?_) ?_; rotate_left 2; rintro v hv)
         | (refine Den.fetchYNd ho ?_ ?_ (by with_reducible assumption) ?_)
         | (refine Den.fetchXNd ho ?_ ?_ (fun y hy => ?_); rotate_left 2; rcases y with ⟨y0, y1, y2, y3, y4, y5, y6⟩)
         | (refine Den.needD ho (by kernel_rfl) ?_)
         | (refine Den.done ⟨by first | exact Or.inl rfl | exact Or.inr rfl, ?_⟩; (conv => lhs; cbv); refine congrArg some ?_))
    | ((fail_if_success (refine Den.id ?_))
       first
         | (have hd := h0 _ h1.1 h1.2 h2; rw [hy] at hd; dsimp only at hd; omega)
         | (subst hv; rw [hy])
         | omega))
end Go.Mach
end
