/- What the statements share: part 30 of a proof by an executable machine over the program's code. -/
import Derived.Test.YtljpfhpcbfpooaaGreatDoorMc29
import Derived.Deep.Slices
import Derived.Deep.Fields
import Derived.ChangeSame
import Derived.SizedLaws
import Derived.Test.YtljpfhpcbfpooaaGreatDoorRows
import Derived.WalkKit
import Derived.ProofKit
import Derived.OpenShut
import Derived.ShutString
import Derived.ChangeOld
import Derived.Below
import Derived.Lib.SmallJoins
import Derived.Test.YtljpfhpcbfpooaaGreatDoorTie
import Derived.Test.YtljpfhpcbfpooaaGreatDoorCards
import Derived.LaidMore
import Derived.Lay
import Derived.SevenTiedAt
import Derived.Stop.Joined
set_option linter.unusedVariables false
set_option linter.unusedSimpArgs false
set_option maxRecDepth 100000
set_option maxHeartbeats 6000000
namespace Go.Mach
open Go Go.RowKit Go.Proofs
theorem impl_SolveFrom.ans {ga gb : List D → Option D} (o : Std) (ho : o = std) (l : List Nd) (dp : Int) (h0 : PassSpec ga) (h1 : FreeSpec gb) (h2 : Sz l) (h3 : l.length ≤ 1048576) : Ans (env (some ga) (some gb)) 57 [rNd o l, iX dp, .sl .nw 0 []] (.tup [.sl .nw 6 (o.bx fun _ => eFc (solveR l dp).1), .bool (solveR l dp).2]) := by
 refine Ans.mkA ho _ rfl rfl ?_
 repeat' (first
  | (refine .id ?_
     (try (conv => arg 2; cbv))
     first
      | (refine .pP (as' := [rNd o _, iX _, .sl .nw 0 []]) (impl_solve.ans o ho _ _ ?_ ?_ ?_ ?_) ?_; rotate_left 4; rintro _ ⟨rq, nq, rfl, hv⟩)
      | (refine .fin ?_; (conv => lhs; cbv) <;> refine congrArg some ?_))
  | ((fail_if_success (refine .id ?_))
     first
      | (rw [hv])
      | assumption))
theorem impl_Solve.ans {ga gb : List D → Option D} (o : Std) (ho : o = std) (l : List Nd) (dp : Int) (h0 : PassSpec ga) (h1 : FreeSpec gb) (h2 : Sz l) (h3 : l.length ≤ 1048576) : Ans (env (some ga) (some gb)) 12 [rNd o l, iX dp] (.tup [.sl .nw 6 (o.bx fun _ => eFc (solveR l dp).1), .bool (solveR l dp).2]) := by
 refine Ans.mkA ho _ rfl rfl ?_
 repeat' (first
  | (refine .id ?_
     (try (conv => arg 2; cbv))
     first
      | (refine .pE (β := (List Fc) × Bool) (fun v => .tup [.sl .nw 6 (o.bx fun _ => eFc v.1), .bool v.2]) (as' := [rNd o _, iX _, .sl .nw 0 []]) (impl_SolveFrom.ans o ho _ _ ?_ ?_ ?_ ?_) ?_; rotate_left 4; rintro ⟨v0, (_ | _)⟩ hv <;> (try simp only [dE] at hv) <;> (try first | contradiction | exact bX hv))
      | (refine .fin ?_; (conv => lhs; cbv) <;> refine congrArg some ?_))
  | ((fail_if_success (refine .id ?_))
     first
      | (rw [hv])
      | assumption))
theorem impl_MayRaise.ans {ga gb : List D → Option D} (o : Std) (ho : o = std) (l : List Nd) (dp : Int) (h0 : PassSpec ga) (h1 : FreeSpec gb) (h2 : Sz l) (h3 : l.length ≤ 1048576) : Ans (env (some ga) (some gb)) 34 [rNd o l, iX dp] (.bool (mayM l dp)) := by
 refine Ans.mkA ho _ rfl rfl ?_
 repeat' (first
  | (refine .id ?_
     (try (conv => arg 2; cbv))
     first
      | refine .t1 ?_
      | refine .t0 ?_
      | refine .tN1 ho ?_
      | refine .tN0 ho ?_
      | (refine .test (fun hr => ?_) (fun hr => ?_) <;> (have hb := hr) <;> (try simp (disch := omega) only [ho, std, wI, lenE, nrm] at hb) <;> (try (exfalso; first | contradiction | omega | exact hb rfl)))
      | (refine .pE (β := (List Fc) × Bool) (fun v => .tup [.sl .nw 6 (o.bx fun _ => eFc v.1), .bool v.2]) (as' := [rNd o _, iX _]) (impl_Solve.ans o ho _ _ ?_ ?_ ?_ ?_) ?_; rotate_left 4; rintro ⟨v0, (_ | _)⟩ hv <;> (try simp only [dE] at hv) <;> (try first | contradiction | exact bX hv) <;> (try have hsf := solveR_fit hv))
      | (refine .pE (β := Bool) .bool (as' := [rFc o _, .agg [iX _, iX _, iX _, iX _, iX _, iX _]]) (impl_has.ans o ho _ _ _ _ _ _ _ ?_ ?_) ?_; rotate_left 2; rintro (_ | _) hv <;> (try simp only [dE] at hv) <;> (try first | contradiction | exact bX hv))
      | (refine .fin ?_; (conv => lhs; cbv) <;> refine congrArg some ?_))
  | ((fail_if_success (refine .id ?_))
     first
      | (exact hsf.1)
      | (refine dB ?_; exact may_no (by assumption))
      | (refine dB ?_; exact may_yesI (by assumption) (by subst ho; simp (disch := omega) only [std, wI, len_eNd] at hv; first | exact decide_eq_true hv | exact decide_eq_false hv))
      | assumption
      | (subst ho; simp [std, lenE]; omega)))
section
theorem env_okA : EnvOk Tryz.prog (env (some gPass) (some gFree)) := env_ok (fun g h => by cases h; exact pass_ok) (fun g h => by cases h; exact free_ok)
theorem flt_eNd (l : List Nd) : Flt 7 (eNd l) := ⟨by decide, fun e he => by
 simp only [eNd, List.mem_map] at he; obtain ⟨x, _, rfl⟩ := he
 refine ⟨rfl, fun c hc => ?_⟩
 simp only [cNd, List.mem_cons, List.not_mem_nil, or_false] at hc
 rcases hc with rfl | rfl | rfl | rfl | rfl | rfl | rfl <;> rfl⟩
theorem flt_eK (l : List Int) : Flt 1 (eK .i64 l) := ⟨by decide, fun e he => by
 simp only [eK, List.mem_map] at he; obtain ⟨x, _, rfl⟩ := he
 refine ⟨rfl, fun c hc => ?_⟩
 simp only [List.mem_cons, List.not_mem_nil, or_false] at hc
 subst hc; rfl⟩
variable {w : World} {lo hi lo' hi' : Nat} {v v' : Value} {a : List Nd}
theorem args1 {da : D} (h : Arg w da v) : ∀ i, i < [da].length → Arg w ([da].getD i .junk) ((#[v] : Array Value).getD i undef) := fun i hi => by
 match i, hi with
 | 0, _ => exact h
theorem args2 {da db : D} (h : Arg w da v) (h' : Arg w db v') : ∀ i, i < [da, db].length → Arg w ([da, db].getD i .junk) ((#[v, v'] : Array Value).getD i undef) := fun i hi => by
 match i, hi with
 | 0, _ => exact h
 | 1, _ => exact h'
theorem args3 {da db dc : D} {v'' : Value} (h : Arg w da v) (h' : Arg w db v') (h'' : Arg w dc v'') : ∀ i, i < [da, db, dc].length → Arg w ([da, db, dc].getD i .junk) ((#[v, v', v''] : Array Value).getD i undef) := fun i hi => by
 match i, hi with
 | 0, _ => exact h
 | 1, _ => exact h'
 | 2, _ => exact h''
theorem k_sz (hB : Bg a) (hv : Row lo hi w 7 (eNd a) v) (hh : hi ≤ w.heap.size) : Calls Tryz.prog 38 #[v, .int .i64 1048576] w fun e w' => ∃ r, e = .returned (.int .i64 r) ∧ (0 ≤ r → SzL a) ∧ Stay w w' := by
 obtain ⟨d, ⟨r, rfl, hr⟩, hans⟩ := (laws_szNodeS.ans (xa := some gPass) (xb := some gFree) std rfl a 1048576 rfl hB).ex
 refine (int_calls env_okA hans rfl (args2 (.row hv hh (flt_eNd a)) .int)).mono ?_
 rintro e w' ⟨rfl, hs⟩
 exact ⟨r, rfl, hr, hs⟩
theorem k_to (hz : SzL a) (hv : Row lo hi w 7 (eNd a) v) (hh : hi ≤ w.heap.size) : Calls Tryz.prog 40 #[v] w fun e w' => ∃ v', e = .returned v' ∧ Row w.heap.size w'.heap.size w' 7 (eNd a) v' ∧ Unf w' 7 (eNd a) v' ∧ Stay w w' :=
 new_calls env_okA (laws_toNodeS.ans (xa := some gPass) (xb := some gFree) std rfl a hz) (flt_eNd a) rfl (args1 (.row hv hh (flt_eNd a)))
theorem k_eqN (hz : SzL a) (hv : Row lo hi w 7 (eNd a) v) (hh : hi ≤ w.heap.size) (hv' : Row lo' hi' w 7 (eNd a) v') (hh' : hi' ≤ w.heap.size) : Calls Tryz.prog 43 #[v, v'] w fun e w' => e = .returned (.bool true) ∧ Stay w w' :=
 bool_calls env_okA (laws_eqNodeS.ans (xa := some gPass) (xb := some gFree) std rfl a a rfl (by have := hz.1; omega)) rfl (args2 (.row hv hh (flt_eNd a)) (.row hv' hh' (flt_eNd a)))
theorem k_markN (hz : SzL a) (hv : Row lo hi w 7 (eNd a) v) (hu : Unf w 7 (eNd a) v) (hh : hi ≤ w.heap.size) : Calls Tryz.prog 44 #[v, .int .i64 1] w fun e w' => ∃ k, e = .returned (.int .i64 k) ∧ 1 ≤ k ∧ Mark lo hi w w' := by
 have hl : (eNd a).length = a.length := len_eNd a
 have hz1 := hz.1
 refine (mark_calls env_okA (k := 1) (kr := 1 + 7 * a.length) (R := fun bx => ∃ m : List Nd, bx = eNd m ∧ m.length = a.length) (laws_markNodeS_0.ans (xa := some gPass) (xb := some gFree) std rfl [] 1 rfl) (fun he => ?_) (fun _ => ?_) (flt_eNd a) ?_ hv hu hh).mono ?_
 · have : a.length = 0 := by rw [← hl, he]; rfl
   exact ⟨by omega, [], rfl, by rw [this]; rfl⟩
 · rw [hl]
   exact laws_markNodeS.mark (xa := some gPass) (xb := some gFree) std rfl 1 a a.length rfl (by omega) (by decide)
 · rintro bx ⟨m, rfl, hm⟩
   exact ⟨flt_eNd m, by rw [len_eNd, hl, hm]⟩
 · rintro e w' ⟨bx, _, rfl, _, hm⟩
   exact ⟨_, rfl, by omega, hm⟩
theorem k_eqI {l : List Int} (hl : l.length ≤ 1048576) (hv : Row lo hi w 1 (eK .i64 l) v) (hh : hi ≤ w.heap.size) (hv' : Row lo' hi' w 1 (eK .i64 l) v') (hh' : hi' ≤ w.heap.size) : Calls Tryz.prog 42 #[v, v'] w fun e w' => e = .returned (.bool true) ∧ Stay w w' :=
 bool_calls env_okA (laws_eqIntS.ans (xa := some gPass) (xb := some gFree) std rfl l l rfl hl) rfl (args2 (.row hv hh (flt_eK l)) (.row hv' hh' (flt_eK l)))
theorem k_markI {l : List Int} (hl : l.length ≤ 1048576) (hv : Row lo hi w 1 (eK .i64 l) v) (hu : Unf w 1 (eK .i64 l) v) (hh : hi ≤ w.heap.size) : Calls Tryz.prog 45 #[v, .int .i64 1] w fun e w' => ∃ k, e = .returned (.int .i64 k) ∧ k = 1 + l.length ∧ Row lo hi w' 1 (eK .i64 (rowI 1 l.length)) v ∧ Mark lo hi w w' := by
 have hlk : (eK .i64 l).length = l.length := len_eK _ l
 refine (mark_calls env_okA (k := 1) (kr := 1 + l.length) (R := fun bx => bx = eK .i64 (rowI 1 l.length)) (laws_markIntS_0.ans (xa := some gPass) (xb := some gFree) std rfl [] 1 rfl) (fun he => ?_) (fun _ => ?_) (flt_eK l) ?_ hv hu hh).mono ?_
 · have : l.length = 0 := by rw [← hlk, he]; rfl
   exact ⟨by omega, by rw [this]; rfl⟩
 · rw [hlk]
   exact laws_markIntS.mark (xa := some gPass) (xb := some gFree) std rfl 1 l l.length rfl (by omega) (by decide)
 · rintro bx rfl
   exact ⟨flt_eK _, by rw [len_eK, hlk, rowI_len]⟩
 · rintro e w' ⟨bx, rfl, rfl, hr, hm⟩
   exact ⟨_, rfl, rfl, hr, hm⟩
theorem k_heldI {n : Nat} (hn : n ≤ 1048576) (hv : Row lo hi w 1 (eK .i64 (rowI 1 n)) v) (hh : hi ≤ w.heap.size) : Calls Tryz.prog 46 #[v, .int .i64 1] w fun e w' => ∃ k, e = .returned (.int .i64 k) ∧ k = 1 + n ∧ Stay w w' := by
 have hl := rowI_len 1 n
 refine (int_calls env_okA (laws_heldIntS.ans (xa := some gPass) (xb := some gFree) std rfl (rowI 1 n) 1 (by rw [hl]) (by omega) (by decide)) rfl (args2 (.row hv hh (flt_eK _)) .int)).mono ?_
 rintro e w' ⟨rfl, hs⟩
 exact ⟨_, rfl, by rw [hl], hs⟩
end
end Go.Mach
namespace Go.Mach.Open
open Go.ChangeShapes Go.WideShapes Go.Deep
section
variable {H : Type} {enc : TypeId × Value → H} {P : Program} {w : World} {base : Nat} {spare : Nat → Bool} {held : Bool}
theorem open_slice_fields {t e : TypeId} {fs : Array Field} {fuel : Nat} {cs : List Value} {x : DataW H × List MemPlace} (ht : P.underlying t = some (.slice e)) (he : P.underlying e = some (.struct fs))
  (hone : oneCellFields P fs = true) (hC : P.cellsOf e = fs.size) (h : DataW.trod enc P w base spare held fuel t cs = some x) :
  (cs = [.slice none 0 0] ∧ x = (.nil, [])) ∨
  ∃ (a : Addr) (len cap m : Nat) (D : Nat → DataW H) (Pl : Nat → List MemPlace), cs = [.slice (some a) len cap] ∧ base ≤ a.block ∧ len ≤ cap ∧ cap ≤ maxLen ∧ m = (if spare a.block then cap else len) ∧
   x = (.slice ((List.range len).map D) ((List.range (m - len)).map fun j => D (len + j)), MemPlace.row a (m * fs.size) ++ (List.range m).flatMap Pl) ∧
   ∀ i, i < m → ∃ (ys : List (DataW H × List MemPlace)) (n : Nat), D i = .agg (ys.map (·.1)) ∧ Pl i = ys.flatMap (·.2) ∧ ys.length = fs.size ∧
    ∀ (j : Nat) (f : Field), fs[j]? = some f → ∃ (v : Value) (y : DataW H × List MemPlace), w.cell? (a.add (i * fs.size + j)) = some v ∧ ys[j]? = some y ∧ DataW.trod enc P w base spare held n f.type [v] = some y := by
 rcases open_slice ht h with h0 | ⟨a, len, cap, m, n, D, Pl, hcs, hb, hl, hm, hmm, hx, hi⟩
 ·exact .inl h0
 ·refine .inr ⟨a, len, cap, m, D, Pl, hcs, hb, hl, hm, hmm, by rw [hC] at hx; exact hx, fun i him => ?_⟩
  obtain ⟨cs', hc, ht'⟩ := hi i him
  rw [hC] at hc
  obtain ⟨ys, n', hn', hy, hlen, hyl, hf⟩ := DataW.trod_struct he ht'
  obtain ⟨_, hcl, hat⟩ := World.cells?_some hc
  simp only [Prod.mk.injEq] at hy
  refine ⟨ys, n', hy.1, hy.2, hyl, fun j f hj => ?_⟩
  obtain ⟨ho, hk⟩ := hone_of hone j f hj
  have hjl : j < fs.size := (Array.getElem?_eq_some_iff.1 hj).1
  have hcell := hat j hjl
  have hv : cs'[j]? = some (cs'[j]'(by omega)) := List.getElem?_eq_getElem (by omega)
  have h1 := hf j f hj
  rw [ho, hk] at h1
  have hone' : (cs'.drop j).take 1 = [cs'[j]'(by omega)] := by
   rw [List.drop_eq_getElem_cons (by omega)]
   rfl
  rw [hone'] at h1
  have hys : ys[j]? = some (ys[j]'(by omega)) := List.getElem?_eq_getElem (by omega)
  refine ⟨_, _, ?_, hys, h1.trans hys⟩
  rw [← Go.Deep.add_add, hcell, hv]
theorem list_of {α : Type} (Q : Nat → α → Prop) : ∀ n : Nat, (∀ i, i < n → ∃ x, Q i x) → ∃ l : List α, l.length = n ∧ ∀ i x, l[i]? = some x → Q i x := by
 intro n
 induction n with
 | zero => intro _; exact ⟨[], rfl, fun i x h => by simp at h⟩
 | succ n ih =>
  intro h
  obtain ⟨l, hl, hq⟩ := ih (fun i hi => h i (by omega))
  obtain ⟨x, hx⟩ := h n (by omega)
  refine ⟨l ++ [x], by simp [hl], fun i y hy => ?_⟩
  rw [List.getElem?_append] at hy
  split at hy
  ·exact hq i y hy
  ·rename_i hi
   have : i = n := by
    have := (List.getElem?_eq_some_iff.1 hy).1
    rw [List.length_singleton] at this; omega
   subst this
   rw [hl] at hy; simp at hy; subst hy; exact hx
end
end Go.Mach.Open
namespace Go.Mach
open Go Go.RowKit Go.Proofs Go.ChangeShapes Go.WideShapes Go.ChangeAt Go.Deep
def ndV (x : Nd) : List Value := [.int .i64 x.f0, .int .i64 x.f1, .int .i64 x.f2, .int .i64 x.f3, .int .i64 x.f4, .string x.f5, .string x.f6]
section
variable {H : Type} {enc : TypeId × Value → H} {w : World} {base : Nat} {spare : Nat → Bool} {held : Bool}
theorem nd_fits {fs : Array Field} (he : Tryz.prog.underlying 97 = some (.struct fs)) (ys : List (DataW H × List MemPlace)) (n : Nat) (cell : Nat → Option Value)
  (hj : ∀ (j : Nat) (f : Field), fs[j]? = some f → ∃ (v : Value) (y : DataW H × List MemPlace), cell j = some v ∧ ys[j]? = some y ∧ DataW.trod enc Tryz.prog w base spare held n f.type [v] = some y) :
  ∃ x : Nd, (x.f5.size ≤ maxLen ∧ x.f6.size ≤ maxLen) ∧ ∀ j u, (ndV x)[j]? = some u → cell j = some u := by
 rw [Tryz.underlying97] at he
 obtain rfl := (TypeDesc.struct.inj (Option.some.inj he)).symm
 obtain ⟨v0, y0, c0, _, t0⟩ := hj 0 _ rfl
 obtain ⟨x0, e0, _, w0⟩ := DataW.trod_int Tryz.underlying3 t0
 obtain rfl := (List.cons.inj e0).1
 obtain ⟨v1, y1, c1, _, t1⟩ := hj 1 _ rfl
 obtain ⟨x1, e1, _, w1⟩ := DataW.trod_int Tryz.underlying3 t1
 obtain rfl := (List.cons.inj e1).1
 obtain ⟨v2, y2, c2, _, t2⟩ := hj 2 _ rfl
 obtain ⟨x2, e2, _, w2⟩ := DataW.trod_int Tryz.underlying3 t2
 obtain rfl := (List.cons.inj e2).1
 obtain ⟨v3, y3, c3, _, t3⟩ := hj 3 _ rfl
 obtain ⟨x3, e3, _, w3⟩ := DataW.trod_int Tryz.underlying3 t3
 obtain rfl := (List.cons.inj e3).1
 obtain ⟨v4, y4, c4, _, t4⟩ := hj 4 _ rfl
 obtain ⟨x4, e4, _, w4⟩ := DataW.trod_int Tryz.underlying3 t4
 obtain rfl := (List.cons.inj e4).1
 obtain ⟨v5, y5, c5, _, t5⟩ := hj 5 _ rfl
 obtain ⟨x5, e5, _, w5⟩ := DataW.trod_string Tryz.underlying9 t5
 obtain rfl := (List.cons.inj e5).1
 obtain ⟨v6, y6, c6, _, t6⟩ := hj 6 _ rfl
 obtain ⟨x6, e6, _, w6⟩ := DataW.trod_string Tryz.underlying9 t6
 obtain rfl := (List.cons.inj e6).1
 refine ⟨⟨x0, x1, x2, x3, x4, x5, x6⟩, ⟨w5, w6⟩, fun j u hu => ?_⟩
 match j, hu with
 | 0, hu => obtain rfl := Option.some.inj hu; exact c0
 | 1, hu => obtain rfl := Option.some.inj hu; exact c1
 | 2, hu => obtain rfl := Option.some.inj hu; exact c2
 | 3, hu => obtain rfl := Option.some.inj hu; exact c3
 | 4, hu => obtain rfl := Option.some.inj hu; exact c4
 | 5, hu => obtain rfl := Option.some.inj hu; exact c5
 | 6, hu => obtain rfl := Option.some.inj hu; exact c6
 | j + 7, hu => simp [ndV] at hu
theorem open_nodes {a : Option Addr} {len cap : Nat} {dd : DataW H} {ps : List MemPlace} (h : DataW.Trod enc Tryz.prog w base spare held 63 (.slice a len cap) dd ps) :
  ∃ l : List Nd, len = l.length ∧ l.length ≤ maxLen ∧ (∀ x ∈ l, x.f5.size ≤ maxLen ∧ x.f6.size ≤ maxLen) ∧ (a = none ∧ l = [] ∧ cap = 0 ∨ ∃ A, a = some A ∧ l.length ≤ cap ∧ ∀ i x, l[i]? = some x → ∀ j u, (ndV x)[j]? = some u → w.cell? (A.add (i * 7 + j)) = some u) := by
 obtain ⟨fuel, hf⟩ := h
 have hs : (Tryz.prog.fieldsOf 97).size = 7 := by kernel_rfl
 rcases Open.open_slice_fields (fs := Tryz.prog.fieldsOf 97) Tryz.underlying63 (by kernel_rfl) (by kernel_rfl) (by kernel_rfl) hf with ⟨hcs, _⟩ | ⟨A, l, c, m, D, Pl, hcs, _, hl, hm, hmm, hx, hi⟩
 · simp [Value.cells] at hcs
   obtain ⟨rfl, rfl, rfl⟩ := hcs
   exact ⟨[], rfl, by simp, by simp, .inl ⟨rfl, rfl, rfl⟩⟩
 · simp [Value.cells] at hcs
   obtain ⟨rfl, rfl, rfl⟩ := hcs
   have hlm : len ≤ m := by rw [hmm]; split <;> omega
   rw [hs] at hi
   obtain ⟨xs, hxl, hxq⟩ := Open.list_of (fun i (x : Nd) => (x.f5.size ≤ maxLen ∧ x.f6.size ≤ maxLen) ∧ ∀ j u, (ndV x)[j]? = some u → w.cell? (A.add (i * 7 + j)) = some u) len (fun i hil => by
    obtain ⟨ys, n, _, _, _, hj⟩ := hi i (by omega)
    exact nd_fits (fs := Tryz.prog.fieldsOf 97) (by kernel_rfl) ys n (fun j => w.cell? (A.add (i * 7 + j))) hj)
   refine ⟨xs, hxl.symm, by omega, fun x hx2 => ?_, .inr ⟨A, rfl, by omega, fun i x hx2 => (hxq i x hx2).2⟩⟩
   obtain ⟨i, hi2, e2⟩ := List.mem_iff_getElem.1 hx2
   exact (hxq i x (by rw [List.getElem?_eq_getElem hi2, e2])).1
end
theorem rd_nodes {w : World} {a : Option Addr} {cap : Nat} {l : List Nd} (hsp : ∀ A, a = some A → A.spot = none) (h : a = none ∧ l = [] ∧ cap = 0 ∨ ∃ A, a = some A ∧ l.length ≤ cap ∧ ∀ i x, l[i]? = some x → ∀ j u, (ndV x)[j]? = some u → w.cell? (A.add (i * 7 + j)) = some u) :
  ∃ σ : Nat → Nat, RD σ w (.sl .ro 7 (eNd l)) (.slice a l.length cap) ∧ ∀ b, w.heap.size ≤ b → σ b = 0 := by
 rcases h with ⟨rfl, rfl, rfl⟩ | ⟨A, rfl, hc, hcell⟩
 · exact ⟨fun _ => 0, .slN _ _, fun _ _ => rfl⟩
 · obtain ⟨b, o, s⟩ := A
   obtain rfl : s = none := hsp _ rfl
   have hk : (eNd l).length = l.length := by simp [eNd]
   have hbs : 0 < l.length → b < w.heap.size := fun h0 => by
    have := hcell 0 l[0] (List.getElem?_eq_getElem h0) 0 _ rfl
    rcases Nat.lt_or_ge b w.heap.size with h | h
    · exact h
    · unfold World.cell? at this
      rw [show (Addr.add ⟨b, o, none⟩ (0 * 7 + 0)).block = b from rfl, Array.getElem?_eq_none h] at this
      cases this
   refine ⟨fun k => if k = b ∧ 0 < l.length then o + l.length * 7 else 0, ?_, fun k hkb => ?_⟩
   · rw [← hk]
     refine .sl _ _ (eNd l) b o cap (fun i j => (ndV (l.getD i zNd)).getD j undef) (by decide) (by decide) ?_ ?_ (by rw [hk]; exact hc) (fun h0 => ?_) (fun i j hi hj => ?_) (fun i j hi hj => ?_)
     · intro e he; simp only [eNd, List.mem_map] at he; obtain ⟨x, _, rfl⟩ := he; rfl
     · intro e he; simp only [eNd, List.mem_map] at he; obtain ⟨x, _, rfl⟩ := he
       intro c hc; simp only [cNd, List.mem_cons, List.not_mem_nil, or_false] at hc
       rcases hc with rfl | rfl | rfl | rfl | rfl | rfl | rfl <;> rfl
     · have h1 : 0 < l.length := by
         rcases Nat.eq_zero_or_pos l.length with h | h
         · exact absurd (List.eq_nil_of_length_eq_zero (by rw [hk]; exact h)) h0
         · exact h
       show _ ≤ (if b = b ∧ _ then _ else _)
       rw [if_pos ⟨rfl, by rw [hk]; exact h1⟩]; exact Nat.le_refl _
     · rw [hk] at hi
       have h1 : l.getD i zNd = l[i] := by simp [hi]
       have h2 := hcell i l[i] (List.getElem?_eq_getElem hi) j ((ndV l[i]).getD j undef) (by
        rw [List.getD_eq_getElem?_getD, List.getElem?_eq_getElem (show j < (ndV l[i]).length from hj)]; rfl)
       rw [h1, ← h2]
       rw [Addr.add_lit]; congr 2; omega
     · rw [hk] at hi
       have h1 : l.getD i zNd = l[i] := by simp [hi]
       have h3 : (eNd l).getD i [] = cNd l[i] := by simp [eNd, hi]
       rw [h1, h3]
       match j, hj with
       | 0, _ => exact .int _ _
       | 1, _ => exact .int _ _
       | 2, _ => exact .int _ _
       | 3, _ => exact .int _ _
       | 4, _ => exact .int _ _
       | 5, _ => exact .str _
       | 6, _ => exact .str _
   · show (if k = b ∧ _ then _ else _) = 0
     rw [if_neg]
     rintro ⟨rfl, h0⟩
     have := hbs h0; omega
end Go.Mach
