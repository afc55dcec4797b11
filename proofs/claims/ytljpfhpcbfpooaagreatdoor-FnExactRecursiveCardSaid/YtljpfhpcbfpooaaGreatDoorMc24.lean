/- What the statements share: part 24 of a proof by an executable machine over the program's code. -/
import Derived.Test.YtljpfhpcbfpooaaGreatDoorMc23
import Derived.Shelf.Sort.Plain
import Derived.Shelf.Strings.Split
import Derived.Test.YtljpfhpcbfpooaaGreatDoorProg
set_option linter.unusedVariables false
set_option linter.unusedSimpArgs false
set_option maxRecDepth 100000
set_option maxHeartbeats 6000000
namespace Go.Mach
open Go Go.RowKit Go.Proofs
theorem part_int {P : Program} {T : TypeId} {k k' : IntKind} {n : Int} {xs : Array Value} {off : Nat} (h : P.underlying T = some (.int k')) (hx : xs[off]? = some (.int k n)) (w : World) : (Go.part T xs off).run P w = .ok (.int k n) w := by
 unfold Go.part
 simp only [Sem.run_bind, isAgg, run_underlying h, Result.andThen_ok, hx, Sem.run_pure]
 rfl
def intsChk (P : Program) (n : Nat) : List Field → Bool
 | [] => true
 | f :: fs => decide (f.name = "_") == false && (decide (f.offset = n) && ((match P.underlying f.type with | some (.int _) => true | _ => false) && intsChk P (n + 1) fs))
def eqV : List Value → List Value → Bool
 | .int _ a :: x, .int _ b :: y => (a == b) && eqV x y
 | _, _ => true
def allI : List Value → Bool
 | [] => true
 | .int _ _ :: l => allI l
 | _ => false
theorem eqFields_ints {P : Program} (d : Nat) {xs ys : Array Value} (w : World) (more : List Field) : ∀ (fs : List Field) (n : Nat) (us vs : List Value), intsChk P n fs = true → allI us = true → us.length = fs.length → vs.length = fs.length →
  (∀ i, i < fs.length → xs[n + i]? = us[i]? ∧ ys[n + i]? = vs[i]? ∧ ∃ k a b, us[i]? = some (.int k a) ∧ vs[i]? = some (.int k b)) →
  (Op.eqFields (d + 1) xs ys (fs ++ more)).run P w = if eqV us vs then (Op.eqFields (d + 1) xs ys more).run P w else .ok false w := by
 intro fs
 induction fs with
 | nil =>
   intro n us vs _ _ ha hb _
   obtain rfl := List.eq_nil_of_length_eq_zero ha
   obtain rfl := List.eq_nil_of_length_eq_zero hb
   rfl
 | cons f fs ih =>
   intro n us vs hc hal ha hb hx
   cases us with
   | nil => simp at ha
   | cons a us =>
     cases vs with
     | nil => simp at hb
     | cons b vs =>
       simp only [intsChk, Bool.and_eq_true, beq_iff_eq, decide_eq_false_iff_not, decide_eq_true_eq] at hc
       obtain ⟨h1, h2, h3, h4⟩ := hc
       obtain ⟨e1, e2, k, x, y, e3, e4⟩ := hx 0 (by simp)
       simp only [Nat.add_zero, List.getElem?_cons_zero, Option.some.injEq] at e1 e2 e3 e4
       subst e3 e4
       split at h3
       · rename_i k' hk'
         have ih' := ih (n + 1) us vs h4 (by simpa [allI] using hal) (by simpa using ha) (by simpa using hb) (fun i hi => by
          have := hx (i + 1) (by simp; omega)
          rw [show n + 1 + i = n + (i + 1) by omega]
          simpa using this)
         simp only [List.cons_append, Op.eqFields, h1, ne_eq, not_false_eq_true, if_true, Sem.run_bind]
         rw [h2, part_int hk' e1, Result.andThen_ok, part_int hk' e2, Result.andThen_ok, run_equalIn_int w d _ k k' x y hk', Result.andThen_ok]
         by_cases hxy : x = y
         · subst hxy
           simp only [beq_self_eq_true, Bool.not_true, Bool.false_eq_true, if_false, eqV, Bool.true_and]
           exact ih'
         · have : (x == y) = false := by simpa using hxy
           simp only [this, Bool.not_false, if_true, eqV, Bool.false_and, Bool.false_eq_true, if_false, Sem.run_pure]
       · cases h3
def iD (l : List (IntKind × Int)) : List D := l.map fun p => .int p.1 p.2
def iV (l : List (IntKind × Int)) : List Value := l.map fun p => .int p.1 p.2
theorem shape_ints : ∀ (lz : List (IntKind × Int)) (cs : List D), shapeD (iD lz) cs = true → ∃ lc, cs = iD lc ∧ lc.length = lz.length
 | [], cs, h => by
   cases cs with
   | nil => exact ⟨[], rfl, rfl⟩
   | cons c cs => simp [iD, shapeD] at h
 | p :: lz, cs, h => by
   cases cs with
   | nil => simp [iD, shapeD] at h
   | cons c cs =>
     cases c with
     | int k n =>
       have h2 : shapeD (iD lz) cs = true := by
        have : (decide (p.1 = k) && shapeD (iD lz) cs) = true := h
        rw [Bool.and_eq_true] at this; exact this.2
       obtain ⟨lc, rfl, hl⟩ := shape_ints lz cs h2
       exact ⟨(k, n) :: lc, rfl, by simp [hl]⟩
     | _ => simp [iD, shapeD] at h
theorem eqD_ints : ∀ (lc : List (IntKind × Int)) (ds : List D) (v : Bool), eqD (iD lc) ds = some v → ∃ ld, ds = iD ld ∧ ld.length = lc.length ∧ (∀ i (h : i < lc.length) (h2 : i < ld.length), lc[i].1 = ld[i].1) ∧ v = eqV (iV lc) (iV ld)
 | [], ds, v, h => by
   cases ds with
   | nil => simp [iD, eqD] at h; exact ⟨[], rfl, rfl, fun i h => absurd h (by simp), by rw [h]; rfl⟩
   | cons c ds => simp [iD, eqD] at h
 | p :: lc, ds, v, h => by
   cases ds with
   | nil => simp [iD, eqD] at h
   | cons c ds =>
     cases c with
     | int k n =>
       have h1 : (if p.1 = k then (eqD (iD lc) ds).map ((p.2 == n) && ·) else none) = some v := h
       split at h1
       · rename_i hk
         obtain ⟨v', hv', rfl⟩ := Option.map_eq_some_iff.1 h1
         obtain ⟨ld, rfl, hl, hkk, rfl⟩ := eqD_ints lc ds v' hv'
         refine ⟨(k, n) :: ld, rfl, by simp [hl], fun i h h2 => ?_, rfl⟩
         cases i with
         | zero => exact hk
         | succ i => exact hkk i (by simpa using h) (by simpa using h2)
       · cases h1
     | _ => simp [iD, eqD] at h
theorem rd_ints {σ : Nat → Nat} {w : World} {lc : List (IntKind × Int)} {xs : Array Value} (h : RD σ w (.agg (iD lc)) (.agg xs)) : xs.toList = iV lc := by
 cases h with
 | agg _ _ hl hc hh =>
   refine List.ext_getElem (by simp [hl, iD, iV]) fun i h1 h2 => ?_
   have hi : i < lc.length := by simpa [iV] using h2
   have hr := hh i (by simpa [iD] using hi)
   have e1 : (iD lc).getD i .junk = .int lc[i].1 lc[i].2 := by simp [iD, List.getD_eq_getElem?_getD, hi]
   rw [e1] at hr
   have e2 : xs.getD i undef = xs.toList[i] := by
    have : i < xs.size := by simpa using h1
    simp [Array.getD_eq_getD_getElem?, this]
   rw [e2] at hr
   generalize xs.toList[i] = v at hr
   cases hr
   simp [iV]
theorem allI_iV (l : List (IntKind × Int)) : allI (iV l) = true := by
 induction l with
 | nil => rfl
 | cons p l ih => exact ih
theorem flat_run {P : Program} {d : Nat} (w : World) {xs ys : Array Value} {fs more : List Field} {lc ld : List (IntKind × Int)} (hc : intsChk P 0 fs = true) (h1 : lc.length = fs.length) (h2 : ld.length = lc.length) (hk : ∀ i (h : i < lc.length) (h2 : i < ld.length), lc[i].1 = ld[i].1)
  (hx : ∀ i, i < fs.length → xs[i]? = (iV lc)[i]?) (hy : ∀ i, i < fs.length → ys[i]? = (iV ld)[i]?) :
  (Op.eqFields (d + 1) xs ys (fs ++ more)).run P w = if eqV (iV lc) (iV ld) then (Op.eqFields (d + 1) xs ys more).run P w else .ok false w := by
 refine eqFields_ints d w more fs 0 (iV lc) (iV ld) hc (allI_iV _) (by simpa [iV] using h1) (by simpa [iV] using h2.trans h1) fun i hi => ?_
 have a : i < lc.length := by omega
 have b : i < ld.length := by omega
 refine ⟨by rw [Nat.zero_add]; exact hx i hi, by rw [Nat.zero_add]; exact hy i hi, lc[i].1, lc[i].2, ld[i].2, by simp [iV, a], by simp [iV, b, hk i a b]⟩
theorem eqTy_flat {P : Program} {t : TypeId} {fs : List Field} (lz : List (IntKind × Int)) (hg : P.eqGuardType P.depth t = false) (hu : P.underlying t = some (.struct (P.fieldsOf t))) (hp : P.stoodInHeld t = false) (hf : (P.fieldsOf t).toList = fs) (hc : intsChk P 0 fs = true) (hl : lz.length = fs.length) : EqTy P t (iD lz) := by
 refine ⟨hg, fun σ w cs ds xs ys v hs hx hy hv => ?_⟩
 obtain ⟨lc, rfl, h1⟩ := shape_ints _ _ hs
 obtain ⟨ld, rfl, h2, hk, rfl⟩ := eqD_ints _ _ _ hv
 have ex := rd_ints hx
 have ey := rd_ints hy
 show (Op.equalIn (9998 + 1 + 1) t (.agg xs) (.agg ys)).run P w = _
 rw [run_equalIn_struct w (9998 + 1) t xs ys hu hp, hf]
 have := flat_run (P := P) (d := 9998) w (xs := xs) (ys := ys) (more := []) hc (h1.trans hl) h2 hk (fun i _ => by rw [← ex, Array.getElem?_toList]) (fun i _ => by rw [← ey, Array.getElem?_toList])
 rw [List.append_nil] at this
 rw [this]
 cases eqV (iV lc) (iV ld) <;> rfl
theorem part_agg' {P : Program} {T : TypeId} {n : Nat} {xs : Array Value} {off : Nat} (ha : ∀ w, (isAgg T).run P w = .ok true w) (hz : ∀ w, (Go.sizeOf T).run P w = .ok n w) (w : World) : (Go.part T xs off).run P w = .ok (.agg (xs.extract off (off + n))) w := by
 unfold Go.part
 simp only [Sem.run_bind, ha, hz, Result.andThen_ok, if_true, Sem.run_pure]
theorem eqV_app : ∀ (a a' b b' : List Value), a.length = a'.length → allI a = true → allI a' = true → eqV (a ++ b) (a' ++ b') = (eqV a a' && eqV b b')
 | [], a', b, b', h, _, _ => by
   obtain rfl := List.eq_nil_of_length_eq_zero h.symm
   simp [eqV]
 | x :: a, a', b, b', h, h1, h2 => by
   cases a' with
   | nil => simp at h
   | cons y a' =>
     cases x <;> simp [allI] at h1
     cases y <;> simp [allI] at h2
     simp only [List.cons_append, eqV]
     rw [eqV_app a a' b b' (by simpa using h) h1 h2, Bool.and_assoc]
theorem eqTy_nest {P : Program} {t u : TypeId} {fs gs : List Field} {f : Field} {m : Nat} (lz : List (IntKind × Int)) (hg : P.eqGuardType P.depth t = false) (hu : P.underlying t = some (.struct (P.fieldsOf t))) (hp : P.stoodInHeld t = false) (hf : (P.fieldsOf t).toList = fs ++ [f]) (hc : intsChk P 0 fs = true)
  (h1 : decide (f.name = "_") = false) (h2 : f.offset = fs.length) (h3 : f.type = u) (ha : ∀ w, (isAgg u).run P w = .ok true w) (hz : ∀ w, (Go.sizeOf u).run P w = .ok m w) (hu2 : P.underlying u = some (.struct (P.fieldsOf u))) (hp2 : P.stoodInHeld u = false) (hf2 : (P.fieldsOf u).toList = gs) (hc2 : intsChk P 0 gs = true)
  (hm : gs.length = m) (hl : lz.length = fs.length + m) : EqTy P t (iD lz) := by
 refine ⟨hg, fun σ w cs ds xs ys v hs hx hy hv => ?_⟩
 obtain ⟨lc, rfl, e1⟩ := shape_ints _ _ hs
 obtain ⟨ld, rfl, e2, hk, rfl⟩ := eqD_ints _ _ _ hv
 have ex := rd_ints hx
 have ey := rd_ints hy
 have hlc : lc.length = fs.length + m := e1.trans hl
 have hld : ld.length = fs.length + m := e2.trans hlc
 show (Op.equalIn (9997 + 1 + 1 + 1) t (.agg xs) (.agg ys)).run P w = _
 rw [run_equalIn_struct w (9997 + 1 + 1) t xs ys hu hp, hf]
 have hlen : ∀ l : List (IntKind × Int), l.length = fs.length + m → (l.take fs.length).length = fs.length ∧ (l.drop fs.length).length = m := fun l h => by simp [h]
 have gx : ∀ i : Nat, xs[i]? = (iV lc)[i]? := fun i => by rw [← ex, Array.getElem?_toList]
 have gy : ∀ i : Nat, ys[i]? = (iV ld)[i]? := fun i => by rw [← ey, Array.getElem?_toList]
 have tk : ∀ (l : List (IntKind × Int)) (i : Nat), i < fs.length → (iV l)[i]? = (iV (l.take fs.length))[i]? := fun l i hi => by simp [iV, hi]
 rw [flat_run (P := P) (d := 9997 + 1) w (xs := xs) (ys := ys) (more := [f]) (lc := lc.take fs.length) (ld := ld.take fs.length) hc (hlen lc hlc).1 (by rw [(hlen lc hlc).1, (hlen ld hld).1]) (fun i h h2 => by simpa using hk i (by simp at h; omega) (by simp at h2; omega))
  (fun i hi => by rw [gx, tk lc i hi]) (fun i hi => by rw [gy, tk ld i hi])]
 have hsp : eqV (iV lc) (iV ld) = (eqV (iV (lc.take fs.length)) (iV (ld.take fs.length)) && eqV (iV (lc.drop fs.length)) (iV (ld.drop fs.length))) := by
  rw [← eqV_app _ _ _ _ (by simp [iV, hlc, hld]) (allI_iV _) (allI_iV _)]
  congr 1 <;> simp only [iV, ← List.map_append, List.take_append_drop]
 rw [hsp]
 cases eqV (iV (lc.take fs.length)) (iV (ld.take fs.length)) with
 | false => rfl
 | true =>
   rw [if_pos rfl, Bool.true_and]
   have hxe : ∀ (l : List (IntKind × Int)) (zs : Array Value), l.length = fs.length + m → (∀ i : Nat, zs[i]? = (iV l)[i]?) → ∀ i, i < gs.length → (zs.extract fs.length (fs.length + m))[i]? = (iV (l.drop fs.length))[i]? := fun l zs hll hz i hi => by
    rw [hm] at hi
    have hzs : zs.size = fs.length + m := by
     have h1 := hz (fs.length + m)
     have h2 : (iV l)[fs.length + m]? = none := List.getElem?_eq_none (by simp [iV, hll])
     rw [h2] at h1
     have h3 := Array.getElem?_eq_none_iff.1 h1
     have h4 := hz (fs.length + m - 1)
     rw [List.getElem?_eq_getElem (show fs.length + m - 1 < (iV l).length by simp [iV, hll]; omega)] at h4
     have h5 := (Array.getElem?_eq_some_iff.1 h4).1
     omega
    rw [Array.getElem?_extract, if_pos (by omega), hz]
    simp [iV]
   simp only [Op.eqFields, of_decide_eq_false h1, ne_eq, not_false_eq_true, if_true, Sem.run_bind]
   rw [h3, h2, part_agg' ha hz, Result.andThen_ok, part_agg' ha hz, Result.andThen_ok, run_equalIn_struct w (9997 + 1) u _ _ hu2 hp2, hf2]
   have := flat_run (P := P) (d := 9997) w (xs := xs.extract fs.length (fs.length + m)) (ys := ys.extract fs.length (fs.length + m)) (more := []) (lc := lc.drop fs.length) (ld := ld.drop fs.length) hc2 (by rw [(hlen lc hlc).2, hm]) (by rw [(hlen lc hlc).2, (hlen ld hld).2]) (fun i h h2 => by simpa using hk (fs.length + i) (by simp at h; omega) (by simp at h2; omega))
    (hxe lc xs hlc gx) (hxe ld ys hld gy)
   rw [List.append_nil] at this
   rw [this]
   cases eqV (iV (lc.drop fs.length)) (iV (ld.drop fs.length)) <;> simp [Op.eqFields, Result.andThen_ok, Sem.run_pure]
def z3 : List (IntKind × Int) := [(.i64, 0), (.i64, 0), (.i64, 0)]
def z2 : List (IntKind × Int) := [(.i64, 0), (.i64, 0)]
def z6 : List (IntKind × Int) := [(.i64, 0), (.i64, 0), (.i64, 0), (.i64, 0), (.i64, 0), (.i64, 0)]
theorem eq53 : EqTy Tryz.prog 32 (iD z3) := eqTy_flat z3 (by kernel_rfl) (by kernel_rfl) (by kernel_rfl) rfl (by kernel_rfl) (by kernel_rfl)
theorem eq75 : EqTy Tryz.prog 41 (iD z2) := eqTy_flat z2 (by kernel_rfl) (by kernel_rfl) (by kernel_rfl) rfl (by kernel_rfl) (by kernel_rfl)
theorem eq103 : EqTy Tryz.prog 49 (iD z2) := eqTy_flat z2 (by kernel_rfl) (by kernel_rfl) (by kernel_rfl) rfl (by kernel_rfl) (by kernel_rfl)
noncomputable def f55 : List Field := (Tryz.prog.fieldsOf 34).toList
theorem eq55 : EqTy Tryz.prog 34 (iD z6) := eqTy_nest (fs := f55.take 3) (f := f55.getD 3 default) (u := 32) (m := 3) z6 (by kernel_rfl) (by kernel_rfl) (by kernel_rfl) (by kernel_rfl) (by kernel_rfl) (by kernel_rfl) (by kernel_rfl) (by kernel_rfl) (Tryz.isAgg32) (Tryz.sizeOf32) (by kernel_rfl) (by kernel_rfl) rfl (by kernel_rfl) (by kernel_rfl) (by kernel_rfl)
theorem eq_ok (t : TypeId) (h : (ty t).eq = true) : EqTy Tryz.prog t (ty t).zero := by
 unfold ty at h ⊢
 split at h <;> first | exact eq53 | exact eq55 | exact eq75 | exact eq103 | (exact absurd h (by decide))
end Go.Mach
namespace Go.Proofs
open Go.Shelf
def Tryz.lays192_ren : Go.Shelf.Ren := ⟨fun | 192 => 117 | 190 => 147 | 125 => 141 | 258 => 191 | 128 => 178 | 129 => 179 | 302 => 225 | 303 => 226 | 304 => 227 | 305 => 228 | 306 => 229 | 307 => 230 | 308 => 231 | 309 => 232 | 310 => 233 | 333 => 252 | 329 => 253 | 330 => 254 | 334 => 255 | 335 => 256 | 336 => 257 | 344 => 264 | n => n, fun | 31 => 44 | 0 => 0 | 9 => 9 | 3 => 3 | 46 => 139 | 51 => 174 | 53 => 176 | 4 => 4 | 183 => 220 | 182 => 219 | 131 => 183 | 5 => 5 | 218 => 241 | 222 => 215 | 228 => 249 | 229 => 238 | n => n, fun | n => n⟩
theorem Tryz.lays192 : Go.Proofs.Lays.n192 Tryz.prog Tryz.lays192_ren := {
 mixed := by kernel_rfl
 f125 := Tryz.func141.trans (congrArg some (by kernel_rfl))
 f128 := Tryz.func178.trans (congrArg some (by kernel_rfl))
 f129 := Tryz.func179.trans (congrArg some (by kernel_rfl))
 f190 := Tryz.func147.trans (congrArg some (by kernel_rfl))
 f192 := Tryz.func117.trans (congrArg some (by kernel_rfl))
 f258 := Tryz.func191.trans (congrArg some (by kernel_rfl))
 f302 := Tryz.func225.trans (congrArg some (by kernel_rfl))
 f303 := Tryz.func226.trans (congrArg some (by kernel_rfl))
 f304 := Tryz.func227.trans (congrArg some (by kernel_rfl))
 f305 := Tryz.func228.trans (congrArg some (by kernel_rfl))
 f306 := Tryz.func229.trans (congrArg some (by kernel_rfl))
 f307 := Tryz.func230.trans (congrArg some (by kernel_rfl))
 f308 := Tryz.func231.trans (congrArg some (by kernel_rfl))
 f309 := Tryz.func232.trans (congrArg some (by kernel_rfl))
 f310 := Tryz.func233.trans (congrArg some (by kernel_rfl))
 f329 := Tryz.func253.trans (congrArg some (by kernel_rfl))
 f330 := Tryz.func254.trans (congrArg some (by kernel_rfl))
 f333 := Tryz.func252.trans (congrArg some (by kernel_rfl))
 f334 := Tryz.func255.trans (congrArg some (by kernel_rfl))
 f335 := Tryz.func256.trans (congrArg some (by kernel_rfl))
 f336 := Tryz.func257.trans (congrArg some (by kernel_rfl))
 f344 := Tryz.func264.trans (congrArg some (by kernel_rfl))
 t0 := Tryz.underlying0
 a0 := Tryz.isAgg0
 z0 := Tryz.sizeOf0
 v0 := Tryz.zeroValue0
 t3 := Tryz.underlying3
 a3 := Tryz.isAgg3
 z3 := Tryz.sizeOf3
 v3 := Tryz.zeroValue3
 t4 := Tryz.underlying4
 a4 := Tryz.isAgg4
 z4 := Tryz.sizeOf4
 v4 := Tryz.zeroValue4
 t5 := Tryz.underlying5
 a5 := Tryz.isAgg5
 z5 := Tryz.sizeOf5
 v5 := Tryz.zeroValue5
 t9 := Tryz.underlying9
 a9 := Tryz.isAgg9
 z9 := Tryz.sizeOf9
 v9 := Tryz.zeroValue9
 t31 := Tryz.underlying44
 a31 := Tryz.isAgg44
 z31 := Tryz.sizeOf44
 v31 := Tryz.zeroValue44
 t46 := Tryz.underlying139
 a46 := Tryz.isAgg139
 z46 := Tryz.sizeOf139
 v46 := Tryz.zeroValue139
 t51 := Tryz.underlying174
 a51 := Tryz.isAgg174
 z51 := Tryz.sizeOf174
 v51 := Tryz.zeroValue174
 t53 := Tryz.underlying176
 a53 := Tryz.isAgg176
 z53 := Tryz.sizeOf176
 v53 := Tryz.zeroValue176
 t131 := Tryz.underlying183
 a131 := Tryz.isAgg183
 z131 := Tryz.sizeOf183
 v131 := Tryz.zeroValue183
 t182 := Tryz.underlying219
 a182 := Tryz.isAgg219
 z182 := Tryz.sizeOf219
 v182 := Tryz.zeroValue219
 t183 := Tryz.underlying220
 a183 := Tryz.isAgg220
 z183 := Tryz.sizeOf220
 v183 := Tryz.zeroValue220
 t218 := Tryz.underlying241
 a218 := Tryz.isAgg241
 z218 := Tryz.sizeOf241
 v218 := Tryz.zeroValue241
 t222 := Tryz.underlying215
 a222 := Tryz.isAgg215
 z222 := Tryz.sizeOf215
 v222 := Tryz.zeroValue215
 t228 := Tryz.underlying249
 a228 := Tryz.isAgg249
 z228 := Tryz.sizeOf249
 v228 := Tryz.zeroValue249
 t229 := Tryz.underlying238
 a229 := Tryz.isAgg238
 z229 := Tryz.sizeOf238
 v229 := Tryz.zeroValue238 }
def Tryz.lays146_ren : Go.Shelf.Ren := ⟨fun | 146 => 251 | 221 => 263 | 268 => 269 | 138 => 270 | 143 => 271 | 195 => 273 | 197 => 274 | 218 => 275 | 219 => 276 | 260 => 277 | 217 => 278 | 225 => 279 | 224 => 280 | 267 => 281 | 266 => 282 | 314 => 283 | n => n, fun | 9 => 9 | 31 => 44 | 3 => 3 | 4 => 4 | 0 => 0 | 105 => 257 | 21 => 21 | 5 => 5 | 46 => 139 | 119 => 260 | 139 => 263 | 138 => 262 | 146 => 264 | 51 => 174 | n => n, fun | 1 => 0 | 3 => 1 | 4 => 2 | n => n⟩
theorem Tryz.lays146 : Go.Proofs.Lays.n146 Tryz.prog Tryz.lays146_ren := {
 mixed := by kernel_rfl
 f138 := Tryz.func270.trans (congrArg some (by kernel_rfl))
 f143 := Tryz.func271.trans (congrArg some (by kernel_rfl))
 f146 := Tryz.func251.trans (congrArg some (by kernel_rfl))
 f195 := Tryz.func273.trans (congrArg some (by kernel_rfl))
 f197 := Tryz.func274.trans (congrArg some (by kernel_rfl))
 f217 := Tryz.func278.trans (congrArg some (by kernel_rfl))
 f218 := Tryz.func275.trans (congrArg some (by kernel_rfl))
 f219 := Tryz.func276.trans (congrArg some (by kernel_rfl))
 f221 := Tryz.func263.trans (congrArg some (by kernel_rfl))
 f224 := Tryz.func280.trans (congrArg some (by kernel_rfl))
 f225 := Tryz.func279.trans (congrArg some (by kernel_rfl))
 f260 := Tryz.func277.trans (congrArg some (by kernel_rfl))
 f266 := Tryz.func282.trans (congrArg some (by kernel_rfl))
 f267 := Tryz.func281.trans (congrArg some (by kernel_rfl))
 f268 := Tryz.func269.trans (congrArg some (by kernel_rfl))
 f314 := Tryz.func283.trans (congrArg some (by kernel_rfl))
 t0 := Tryz.underlying0
 a0 := Tryz.isAgg0
 z0 := Tryz.sizeOf0
 v0 := Tryz.zeroValue0
 t3 := Tryz.underlying3
 a3 := Tryz.isAgg3
 z3 := Tryz.sizeOf3
 v3 := Tryz.zeroValue3
 t4 := Tryz.underlying4
 a4 := Tryz.isAgg4
 z4 := Tryz.sizeOf4
 v4 := Tryz.zeroValue4
 t5 := Tryz.underlying5
 a5 := Tryz.isAgg5
 z5 := Tryz.sizeOf5
 v5 := Tryz.zeroValue5
 t9 := Tryz.underlying9
 a9 := Tryz.isAgg9
 z9 := Tryz.sizeOf9
 v9 := Tryz.zeroValue9
 t21 := Tryz.underlying21
 a21 := Tryz.isAgg21
 z21 := Tryz.sizeOf21
 v21 := Tryz.zeroValue21
 t31 := Tryz.underlying44
 a31 := Tryz.isAgg44
 z31 := Tryz.sizeOf44
 v31 := Tryz.zeroValue44
 t46 := Tryz.underlying139
 a46 := Tryz.isAgg139
 z46 := Tryz.sizeOf139
 v46 := Tryz.zeroValue139
 t51 := Tryz.underlying174
 a51 := Tryz.isAgg174
 z51 := Tryz.sizeOf174
 v51 := Tryz.zeroValue174
 t105 := Tryz.underlying257
 a105 := Tryz.isAgg257
 z105 := Tryz.sizeOf257
 v105 := Tryz.zeroValue257
 t119 := Tryz.underlying260
 a119 := Tryz.isAgg260
 z119 := Tryz.sizeOf260
 t138 := Tryz.underlying262
 a138 := Tryz.isAgg262
 z138 := Tryz.sizeOf262
 v138 := Tryz.zeroValue262
 t139 := Tryz.underlying263
 a139 := Tryz.isAgg263
 z139 := Tryz.sizeOf263
 v139 := Tryz.zeroValue263
 t146 := Tryz.underlying264
 a146 := Tryz.isAgg264
 z146 := Tryz.sizeOf264
 v146 := Tryz.zeroValue264
 g1 := by kernel_rfl
 g3 := by kernel_rfl
 g4 := by kernel_rfl }
end Go.Proofs
namespace Go.Mach
open Go Go.RowKit Go.Proofs
theorem key_count : Go.Lib.countB keyS spaceS = keyL.length - 1 := by kernel_rfl
theorem key_data : Go.Lib.splitK spaceS.data.toList 0 (keyL.length - 1) keyS.data.toList = keyL.map (·.data.toList) := by kernel_rfl
theorem data_inj : ∀ {l m : List ByteArray}, l.map (·.data.toList) = m.map (·.data.toList) → l = m
 | [], [], _ => rfl
 | ⟨⟨a⟩⟩ :: l, ⟨⟨b⟩⟩ :: m, h => by
   simp only [List.map_cons, List.cons.injEq] at h
   rw [show a = b from h.1, data_inj h.2]
theorem key_split : Go.Lib.splitB spaceS 0 (keyL.length - 1) keyS = keyL := by
 apply data_inj; rw [Go.Lib.splitB_data]; exact key_data
set_option maxHeartbeats 1000000 in
theorem split_one {P : Program} {ρ : Go.Shelf.Ren} (L : Lays.n146 P ρ) (hi9 : (P.info? (ρ.t 9)).map (fun i => (i.zero, i.size, i.bytes)) = some (some (.string ByteArray.empty), 1, 16)) (s sep : ByteArray) (w : World)
  (hs : s.size < 4294967281) (h1 : sep.size = 1) :
  Calls P (ρ.f 146) #[.string s, .string sep] w fun e w' =>
   e = .returned (.slice (some ⟨w.heap.size, 0, none⟩) (Go.Lib.countB s sep + 1) (Go.Lib.countB s sep + 1)) ∧ w' = w.alloc (.cells ((Go.Lib.splitB sep 0 (Go.Lib.countB s sep) s).map Value.string).toArray (ρ.t 9)) := by
 have h1' : 1 ≤ sep.size := by omega
 have hle := Go.Lib.countB_le sep h1' s.size s (Nat.le_refl _)
 have hlen := Go.Lib.splitB_all sep h1' 0 _ s rfl
 have hI : ∀ (x : ByteArray) (c : Array Value), x.size ≤ s.size → Calls P (ρ.f 143) #[.string x, .string sep] (w.alloc (.cells c (ρ.t 9))) fun e w' => e = .returned (.int .i64 (Go.Lib.indexB x sep)) ∧ w' = w.alloc (.cells c (ρ.t 9)) := by
  intro x c _
  obtain ⟨b, rfl⟩ := Go.Lib.one_byte sep h1
  refine (Any.strings_Index_one { L with } x b _).mono fun e w' ⟨he, hw⟩ => ⟨?_, hw⟩
  rw [he]
  show _ = Ending.returned (Value.int .i64 (Go.Lib.index x.data.toList [b]))
  rw [Go.Lib.index_one]
 have hC : Calls P (ρ.f 138) #[.string s, .string sep] w fun e w' => e = .returned (.int .i64 (Go.Lib.countB s sep)) ∧ w' = w := by
  obtain ⟨b, rfl⟩ := Go.Lib.one_byte sep h1
  refine (Any.strings_Count_one { L with } s b w).mono fun e w' ⟨he, hw⟩ => ⟨?_, hw⟩
  rw [he]
  show _ = Ending.returned (Value.int .i64 ((Go.Lib.count s.data.toList [b] : Nat) : Int))
  rw [Go.Lib.count_one]
  rfl
 have c := Any.strings_genSplit_core { L with } hi9 s sep 0 (-1) (Go.Lib.countB s sep + 1) w hs h1' (Nat.zero_le _) hI hC (by decide) (by decide) (by rw [if_pos (by decide)]; omega)
 rw [Nat.add_sub_cancel, hlen] at c
 have e2 : Go.Lib.cellsOf (Go.Lib.splitB sep 0 (Go.Lib.countB s sep) s) (Go.Lib.countB s sep + 1) = ((Go.Lib.splitB sep 0 (Go.Lib.countB s sep) s).map Value.string).toArray := by rw [← hlen]; exact Go.Lib.cellsOf_full _
 rw [e2] at c
 have t3 := L.t3; have t9 := L.t9; have t31 := L.t31
 have a3 := L.a3; have a9 := L.a9; have a31 := L.a31
 have z3 := L.z3; have v3 := L.v3; have z9 := L.z9; have v9 := L.v9; have z31 := L.z31; have v31 := L.v31
 have e221 : ∀ args w, (callFunc (ρ.f 221) args).run P w = .ok (.enter (ρ.f 221) args) w := enters_of L.f221 (by kernel_rfl) rfl
 go_enter L.f146, Body.n146_ntmps ρ
 go_wp2_with (go_at_fn (ρ.f 221); refine c.mono ?_; rintro e w' ⟨rfl, hw⟩; rw [hw])
 go_ret
 exact ⟨rfl, rfl⟩
theorem key_len : keyL.length = Go.Lib.countB keyS spaceS + 1 := by rw [key_count]; rfl
theorem split_ok : ExtOk Tryz.prog 251 splitX := by
 refine ⟨⟨_, Tryz.func251, by decide, by kernel_rfl⟩, ?_⟩
 intro σ w args vs d hl hr hbig hg
 unfold splitX at hg
 split at hg
 · rename_i a b
   split at hg
   · rename_i hab
     simp only [Bool.and_eq_true, beq_iff_eq] at hab
     rw [ByteArray.toList_eq, ByteArray.toList_eq, ByteArray.toList_eq, ByteArray.toList_eq] at hab
     obtain rfl : a = keyS := by obtain ⟨⟨a⟩⟩ := a; exact congrArg (fun l => ByteArray.mk ⟨l⟩) hab.1
     obtain rfl : b = spaceS := by obtain ⟨⟨b⟩⟩ := b; exact congrArg (fun l => ByteArray.mk ⟨l⟩) hab.2
     obtain rfl := Option.some.inj hg
     obtain ⟨v0, v1, rfl⟩ : ∃ v0 v1, vs = #[v0, v1] := by
      obtain ⟨l⟩ := vs
      match l, hl with
      | [v0, v1], _ => exact ⟨v0, v1, rfl⟩
     have h0 := hr 0 (by decide)
     have h1 := hr 1 (by decide)
     obtain rfl : v0 = .string keyS := by
      rcases h0 with ⟨_, h⟩ | ⟨h, _⟩
      · cases h; rfl
      · simp [D.hand] at h
     obtain rfl : v1 = .string spaceS := by
      rcases h1 with ⟨_, h⟩ | ⟨h, _⟩
      · cases h; rfl
      · simp [D.hand] at h
     refine (split_one Tryz.lays146 (by kernel_rfl) keyS spaceS w (by decide) rfl).mono ?_
     rintro e w' ⟨rfl, rfl⟩
     rw [key_count, key_split, ← key_count, ← key_len]
     refine ⟨_, fun b => if b = w.heap.size then keyL.length else σ b, rfl, ?_, ⟨rfl, trivial⟩, ⟨(Below.refl _ _).alloc (Nat.le_refl _) _, Nat.le_refl _⟩, fun b hb => if_neg (by omega), fun b hb => ?_⟩
     · have hk : (eB keyL).length = keyL.length := by simp [eB]
       rw [← hk]
       refine .sl _ _ (eB keyL) w.heap.size 0 _ (fun i j => .string (keyL.getD i ⟨#[]⟩)) (by decide) (by decide) ?_ ?_ (Nat.le_refl _) (fun _ => by rw [if_pos rfl]; omega) (fun i j hi hj => ?_) (fun i j hi hj => ?_)
       · intro e he; simp only [eB, List.mem_map] at he; obtain ⟨x, _, rfl⟩ := he; rfl
       · intro e he; simp only [eB, List.mem_map] at he; obtain ⟨x, _, rfl⟩ := he
         intro c hc; simp only [List.mem_singleton] at hc; subst hc; rfl
       · rw [cell_alloc_new]
         obtain rfl : j = 0 := by omega
         rw [hk] at hi
         simp [hi]
       · obtain rfl : j = 0 := by omega
         rw [hk] at hi
         have : (eB keyL).getD i [] = [.str (keyL.getD i ⟨#[]⟩)] := by simp [eB, hi]
         rw [this]; exact .str _
     · show (if b = w.heap.size then _ else _) = 0
       rw [size_alloc] at hb
       rw [if_neg (by omega)]; exact hbig b (by omega)
   · cases hg
 · cases hg
theorem mixed_ok : Tryz.prog.follows .mixedOrders = true := by kernel_rfl
theorem env_ok {xa xb : Option (List D → Option D)} (ha : ∀ g, xa = some g → ExtOk Tryz.prog 133 g) (hb : ∀ g, xb = some g → ExtOk Tryz.prog 19 g) : EnvOk Tryz.prog (env xa xb) := by
 refine ⟨mixed_ok, ty_ok, eq_ok, fn_ok, fun f g h => ?_, exC_ok⟩
 replace h : exT xa xb f = some g := h
 unfold exT at h
 split at h
 · rename_i h1; obtain rfl := Nat.eq_of_beq_eq_true h1; exact ha g h
 · split at h
   · rename_i h1; obtain rfl := Nat.eq_of_beq_eq_true h1; exact hb g h
   · split at h
     · rename_i h1; obtain rfl := Nat.eq_of_beq_eq_true h1; cases h; exact split_ok
     · cases h
theorem env_ok0 : EnvOk Tryz.prog (env none none) := env_ok (fun g h => by cases h) (fun g h => by cases h)
theorem impl_Kids.ans {xa xb : Option (List D → Option D)} (o : Std) (ho : o = std) (n_f0 : Int) (n_f1 : Int) (n_f2 : Int) (n_f3 : Int) (n_f4 : Int) (n_f5 : ByteArray) (n_f6 : ByteArray) : Ans (env xa xb) 115 [.agg [iX n_f0, iX n_f1, iX n_f2, iX n_f3, iX n_f4, .str n_f5, .str n_f6]] (rK o (kidsM (⟨n_f0, n_f1, n_f2, n_f3, n_f4, n_f5, n_f6⟩ : Nd))) := by
 refine Ans.mkA ho _ rfl rfl ?_
 have har := arityM_le n_f0
 repeat' (first
  | (refine .id ?_
     (try (conv => arg 2; cbv))
     first
      | (refine .pE (β := Int) (fun v => iX v) (as' := [iX _]) (impl_Arity.ans o ho _) ?_; rintro v hv)
      | (refine .needD ho (by kernel_rfl) ?_)
      | (refine .need ?_ ?_)
      | (refine .fin ?_; (conv => lhs; cbv); refine congrArg some ?_))
  | ((fail_if_success (refine .id ?_))
     first
      | (subst_vars; refine congrArg (D.sl Tok.ro 1) ?_; simp [std, kidsM, eK, List.map_take]; done)
      | (subst ho; simp [std, lenE]; omega)))
theorem impl_fieldsOk.ans {xa xb : Option (List D → Option D)} (o : Std) (ho : o = std) (n_f0 : Int) (n_f1 : Int) (n_f2 : Int) (n_f3 : Int) (n_f4 : Int) (n_f5 : ByteArray) (n_f6 : ByteArray) (h0 : n_f5.size ≤ 1048576 ∧ n_f6.size ≤ 1048576) : Ans (env xa xb) 114 [.agg [iX n_f0, iX n_f1, iX n_f2, iX n_f3, iX n_f4, .str n_f5, .str n_f6]] (.bool (fldB (⟨n_f0, n_f1, n_f2, n_f3, n_f4, n_f5, n_f6⟩ : Nd))) := by
 refine Ans.mkA ho _ rfl rfl ?_
 have har := arityM_le n_f0; have hal : ([n_f1, n_f2, n_f3] : List Int).length = 3 := rfl
 repeat' (first
  | (refine .id ?_
     (try (conv => arg 2; cbv))
     first
      | refine .testT ?_
      | refine .t1 ?_
      | refine .t0 ?_
      | refine .tN1 ho ?_
      | refine .tN0 ho ?_
      | (refine .test (fun hr => ?_) (fun hr => ?_) <;> (have hb := hr) <;> (try simp (disch := omega) only [ho, std, wI, lenE, nrm] at hb) <;> (try (exfalso; first | contradiction | omega | exact hb rfl)))
      | (refine .pE (β := Bool) .bool (as' := [iX _, iX _, iX _]) (impl_in.ans o ho _ _ _) ?_; rintro (_ | _) hv <;> (try simp only [dE] at hv) <;> (try first | contradiction | exact bX hv))
      | (refine .pE (β := Int) (fun v => iX v) (as' := [iX _]) (impl_namesOf.ans o ho _) ?_; rintro v hv)
      | (refine .pE (β := Bool) .bool (as' := [.str _, .bool _]) (impl_nameFits.ans o ho _ _ ?_) ?_; rotate_left 1; rintro (_ | _) hv <;> (try simp only [dE] at hv) <;> (try first | contradiction | exact bX hv))
      | (refine .needD ho (by kernel_rfl) ?_)
      | (refine .indF (fun m_ s_ => ∃ (a36 : Int) (a37 : Int) (tk : List Nat), s_ = ⟨[Jk, .pbx (.loc 0) 0, Jk, Jk, Jk, Jk, Jk, Jk, Jk, Jk, Jk, Jk, Jk, Jk, Jk, Jk, Jk, Jk, Jk, Jk, Jk, Jk, Jk, Jk, Jk, Jk, Jk, Jk, Jk, Jk, Jk, Jk, Jk, Jk, Jk, .sl .cap 1 (o.bx fun _ => eK .i64 [n_f1, n_f2, n_f3]), iX a36, iX a37] ++ List.replicate 29 Jk, [[[iX n_f0, iX n_f1, iX n_f2, iX n_f3, iX n_f4, .str n_f5, .str n_f6]]], [], tk⟩ ∧ (a36 = 3 ∧ 0 ≤ a37 ∧ a37 ≤ 3 ∧ (∀ j : Nat, (j : Int) < a37 → j < 3 → arityM n_f0 ≤ j → rI [n_f1, n_f2, n_f3] j = 0)) ∧ (3 - a37).toNat ≤ m_) _ _ ⟨_, _, _, by subst ho; rfl, ?_, Nat.le_refl _⟩ ?_
         rotate_right
         rintro m_ _ ⟨a36, a37, tk, rfl, hIa, hka⟩ iha
         obtain ⟨i4, i1, i2, i3⟩ := hIa; refine .unloopA ho ?_
         repeat' (first
          | (refine .id ?_
             (try (conv => arg 2; cbv))
             first
              | refine .testF ?_
              | refine .t1 ?_
              | refine .t0 ?_
              | (refine .test (fun hr => ?_) (fun hr => ?_) <;> (have hb := hr) <;> (try simp (disch := omega) only [ho, std, wI, lenE, nrm] at hb) <;> (try (exfalso; first | contradiction | omega | exact hb rfl)))
              | (refine .pE (β := Bool) .bool (as' := [iX _, iX _, iX _]) (impl_in.ans o ho _ _ _) ?_; rintro (_ | _) hv <;> (try simp only [dE] at hv) <;> (try first | contradiction | exact bX hv))
              | (refine .pE (β := Int) (fun v => iX v) (as' := [iX _]) (impl_Arity.ans o ho _) ?_; rintro v hv)
              | (refine .fetchXK ho ?_ ?_ (fun y hy => ?_); rotate_left 2)
              | (refine iha _ _ ?_ ⟨_, _, _, by subst ho; rfl, ?_, Nat.le_refl _⟩)
              | (refine .fin ?_; (conv => lhs; cbv); refine congrArg some ?_))
          | ((fail_if_success (refine .id ?_))
             first
              | (subst ho; exact ⟨rfl, Int.le_refl _, by omega, fun j hj => absurd hj (by omega)⟩)
              | (refine dB ?_; exact fld_no4 (rest_no (t := n_f0) i1 (by omega) (by omega) hy (by assumption)))
              | (simp (disch := omega) only [ho, std, wI]; exact ⟨i4, by omega, by omega, rest_step (t := n_f0) i1 i3 hy (by omega)⟩)
              | (subst ho; refine dB (fld_end (by assumption) (nfit_lt (by assumption) (by assumption) 0 rfl) (nfit_lt (by assumption) (by assumption) 1 rfl) (rest_end (t := n_f0) (by omega) i3) ?_); first | exact numB_2t (by assumption) (by assumption) | exact numB_2f (by assumption) (by assumption) | exact numB_8t (by assumption) (by assumption) | exact numB_8f (by assumption) (by assumption) | exact numB_0 (by assumption) (by assumption) rfl)
              | assumption
              | omega
              | (subst ho; simp (disch := omega) only [std, wI, tdiv2, tdivN, lenE] <;> first | done | rfl | omega))))
      | (refine .fin ?_; (conv => lhs; cbv); refine congrArg some ?_))
  | ((fail_if_success (refine .id ?_))
     first
      | (refine dB ?_; exact fld_no1 (by assumption))
      | (subst ho; refine dB ?_; exact fld_no2 (nfit_lt (by assumption) (by assumption) 0 rfl))
      | (subst ho; refine dB ?_; exact fld_no3 (nfit_lt (by assumption) (by assumption) 1 rfl))
      | omega))
theorem impl_NodesOk.ans {xa xb : Option (List D → Option D)} (o : Std) (ho : o = std) (l : List Nd) (h0 : Sz l) (h1 : l.length ≤ 1048576) : Ans (env xa xb) 67 [rNd o l] (.bool (okM l)) := by
 refine Ans.mkA ho _ rfl rfl ?_
 repeat' (first
  | (refine .id ?_
     (try (conv => arg 2; cbv))
     first
      | refine .tN1 ho ?_
      | refine .tN0 ho ?_
      | (refine .pE (β := Bool) .bool (as' := [iX _, iX _, iX _]) (impl_in.ans o ho _ _ _) ?_; rintro (_ | _) hv <;> (try simp only [dE] at hv) <;> (try first | contradiction | exact bX hv) <;> (try have hl1 : 1 ≤ (l.length : Int) ∧ (l.length : Int) ≤ 150 := (by subst ho; simp only [std, len_eNd] at hv; exact hv)))
      | (refine .need ?_ ?_)
      | (refine .indF (fun m_ s_ => ∃ (a17 : Int) (a18 : Int) (tk : List Nat) (bx0 : Box) (nn : Nat), s_ = ⟨[rNd o l, Jk, Jk, .asl (.loc 0) 1 nn, Jk, Jk, Jk, Jk, Jk, Jk, Jk, Jk, Jk, Jk, Jk, Jk, rNd o l, iX a17, iX a18] ++ List.replicate 45 Jk, [bx0], [], tk⟩ ∧ (bx0 = (o.bx fun _ => eK .i64 (stB l a18)) ∧ nn = l.length ∧ a17 = l.length ∧ 0 ≤ a18 ∧ a18 ≤ l.length ∧ (startsO l a18.toNat).isSome = true) ∧ (l.length - a18).toNat ≤ m_) _ _ ⟨_, _, _, _, _, by subst ho; rfl, ?_, Nat.le_refl _⟩ ?_
         rotate_right
         rintro m_ _ ⟨a17, a18, tk, bx0, nn, rfl, hIa, hka⟩ iha
         obtain ⟨rfl, hnn, h17, i1, i2, i3⟩ := hIa; have hb1 := stS_bnd i1 i3; have hbl := stB_len i1 i2 i3; refine .unloopA ho ?_
         repeat' (first
          | (refine .id ?_
             (try (conv => arg 2; cbv))
             first
              | refine .tN1 ho ?_
              | refine .tN0 ho ?_
              | (refine .test (fun hr => ?_) (fun hr => ?_) <;> (have hb := hr) <;> (try simp (disch := omega) only [ho, std, wI, lenE, nrm] at hb) <;> (try (exfalso; first | contradiction | omega | exact hb rfl)))
              | (refine .pE (β := Bool) .bool (as' := [.agg [iX _, iX _, iX _, iX _, iX _, .str _, .str _]]) (impl_fieldsOk.ans o ho _ _ _ _ _ _ _ ?_) ?_; rotate_left 1; rintro (_ | _) hv <;> (try simp only [dE] at hv) <;> (try first | contradiction | exact bX hv))
              | (refine .pE (β := List Int) (rK o) (as' := [.agg [iX _, iX _, iX _, iX _, iX _, .str _, .str _]]) (impl_Kids.ans o ho _ _ _ _ _ _ _) ?_; rintro v hv)
              | (refine .fetchYK ho ?_ ?_ (by with_reducible assumption) ?_)
              | (refine .fetchXK ho ?_ ?_ (fun y hy => ?_); rotate_left 2; (first | (have _hkk := hkk; have hy1 : rI (stB l a18) (b7 - 1) = y := (by subst ho; simp (disch := omega) only [std, wI] at hy; exact hy); have hy2 := (stB_at i1 i3 (by omega) (by omega)).symm.trans hy1; have hbq := bnd_at hb1.2 (by omega) (by omega) hy2) | (have hkk := hy)))
              | (refine .fetchXNd ho ?_ ?_ (fun y hy => ?_); rotate_left 2; rcases y with ⟨y0, y1, y2, y3, y4, y5, y6⟩; (have hsz := h0.at i1 (by omega) hy); dsimp only at hsz)
              | (refine .indF (fun m_ s_ => ∃ (b6 : List Int) (b7 : Int) (b8 : Int) (tb6 : Tok) (tk : List Nat), s_ = ⟨[rNd o l, Jk, Jk, .asl (.loc 0) 1 nn, iX a18, Jk, .sl tb6 1 (o.bx fun _ => eK .i64 b6), iX b7, iX b8, Jk, Jk, Jk, Jk, Jk, Jk, Jk, rNd o l, iX a17, iX a18] ++ List.replicate 45 Jk, [(o.bx fun _ => eK .i64 (stB l a18)), [[iX y0, iX y1, iX y2, iX y3, iX y4, .str y5, .str y6]]], [], tk⟩ ∧ (b6 = kidsM (rN l a18) ∧ -1 ≤ b8 ∧ b8 < b6.length ∧ 0 ≤ b7 ∧ b7 ≤ a18 ∧ fldB (rN l a18) = true ∧ walkK (stS l a18) (kidsM (rN l a18)) (kidsM (rN l a18)).length a18 = walkK (stS l a18) (kidsM (rN l a18)) (b8 + 1).toNat b7) ∧ (b8 + 1).toNat ≤ m_) _ _ ⟨_, _, _, _, _, by subst ho; rfl, ?_, Nat.le_refl _⟩ ?_
                 rotate_right
                 rintro m_ _ ⟨b6, b7, b8, tb6, tk, rfl, hIb, hkb⟩ ihb
                 obtain ⟨j1, j2, j3, j4, j5, j6, j7⟩ := hIb; have hkl := len_kidsM (rN l a18); have hka2 := arityM_le (rN l a18).f0; rw [← j1] at hkl; refine .unloopA ho ?_
                 repeat' (first
                  | (refine .id ?_
                     (try (conv => arg 2; cbv))
                     first
                      | refine .testT ?_
                      | refine .t1 ?_
                      | refine .t0 ?_
                      | (refine .test (fun hr => ?_) (fun hr => ?_) <;> (have hb := hr) <;> (try simp (disch := omega) only [ho, std, wI, lenE, nrm] at hb) <;> (try (exfalso; first | contradiction | omega | exact hb rfl)))
                      | (refine .fetchYK ho ?_ ?_ (by with_reducible assumption) ?_)
                      | (refine .fetchXK ho ?_ ?_ (fun y hy => ?_); rotate_left 2; (first | (have _hkk := hkk; have hy1 : rI (stB l a18) (b7 - 1) = y := (by subst ho; simp (disch := omega) only [std, wI] at hy; exact hy); have hy2 := (stB_at i1 i3 (by omega) (by omega)).symm.trans hy1; have hbq := bnd_at hb1.2 (by omega) (by omega) hy2) | (have hkk := hy)))
                      | (refine ihb _ _ ?_ ⟨_, _, _, _, _, by subst ho; rfl, ?_, Nat.le_refl _⟩)
                      | (refine iha _ _ ?_ ⟨_, _, _, _, _, by subst ho; rfl, ?_, Nat.le_refl _⟩)
                      | (refine .fin ?_; (conv => lhs; cbv); refine congrArg some ?_))
                  | ((fail_if_success (refine .id ?_))
                     first
                      | (refine dB ?_; exact okM_failI (st_fail i1 (by omega) i3 (.inr (by rw [j7]; exact walkK_no (by assumption) (by rw [← j1]; first | omega | (rw [hkk]; omega))))))
                      | ((try clear iha); have e1 : v = kidsM (rN l a18) := (at_nd (P := fun x => v = kidsM x) (by assumption) hv.symm); subst ho; have e2 := len_kidsM (rN l a18); have e3 := arityM_le (rN l a18).f0; rw [← e1] at e2; simp (disch := omega) only [std, wI, len_eK]; refine ⟨e1, by omega, by omega, i1, Int.le_refl _, at_nd (P := fun x => fldB x = true) (by assumption) (by assumption), ?_⟩; rw [← e1, Int.sub_add_cancel, Int.toNat_natCast])
                      | ((try clear iha); (try clear ihb); simp (disch := omega) only [ho, std, wI]; exact ⟨j1, by omega, by omega, by omega, by omega, j6, j7.trans (walkK_yes (by assumption) (by rw [← j1]; exact hkk.trans (by assumption)) rfl (by omega) hy2)⟩)
                      | ((try clear iha); (try clear ihb); subst ho; simp (disch := omega) only [std, wI]; rw [set_eK, stB_set i1 (by omega) i3 (stS_next i1 i3 j6 (j7.trans (walkK_zero (by omega))))]; exact ⟨rfl, hnn, h17, by omega, by omega, by rw [st_next i1 i3 j6 (j7.trans (walkK_zero (by omega)))]; rfl⟩)
                      | assumption
                      | omega
                      | (subst ho; simp (disch := omega) only [std, wI, tdiv2, tdivN, lenE] <;> first | done | rfl | omega))))
              | (refine .fin ?_; (conv => lhs; cbv); refine congrArg some ?_))
          | ((fail_if_success (refine .id ?_))
             first
              | (subst ho; refine ⟨?_, by simp [std, len_eNd], by simp [std, len_eNd], Int.le_refl _, by omega, rfl⟩; simp only [std, len_eNd]; rw [stB_zero, ← rep_eK]; rfl)
              | (refine dB ?_; exact okM_failI (st_fail i1 (by omega) i3 (.inl (at_nd (P := fun x => fldB x = false) (by assumption) (by assumption)))))
              | (subst ho; simp (disch := omega) only [std, wI, len_eNd] at hy; refine dB ?_; exact okM_endI hl1 (by omega) i2 i3 hy rfl)
              | assumption
              | omega
              | (subst ho; simp (disch := omega) only [std, wI, tdiv2, tdivN, lenE] <;> first | done | rfl | omega))))
      | (refine .fin ?_; (conv => lhs; cbv); refine congrArg some ?_))
  | ((fail_if_success (refine .id ?_))
     first
      | (subst ho; refine dB ?_; simp only [std, len_eNd] at *; exact okM_len (by assumption))
      | (subst ho; simp [std, lenE]; omega)))
noncomputable def impl_sorted_rest.fi : FnI := { fni Tryz.f69 (fun | 4 => [0, 3, 8, 9, 10] | _ => []) false with body := dropC 1 (bodyOf Tryz.f69) }
theorem impl_sorted_rest.part {xa xb : Option (List D → Option D)} (o : Std) (ho : o = std) (l : List ByteArray) (h0 : l.length ≤ 1048576) : AnsI (env xa xb) impl_sorted_rest.fi .ret (fun s => outD (env xa xb) impl_sorted_rest.fi.nw s impl_sorted_rest.fi.res) [rTx o l, Jk, .sl .nil 1 []] (fun d_ tk_ => d_ = rTx o (dedN l l.length) ∧ (True)) := by
 refine AnsI.mkA ho (by rfl) ?_
 repeat' (first
  | (refine .id ?_
     (try (conv => arg 2; cbv))
     first
      | (refine .indF (fun m_ s_ => ∃ (ea3 : Box) (a9 : Int) (a10 : Int) (ta3 : Tok) (tk : List Nat), s_ = ⟨[rTx o l, Jk, Jk, .sl ta3 1 ea3, Jk, Jk, Jk, Jk, rTx o l, iX a9, iX a10] ++ List.replicate 21 Jk, [], [], tk⟩ ∧ Lv tk ta3 ea3.length ∧ ea3 = (o.bx fun _ => eB (dedN l a10.toNat)) ∧ (a9 = l.length ∧ 0 ≤ a10 ∧ a10 ≤ l.length) ∧ (l.length - a10).toNat ≤ m_) _ _ ⟨_, _, _, _, _, by subst ho; rfl, ?_, ?_, ?_, Nat.le_refl _⟩ ?_
         rotate_right
         rintro m_ _ ⟨ea3, a9, a10, ta3, tk, rfl, hla0, rfl, hIa, hka⟩ iha
         obtain ⟨i1, i2, i3⟩ := hIa; have hrl := (len_dedN l a10.toNat).1; refine .unloopA ho ?_
         repeat' (first
          | (refine .id ?_
             (try (conv => arg 2; cbv))
             first
              | refine .testT ?_
              | refine .t1 ?_
              | refine .t0 ?_
              | (refine .test (fun hr => ?_) (fun hr => ?_) <;> (have hb := hr) <;> (try simp (disch := omega) only [ho, std, wI, lenE, nrm] at hb) <;> (try (exfalso; first | contradiction | omega | exact hb rfl)))
              | (refine .fetchXB ho ?_ ?_ (fun y hy => ?_); rotate_left 2; (first | (have _h := hyp; have hyq := hy) | (have hyp := hy)))
              | (refine .need ?_ ?_)
              | (refine .app1 ?_ (fun t' tk' hl' => ?_))
              | (refine iha _ _ ?_ ⟨_, _, _, _, _, by subst ho; rfl, ?_, ?_, ?_, Nat.le_refl _⟩)
              | (refine .done ⟨rfl, ?_⟩; refine ⟨_, by (conv => lhs; cbv) <;> rfl, ?_⟩))
          | ((fail_if_success (refine .id ?_))
             first
              | (exact Lv.nil)
              | (subst ho; exact hla0)
              | (subst ho; refine ⟨congrArg (D.sl _ 1) (congrArg eB ?_), trivial⟩; exact congrArg (dedN l) (by omega))
              | (subst ho; exact ⟨by simp [std, len_eB], Int.le_refl _, by omega⟩)
              | (subst ho; simp (disch := omega) only [std, wI] at *; exact push_eB (ded_first (by assumption) hyp))
              | (subst ho; simp (disch := omega) only [std, wI] at *; exact push_eB (ded_new i2 hyp hyq (by assumption)))
              | (subst ho; simp (disch := omega) only [std, wI] at *; refine congrArg eB ?_; exact (ded_old i2 (by assumption) hyp hyq (by assumption)).symm)
              | ((try clear iha); subst ho; simp (disch := omega) only [std, wI]; exact ⟨i1, by omega, by omega⟩)
              | assumption
              | omega
              | (subst ho; rfl)
              | (subst ho; simpa [std, lenE] using hl')
              | (subst ho; simp [std, lenE]; omega)
              | (subst ho; simp (disch := omega) only [std, wI, tdiv2, tdivN, lenE] <;> first | done | rfl | omega)))))
  | ((fail_if_success (refine .id ?_))
     first
      | fail))
end Go.Mach
