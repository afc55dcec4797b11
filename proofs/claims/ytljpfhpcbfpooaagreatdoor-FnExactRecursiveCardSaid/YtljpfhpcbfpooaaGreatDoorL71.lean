/- The program's Recursive returns what the reference's returns, for all arguments.: part 32 of a proof by an executable machine over the program's code. -/
import Derived.Test.YtljpfhpcbfpooaaGreatDoorMc30
import Derived.Shelf.SlSortFuncK.WholeK
import Derived.Ground.GgsProg
import Derived.Test.YtljpfhpcbfpooaaGreatDoorProg
import Derived.Deep.QuietTactic
import Derived.BigQuiet
import Derived.Shelf.GgSortFunc.Tiny
set_option linter.unusedVariables false
set_option linter.unusedSimpArgs false
set_option maxRecDepth 100000
set_option maxHeartbeats 6000000
namespace Go.Proofs
open Go.Shelf
def Tryz.slc98_ren : Go.Shelf.Ren := ⟨fun | 6 => 108 | 10 => 138 | 11 => 139 | 12 => 140 | 13 => 141 | 14 => 142 | 24 => 178 | 25 => 179 | 26 => 180 | 27 => 181 | 28 => 182 | 29 => 183 | 30 => 184 | 31 => 185 | 32 => 186 | 33 => 187 | 34 => 217 | 35 => 218 | 36 => 219 | 37 => 220 | 38 => 221 | 39 => 250 | n => n, fun | 20 => 20 | 26 => 117 | 35 => 133 | 0 => 0 | 37 => 135 | 3 => 3 | 41 => 139 | 44 => 142 | 49 => 174 | 51 => 176 | 4 => 4 | 54 => 179 | 53 => 178 | 58 => 183 | 5 => 5 | 9 => 9 | 60 => 211 | 64 => 215 | 66 => 237 | 67 => 238 | 17 => 17 | 32 => 130 | 33 => 131 | 82 => 279 | 12 => 12 | 75 => 272 | 76 => 273 | 77 => 274 | 78 => 275 | 79 => 276 | 80 => 277 | n => n, fun | n => n⟩
theorem Tryz.slc98 : Go.Proofs.LaysGg.n6 Tryz.prog Tryz.slc98_ren := {
 mixed := by kernel_rfl
 f6 := Tryz.func108.trans (congrArg some (by kernel_rfl))
 f10 := Tryz.func138.trans (congrArg some (by kernel_rfl))
 f11 := Tryz.func139.trans (congrArg some (by kernel_rfl))
 f12 := Tryz.func140.trans (congrArg some (by kernel_rfl))
 f13 := Tryz.func141.trans (congrArg some (by kernel_rfl))
 f14 := Tryz.func142.trans (congrArg some (by kernel_rfl))
 f24 := Tryz.func178.trans (congrArg some (by kernel_rfl))
 f25 := Tryz.func179.trans (congrArg some (by kernel_rfl))
 f26 := Tryz.func180.trans (congrArg some (by kernel_rfl))
 f27 := Tryz.func181.trans (congrArg some (by kernel_rfl))
 f28 := Tryz.func182.trans (congrArg some (by kernel_rfl))
 f29 := Tryz.func183.trans (congrArg some (by kernel_rfl))
 f30 := Tryz.func184.trans (congrArg some (by kernel_rfl))
 f31 := Tryz.func185.trans (congrArg some (by kernel_rfl))
 f32 := Tryz.func186.trans (congrArg some (by kernel_rfl))
 f33 := Tryz.func187.trans (congrArg some (by kernel_rfl))
 f34 := Tryz.func217.trans (congrArg some (by kernel_rfl))
 f35 := Tryz.func218.trans (congrArg some (by kernel_rfl))
 f36 := Tryz.func219.trans (congrArg some (by kernel_rfl))
 f37 := Tryz.func220.trans (congrArg some (by kernel_rfl))
 f38 := Tryz.func221.trans (congrArg some (by kernel_rfl))
 f39 := Tryz.func250.trans (congrArg some (by kernel_rfl))
 t0 := Tryz.underlying0
 a0 := Tryz.isAgg0
 z0 := Tryz.sizeOf0
 v0 := Tryz.zeroValue0
 i0 := by kernel_rfl
 t3 := Tryz.underlying3
 a3 := Tryz.isAgg3
 z3 := Tryz.sizeOf3
 v3 := Tryz.zeroValue3
 i3 := by kernel_rfl
 t4 := Tryz.underlying4
 a4 := Tryz.isAgg4
 z4 := Tryz.sizeOf4
 v4 := Tryz.zeroValue4
 i4 := by kernel_rfl
 t5 := Tryz.underlying5
 a5 := Tryz.isAgg5
 z5 := Tryz.sizeOf5
 v5 := Tryz.zeroValue5
 i5 := by kernel_rfl
 t9 := Tryz.underlying9
 a9 := Tryz.isAgg9
 z9 := Tryz.sizeOf9
 v9 := Tryz.zeroValue9
 i9 := by kernel_rfl
 t12 := Tryz.underlying12
 a12 := Tryz.isAgg12
 z12 := Tryz.sizeOf12
 v12 := Tryz.zeroValue12
 i12 := by kernel_rfl
 t17 := Tryz.underlying17
 a17 := Tryz.isAgg17
 z17 := Tryz.sizeOf17
 v17 := Tryz.zeroValue17
 i17 := by kernel_rfl
 t20 := Tryz.underlying20
 a20 := Tryz.isAgg20
 z20 := Tryz.sizeOf20
 v20 := Tryz.zeroValue20
 i20 := by kernel_rfl
 t26 := Tryz.underlying117
 a26 := Tryz.isAgg117
 z26 := Tryz.sizeOf117
 v26 := Tryz.zeroValue117
 i26 := by kernel_rfl
 t32 := Tryz.underlying130
 a32 := Tryz.isAgg130
 z32 := Tryz.sizeOf130
 v32 := Tryz.zeroValue130
 i32 := by kernel_rfl
 t33 := Tryz.underlying131
 a33 := Tryz.isAgg131
 z33 := Tryz.sizeOf131
 v33 := Tryz.zeroValue131
 i33 := by kernel_rfl
 t35 := Tryz.underlying133
 a35 := Tryz.isAgg133
 z35 := Tryz.sizeOf133
 v35 := Tryz.zeroValue133
 i35 := by kernel_rfl
 t37 := Tryz.underlying135
 a37 := Tryz.isAgg135
 z37 := Tryz.sizeOf135
 v37 := Tryz.zeroValue135
 i37 := by kernel_rfl
 t41 := Tryz.underlying139
 a41 := Tryz.isAgg139
 z41 := Tryz.sizeOf139
 v41 := Tryz.zeroValue139
 i41 := by kernel_rfl
 t44 := Tryz.underlying142
 a44 := Tryz.isAgg142
 z44 := Tryz.sizeOf142
 v44 := Tryz.zeroValue142
 i44 := by kernel_rfl
 t49 := Tryz.underlying174
 a49 := Tryz.isAgg174
 z49 := Tryz.sizeOf174
 v49 := Tryz.zeroValue174
 i49 := by kernel_rfl
 t51 := Tryz.underlying176
 a51 := Tryz.isAgg176
 z51 := Tryz.sizeOf176
 v51 := Tryz.zeroValue176
 i51 := by kernel_rfl
 t53 := Tryz.underlying178
 a53 := Tryz.isAgg178
 z53 := Tryz.sizeOf178
 v53 := Tryz.zeroValue178
 i53 := by kernel_rfl
 t54 := Tryz.underlying179
 a54 := Tryz.isAgg179
 z54 := Tryz.sizeOf179
 v54 := Tryz.zeroValue179
 i54 := by kernel_rfl
 t58 := Tryz.underlying183
 a58 := Tryz.isAgg183
 z58 := Tryz.sizeOf183
 v58 := Tryz.zeroValue183
 i58 := by kernel_rfl
 t60 := Tryz.underlying211
 a60 := Tryz.isAgg211
 z60 := Tryz.sizeOf211
 v60 := Tryz.zeroValue211
 i60 := by kernel_rfl
 t64 := Tryz.underlying215
 a64 := Tryz.isAgg215
 z64 := Tryz.sizeOf215
 v64 := Tryz.zeroValue215
 i64 := by kernel_rfl
 t66 := Tryz.underlying237
 a66 := Tryz.isAgg237
 z66 := Tryz.sizeOf237
 v66 := Tryz.zeroValue237
 i66 := by kernel_rfl
 t67 := Tryz.underlying238
 a67 := Tryz.isAgg238
 z67 := Tryz.sizeOf238
 v67 := Tryz.zeroValue238
 i67 := by kernel_rfl
 t75 := Tryz.underlying272
 a75 := Tryz.isAgg272
 z75 := Tryz.sizeOf272
 v75 := Tryz.zeroValue272
 i75 := by kernel_rfl
 t76 := Tryz.underlying273
 a76 := Tryz.isAgg273
 z76 := Tryz.sizeOf273
 v76 := Tryz.zeroValue273
 i76 := by kernel_rfl
 t77 := Tryz.underlying274
 a77 := Tryz.isAgg274
 z77 := Tryz.sizeOf274
 v77 := Tryz.zeroValue274
 i77 := by kernel_rfl
 t78 := Tryz.underlying275
 a78 := Tryz.isAgg275
 z78 := Tryz.sizeOf275
 v78 := Tryz.zeroValue275
 i78 := by kernel_rfl
 t79 := Tryz.underlying276
 a79 := Tryz.isAgg276
 z79 := Tryz.sizeOf276
 v79 := Tryz.zeroValue276
 i79 := by kernel_rfl
 t80 := Tryz.underlying277
 a80 := Tryz.isAgg277
 z80 := Tryz.sizeOf277
 v80 := Tryz.zeroValue277
 i80 := by kernel_rfl
 t82 := Tryz.underlying279
 a82 := Tryz.isAgg279
 z82 := Tryz.sizeOf279
 v82 := Tryz.zeroValue279
 i82 := by kernel_rfl }
end Go.Proofs
namespace Go.Mach
open Go Go.RowKit Go.Proofs Go.Lib
open Go.Sort hiding Below
def encE (p : Ed) : List Value := [.int .i64 p.f0, .int .i64 p.f1]
instance : Inhabited Ed := ⟨zEd⟩
theorem encE_one (f : Ed) : ∀ v ∈ encE f, v.oneCell' = true := fun v hv => by
 simp only [encE, List.mem_cons, List.not_mem_nil, or_false] at hv
 rcases hv with rfl | rfl <;> rfl
def ltE (a b : Ed) : Bool := decide (a.f0 < b.f0) || (decide (a.f0 = b.f0) && decide (a.f1 < b.f1))
theorem ltE_iff {a b : Ed} : ltE a b = true ↔ a.f0 < b.f0 ∨ a.f0 = b.f0 ∧ a.f1 < b.f1 := by simp [ltE]
theorem ltE_no {a b : Ed} : ltE a b = false ↔ ¬ (a.f0 < b.f0 ∨ a.f0 = b.f0 ∧ a.f1 < b.f1) := by
 rw [← ltE_iff]; cases ltE a b <;> simp
theorem ltE_swo : SWO ltE where
 irrefl x := ltE_no.2 (by omega)
 trans x y z h k := by rw [ltE_iff] at *; omega
 ntrans x y z h k := by rw [ltE_no] at *; omega
set_option maxHeartbeats 4000000 in
theorem less_calls (blk off c Bs size : Nat) (W : World) (G0 G1 : Nat → Int) (hs : W.cell? ⟨Bs, 0, none⟩ = some (.slice (some ⟨blk, off, none⟩) size c))
  (h0 : ∀ t, t < size → W.cell? ⟨blk, off + t * 2, none⟩ = some (.int .i64 (G0 t))) (h1 : ∀ t, t < size → W.cell? ⟨blk, off + t * 2 + 1, none⟩ = some (.int .i64 (G1 t))) (i j : Nat) (hi : i < size) (hj : j < size) (hsz : size < 4611686018427387904) :
  Calls Tryz.prog 109 #[.int .i64 i, .int .i64 j, .pointer (some ⟨Bs, 0, none⟩)] W fun e w' => e = .returned (.bool (decide (G0 i < G0 j) || (decide (G0 i = G0 j) && decide (G1 i < G1 j)))) ∧ ∃ q, w' = W.drewN q := by
 have ci := h0 i hi
 have cj := h0 j hj
 have di := h1 i hi
 have dj := h1 j hj
 have hn : Tryz.f109.ntmps = 43 := by kernel_rfl
 have t3 := Tryz.underlying3; have t4 := Tryz.underlying4; have t42 := Tryz.underlying36; have t75 := Tryz.underlying41
 by_cases hlt : G0 i < G0 j
 · have hd : decide (G0 i < G0 j) = true := decide_eq_true hlt
   go_enter Tryz.func109, hn
   go_wp2
   go_quiet (fail)
   go_wp2
   go_ret
   exact ⟨by simp [hlt], nq, rfl⟩
 · have hd : decide (G0 i < G0 j) = false := decide_eq_false hlt
   by_cases heq : G0 i = G0 j
   · have hq : decide (G0 i = G0 j) = true := decide_eq_true heq
     go_enter Tryz.func109, hn
     go_wp2
     go_quiet (fail)
     go_wp2
     go_ret
     exact ⟨by simp [heq], nq, rfl⟩
   · have hq : decide (G0 i = G0 j) = false := decide_eq_false heq
     go_enter Tryz.func109, hn
     go_wp2
     go_quiet (fail)
     go_wp2
     go_ret
     exact ⟨by simp [hlt, heq], nq, rfl⟩
theorem flt_eEd (l : List Ed) : Flt 2 (eEd l) := ⟨by decide, fun e he => by
 simp only [eEd, List.mem_map] at he; obtain ⟨x, _, rfl⟩ := he
 refine ⟨rfl, fun c hc => ?_⟩
 simp only [cEd, List.mem_cons, List.not_mem_nil, or_false] at hc
 rcases hc with rfl | rfl <;> rfl⟩
theorem get_eEd {l : List Ed} {i : Nat} (h : i < l.length) : (eEd l).getD i [] = cEd l[i] := by simp [eEd, h]
theorem cellE {x : Ed} {j : Nat} (hj : j < 2) : valD ((cEd x).getD j .junk) = (encE x)[j]! := by
 match j, hj with
 | 0, _ => rfl
 | 1, _ => rfl
theorem getEA {l : List Ed} {i : Nat} (h : i < l.length) : l.toArray[i]! = l[i] := by simp [h]
theorem holdsE {w : World} {b o c lo hi : Nat} {m : List Ed} (hw : ∀ i j, i < (eEd m).length → j < 2 → w.cell? ⟨b, o + i * 2 + j, none⟩ = some (valD (((eEd m).getD i []).getD j .junk))) (hu : ∀ j, j < (eEd m).length * 2 → w.frozen? ⟨b, o + j, none⟩ = false) : HoldsK encE 2 w b o m.toArray := by
 intro t ht'
 have h2 : t < m.length * 2 := by simpa using ht'
 have h3 : t / 2 < m.length := by omega
 have h4 : t % 2 < 2 := by omega
 have h5 := hw (t / 2) (t % 2) (by rw [len_eEd]; exact h3) h4
 rw [get_eEd h3, cellE h4] at h5
 refine ⟨?_, hu t (by rw [len_eEd]; exact h2)⟩
 rw [show o + t = o + t / 2 * 2 + t % 2 by omega, h5, get_flatK _ _ _ _ (by simpa using h2), getEA h3]
 rfl
theorem rowE_of {w : World} {b o c lo hi : Nat} {m : List Ed} (hH : HoldsK encE 2 w b o m.toArray) (hlo : lo ≤ b) (hhi : b < hi) (hc : m.length ≤ c) (hne : m ≠ []) : Row lo hi w 2 (eEd m) (.slice (some ⟨b, o, none⟩) m.length c) ∧ Unf w 2 (eEd m) (.slice (some ⟨b, o, none⟩) m.length c) := by
 constructor
 · have e : (eEd m).length = m.length := len_eEd m
   rw [← e]
   refine .row b o c (fun h => hne (by cases m; rfl; simp [eEd] at h)) hlo hhi (by rw [e]; exact hc) fun i j hi hj => ?_
   rw [e] at hi
   have h1 := (hH (i * 2 + j) (by simp; omega)).1
   rw [Nat.add_assoc, h1, get_flatK _ _ _ _ (by simp; omega), show (i * 2 + j) / 2 = i by omega, show (i * 2 + j) % 2 = j by omega, getEA hi, get_eEd hi, cellE hj]
   rfl
 · intro b' o' l' c' hv j hj
   injection hv with hv _ _
   injection hv with hv
   injection hv with q1 q2 _
   subst q1
   subst q2
   rw [len_eEd] at hj
   exact (hH j (by simpa using hj)).2
noncomputable def svT : TypeInfo := (Tryz.prog.info? 36).get (by kernel_rfl)
noncomputable def svE : TypeInfo := (Tryz.prog.info? 41).get (by kernel_rfl)
theorem svK (n : Nat) (h2 : 2 ≤ n) : Lib.swapperK n svE 25 = 9 := by
 have a : svE.hasPointers = false := by kernel_rfl
 have b : svE.bytes = 16 := by kernel_rfl
 have c : (n == 0) = false := by simp; omega
 have d : (n == 1) = false := by simp; omega
 simp [Lib.swapperK, a, b, c, d]
def srtE (l : List Ed) : List Ed := l.mergeSort fun x y => !ltE y x
theorem len_srtE (l : List Ed) : (srtE l).length = l.length := by simp [srtE]
theorem ltE_tot (x y : Ed) (h : ltE x y = false) (k : ltE y x = false) : x = y := by
 rw [ltE_no] at h k
 obtain ⟨a, b⟩ := x
 obtain ⟨c, d⟩ := y
 dsimp only at h k
 have : a = c := by omega
 have : b = d := by omega
 subst a b; rfl
theorem srtE_small {m : List Ed} (h : m.length ≤ 1) : srtE m = m := by
 match m, h with
 | [], _ => simp [srtE]
 | [x], _ => simp [srtE]
theorem grow_mark {w : World} {lo hi : Nat} (os : Array Obj) : Mark lo hi w (grow w os) := ⟨rfl, rfl, ⟨rfl, Nat.le_refl _⟩, by rw [size_grow]; omega, fun b hb _ => heap_grow_old _ _ hb⟩
theorem sortE_calls {w : World} {v : Value} {m : List Ed} {lo hi Bs : Nat} (hv : Row lo hi w 2 (eEd m) v) (hu : Unf w 2 (eEd m) v) (hh : hi ≤ Bs) (hB : Bs < w.heap.size) (hc : w.cell? ⟨Bs, 0, none⟩ = some v) (hl : m.length < 4611686018427387904) :
  Calls Tryz.prog 108 #[.iface 36 v, .func (.func 109) #[] #[.pointer (some ⟨Bs, 0, none⟩)]] w fun e w' => e = .returned (.tuple #[]) ∧ Row lo hi w' 2 (eEd (srtE m)) v ∧ Unf w' 2 (eEd (srtE m)) v ∧ Mark lo hi w w' := by
 by_cases h1 : m.length ≤ 1
 · rw [srtE_small h1]
   obtain ⟨a, c, hvs⟩ := hv.shape
   rw [len_eEd] at hvs
   have hT : Calls Tryz.prog 108 #[.iface 36 (.slice a m.length c), .func (.func 109) #[] #[.pointer (some ⟨Bs, 0, none⟩)]] w fun e w' => e = .returned (.tuple #[]) ∧ ∃ os, w' = grow w os := by
    match m, h1 with
    | [], h1 => exact Any.sort_Slice_tiny Tryz.slc98 36 41 svT svE (by kernel_rfl) (by kernel_rfl) (by kernel_rfl) (by kernel_rfl) 25 (fun _ => by kernel_rfl) a 0 c (by omega) 169 (by kernel_rfl) (.func 109) #[] #[.pointer (some ⟨Bs, 0, none⟩)] w
    | [x], h1 => exact Any.sort_Slice_tiny Tryz.slc98 36 41 svT svE (by kernel_rfl) (by kernel_rfl) (by kernel_rfl) (by kernel_rfl) 25 (fun _ => by kernel_rfl) a 1 c (by omega) 170 (by kernel_rfl) (.func 109) #[] #[.pointer (some ⟨Bs, 0, none⟩)] w
   rw [← hvs] at hT
   refine Calls.mono (P := Tryz.prog) (f := 108) hT ?_
   rintro e w' ⟨rfl, os, rfl⟩
   have hs : Stay w (grow w os) := ⟨⟨rfl, rfl, rfl, by rw [size_grow]; omega, fun b hb => heap_grow_old _ _ hb⟩, Nat.le_refl _⟩
   exact ⟨rfl, hv.stay (by omega) hs, hu.stay hv (by omega) hs, grow_mark os⟩
 · have hne : m ≠ [] := by intro e; subst e; simp at h1
   cases hv with
   | nil0 he => exact absurd (by rw [← len_eEd m, he]; rfl) (show ¬ m.length = 0 by omega)
   | empty b o c he => exact absurd (by rw [← len_eEd m, he]; rfl) (show ¬ m.length = 0 by omega)
   | row b o c he hlo hhi hcap hw =>
     have hH : HoldsK encE 2 w b o m.toArray := holdsE (c := c) (lo := lo) (hi := hi) hw (hu b o _ c rfl)
     have hblk : b < w.heap.size := by omega
     have hsz : m.toArray.size = m.length := by simp
     have hless : LessReadsK Tryz.prog 109 #[.pointer (some ⟨Bs, 0, none⟩)] encE 2 ltE b o m.toArray.size w := by
      intro k os dk hs i j hi' hj'
      have e : sortWorldK encE 2 w b o k dk os = putRowK encE 2 (grow (Sort.ahead w k) os) b o dk := by
       unfold sortWorldK; rw [putRowK_grow _ _ (Sort.ahead w k) _ b o _ hblk]
      have hHg : HoldsK encE 2 (grow (Sort.ahead w k) os) b o m.toArray := holdsK_grow _ _ _ _ b o m.toArray hblk (holdsK_ahead _ _ _ _ _ _ _ hH)
      have hcell := holdsK_putRowK _ _ _ b o m.toArray dk hHg hs
      refine less_calls b o c Bs m.toArray.size _ (fun t => dk[t]!.f0) (fun t => dk[t]!.f1) ?_ (fun t ht => ?_) (fun t ht => ?_) i j hi' hj' (by rw [hsz]; exact hl)
      · rw [e, cell?_putRowK_other _ _ _ b o dk _ (show Bs ≠ b by omega), cell?_grow _ _ _ (show Bs < w.heap.size from hB)]
        rw [hsz, ← len_eEd m]; exact hc
      · rw [e]; exact (hcell.cell (i := t) (c := 0) (by omega) (by omega)).1
      · rw [e]; exact (hcell.cell (i := t) (c := 1) (by omega) (by omega)).1
     have hS := Any.sort_Slice_cells_sorted Tryz.slc98 36 41 svT svE (by kernel_rfl) (by kernel_rfl) (by kernel_rfl) (by kernel_rfl) 25 (fun _ => by kernel_rfl) encE 2 (fun _ => rfl) (by kernel_rfl) (fun _ => by kernel_rfl) encE_one ltE ltE_swo 109 _
      (enters_of Tryz.func109 (by kernel_rfl) rfl) b o c m.toArray (by rw [hsz]; omega) (by rw [hsz]; exact hl) 177 (by rw [svK _ (by rw [hsz]; omega)]; kernel_rfl) false
      (fun args W => run_callFunc_extern Tryz.func177 (by kernel_rfl) (by kernel_rfl) (by kernel_rfl) (e := Extern.ReflectliteSwapper.swap false) (by kernel_rfl) args W) w hless hH hblk
     rw [hsz, ← len_eEd m] at hS
     refine Calls.mono (P := Tryz.prog) (f := 108) hS ?_
     rintro e w' ⟨rfl, d', n, os, hP, hSo, rfl⟩
     rw [len_eEd, ← hsz] at hP hSo
     have hd := sorted_unique_holds ltE_swo ltE_tot m.toArray d' hP hSo
     have hd2 : d' = (srtE m).toArray := by
      rw [← Array.toList_inj]; exact hd
     subst hd2
     have e : grow (putRowK encE 2 (Sort.ahead w n) b o (srtE m).toArray) os = sortWorldK encE 2 w b o n (srtE m).toArray os := rfl
     rw [e]
     have hH2 := holdsK_sortWorldK_c encE 2 w b o m.toArray (srtE m).toArray n os hH hblk (by simp [len_srtE])
     have hrow := rowE_of (lo := lo) (hi := hi) (c := c) hH2 hlo hhi (by rw [len_srtE, ← len_eEd m]; exact hcap) (fun h => by rw [← List.length_eq_zero_iff, len_srtE] at h; omega)
     rw [len_srtE, ← len_eEd m] at hrow
     refine ⟨rfl, hrow.1, hrow.2, rfl, rfl, ⟨rfl, Nat.le_add_right _ _⟩, size_sortWorldK_c encE 2 w b o n _ os, fun b' hb' hd => ?_⟩
     have := (below_sorted (enc := id) (w := w) (g := b) (o := o) (n := n) (os := os) (B := 0) (flatK encE 2 (srtE m).toArray) (Nat.zero_le _) hblk)
     have := heap_sorted (enc := id) (w := w) (g := b) (o := o) (n := n) (os := os) (flatK encE 2 (srtE m).toArray) (k := b') hb' (show b' ≠ b by rcases hd with hd | hd <;> omega)
     exact this
end Go.Mach
namespace Go.Mach
open Go Go.RowKit
theorem ltE_tr {a b c : Ed} (h : ltE a b = true) (k : ltE b c = true) : ltE a c = true := ltE_swo.trans a b c h k
theorem ltE_ir (a : Ed) : ltE a a = false := ltE_swo.irrefl a
theorem ltE_as {a b : Ed} (h : ltE a b = true) : ltE b a = false := by rw [ltE_iff] at h; rw [ltE_no]; omega
theorem ltE_ne {a b : Ed} (h : ltE a b = true) : a ≠ b := fun e => by subst e; rw [ltE_ir] at h; cases h
theorem ltE_tt {a b : Ed} (h : ltE a b = false) (k : a ≠ b) : ltE b a = true := by
 rw [ltE_no] at h
 rw [ltE_iff]
 obtain ⟨a, a'⟩ := a
 obtain ⟨b, b'⟩ := b
 have : ¬ (a = b ∧ a' = b') := fun ⟨q, r⟩ => k (by subst q r; rfl)
 dsimp only at h ⊢
 omega
def insE (x : Ed) : List Ed → List Ed
 | [] => [x]
 | a :: t => if ltE a x then a :: insE x t else if a = x then a :: t else x :: a :: t
def RisE (l : List Ed) : Prop := l.Pairwise (fun a b => ltE a b = true)
theorem mem_insE {x y : Ed} : ∀ {l : List Ed}, y ∈ insE x l ↔ y = x ∨ y ∈ l
 | [] => by simp [insE]
 | a :: t => by
   unfold insE
   split
   · rw [List.mem_cons, mem_insE, List.mem_cons]
     constructor
     · rintro (h | h | h)
       · exact .inr (.inl h)
       · exact .inl h
       · exact .inr (.inr h)
     · rintro (h | h | h)
       · exact .inr (.inl h)
       · exact .inl h
       · exact .inr (.inr h)
   · split
     · rename_i h; subst h; simp
     · simp
theorem RisE.nil : RisE [] := List.Pairwise.nil
theorem RisE.ins (x : Ed) : ∀ {l : List Ed}, RisE l → RisE (insE x l)
 | [], _ => List.pairwise_singleton _ _
 | a :: t, h => by
   obtain ⟨h1, h2⟩ := List.pairwise_cons.1 h
   unfold insE
   split
   · rename_i hl
     refine List.pairwise_cons.2 ⟨fun y hy => ?_, RisE.ins x h2⟩
     rcases mem_insE.1 hy with rfl | hy
     · exact hl
     · exact h1 y hy
   · rename_i hl
     split
     · exact h
     · rename_i hne
       have hx : ltE x a = true := ltE_tt (by simpa using hl) hne
       refine List.pairwise_cons.2 ⟨fun y hy => ?_, h⟩
       rcases List.mem_cons.1 hy with rfl | hy
       · exact hx
       · exact ltE_tr hx (h1 y hy)
theorem len_insE (x : Ed) : ∀ l : List Ed, (insE x l).length ≤ l.length + 1
 | [] => by simp [insE]
 | a :: t => by
   have := len_insE x t
   unfold insE
   split
   · simp only [List.length_cons]; omega
   · split <;> simp
theorem insE_at {x : Ed} : ∀ {l : List Ed} (i : Nat), (∀ y ∈ l.take i, ltE y x = true) → insE x l = l.take i ++ insE x (l.drop i)
 | [], i, _ => by simp
 | a :: t, 0, _ => by simp
 | a :: t, i + 1, h => by
   have ha : ltE a x = true := h a (by simp)
   rw [insE, if_pos ha, List.take_succ_cons, List.drop_succ_cons, List.cons_append, insE_at (l := t) i (fun y hy => h y (by simp [hy]))]
theorem insE_snoc {x b : Ed} (h : ltE x b = true) : ∀ m : List Ed, insE x (m ++ [b]) = insE x m ++ [b]
 | [] => by simp only [List.nil_append, insE]; rw [if_neg (by rw [ltE_as h]; decide), if_neg (fun e => ltE_ne h e.symm)]; rfl
 | a :: t => by
   rw [List.cons_append, insE, insE]
   split
   · rw [insE_snoc h t]; rfl
   · split <;> rfl
theorem insE_lt {x : Ed} {l : List Ed} (h : ∀ y ∈ l, ltE y x = true) : insE x l = l ++ [x] := by
 have := insE_at (l := l) l.length (by rw [List.take_length]; exact h)
 rw [this, List.take_length, List.drop_length]; rfl
theorem insE_mem {x : Ed} : ∀ {l : List Ed}, RisE l → x ∈ l → insE x l = l
 | a :: t, hr, h => by
   obtain ⟨h1, h2⟩ := List.pairwise_cons.1 hr
   rw [insE]
   rcases List.mem_cons.1 h with rfl | h
   · rw [if_neg (by rw [ltE_ir]; decide), if_pos rfl]
   · rw [if_pos (h1 x h), insE_mem h2 h]
theorem drop_rdE {l : List Ed} {i : Int} (h0 : 0 ≤ i) (h1 : i < l.length) : l.drop i.toNat = rE l i :: l.drop (i + 1).toNat := by
 have h2 : i.toNat < l.length := by omega
 rw [List.drop_eq_getElem_cons h2, show (i + 1).toNat = i.toNat + 1 by omega]
 congr 1
 simp [rE, rdG, h2]
theorem ltE_step {x b : Ed} {i : Int} {l : List Ed} (h0 : 0 ≤ i) (h1 : i < l.length) (h : ∀ y ∈ l.take i.toNat, ltE y x = true) (hb : rE l i = b) (hx : ltE b x = true) : ∀ y ∈ l.take (i + 1).toNat, ltE y x = true := by
 rw [take_succG zEd h0 h1]
 intro y hy
 rcases List.mem_append.1 hy with hy | hy
 · exact h y hy
 · rw [List.mem_singleton.1 hy]; subst hb; exact hx
theorem gtE_step {x : Ed} {i : Int} {l : List Ed} (h0 : 0 ≤ i) (h1 : i < l.length) (h : ∀ y ∈ l.drop i.toNat, ltE x y = true) : ∀ y ∈ l.drop (i + 1).toNat, ltE x y = true := fun y hy => h y (by rw [drop_rdE h0 h1]; exact List.mem_cons_of_mem _ hy)
theorem gtE_at {x b : Ed} {i : Int} {l : List Ed} (h0 : 0 ≤ i) (h1 : i < l.length) (h : ∀ y ∈ l.drop i.toNat, ltE x y = true) (hb : rE l i = b) : ltE x b = true := h b (by rw [drop_rdE h0 h1, hb]; simp)
theorem gtE_ris {x b : Ed} {i : Int} {l : List Ed} (hr : RisE l) (h0 : 0 ≤ i) (h1 : i < l.length) (hb : rE l i = b) (hx : ltE x b = true) : ∀ y ∈ l.drop (i + 1).toNat, ltE x y = true := by
 have h2 : RisE (l.drop i.toNat) := List.Pairwise.sublist (List.drop_sublist _ _) hr
 rw [drop_rdE h0 h1, hb] at h2
 intro y hy
 exact ltE_tr hx ((List.pairwise_cons.1 h2).1 y hy)
def lEO (x : Ed) (l : List Ed) (i : Int) (d : Bool) : List Ed := if d then insE x (l.take i.toNat) else l.take i.toNat
theorem len_lEO (x : Ed) (l : List Ed) (i : Int) (d : Bool) : (lEO x l i d).length ≤ l.length + 1 := by
 have := len_insE x (l.take i.toNat)
 have := List.length_take_le' i.toNat l
 unfold lEO; split <;> omega
theorem lE_putD {x b : Ed} {i : Int} {l : List Ed} {d : Bool} (hd : d = false) (h0 : 0 ≤ i) (h1 : i < l.length) (h : d = false → ∀ y ∈ l.take i.toNat, ltE y x = true) (hb : rE l i = b) (hx : ltE x b = true) : lEO x l (i + 1) true = lEO x l i d ++ [x] ++ [b] := by
 subst hd
 unfold lEO
 rw [if_pos rfl, if_neg (by decide), take_succG zEd h0 h1, insE_snoc (by subst hb; exact hx), insE_lt (h rfl)]
 subst hb; rfl
theorem lE_go {x b : Ed} {i : Int} {l : List Ed} (h0 : 0 ≤ i) (h1 : i < l.length) (d : Bool) (hb : rE l i = b) (hx : d = true → ltE x b = true) : lEO x l (i + 1) d = lEO x l i d ++ [b] := by
 unfold lEO
 cases d with
 | false => rw [if_neg (by simp), if_neg (by simp), take_succG zEd h0 h1]; subst hb; rfl
 | true => rw [if_pos rfl, if_pos rfl, take_succG zEd h0 h1, insE_snoc (by subst hb; exact hx rfl)]; subst hb; rfl
theorem lE_fin {x : Ed} {i : Int} {l : List Ed} {d : Bool} (hd : d = false) (h : l.length ≤ i) (hq : d = false → ∀ y ∈ l.take i.toNat, ltE y x = true) : insE x l = lEO x l i d ++ [x] := by
 subst hd
 have hq := hq rfl
 unfold lEO
 rw [if_neg (by decide)]
 rw [take_allG h] at hq ⊢; exact insE_lt hq
theorem lE_finT {x : Ed} {i : Int} {l : List Ed} {d : Bool} (hd : d = true) (h : l.length ≤ i) : insE x l = lEO x l i d := by
 subst hd; unfold lEO; rw [if_pos rfl, take_allG h]
theorem push2Ed {l m : List Ed} {x y : Ed} (h : m = l ++ [x] ++ [y]) : eEd l ++ [cEd x] ++ [cEd y] = eEd m := by subst h; simp [eEd]
theorem push1Ed {l m : List Ed} {x : Ed} (h : m = l ++ [x]) : eEd l ++ [cEd x] = eEd m := by subst h; simp [eEd]
def canE (m : List Ed) : List Ed := m.foldl (fun o e => insE e o) []
theorem can_app (m : List Ed) (e : Ed) : canE (m ++ [e]) = insE e (canE m) := by unfold canE; rw [List.foldl_append]; rfl
theorem can_fold : ∀ (m : List Ed) (o : List Ed), RisE o → RisE (m.foldl (fun o e => insE e o) o) ∧ (∀ y, y ∈ m.foldl (fun o e => insE e o) o ↔ y ∈ o ∨ y ∈ m) ∧ (m.foldl (fun o e => insE e o) o).length ≤ o.length + m.length
 | [], o, h => ⟨h, fun y => by simp, by simp⟩
 | e :: m, o, h => by
   obtain ⟨h1, h2, h3⟩ := can_fold m (insE e o) (h.ins e)
   have h4 := len_insE e o
   refine ⟨h1, fun y => ?_, by simp only [List.foldl_cons, List.length_cons]; omega⟩
   rw [List.foldl_cons, h2, mem_insE, List.mem_cons]
   constructor
   · rintro ((h | h) | h)
     · exact .inr (.inl h)
     · exact .inl h
     · exact .inr (.inr h)
   · rintro (h | h | h)
     · exact .inl (.inr h)
     · exact .inl (.inl h)
     · exact .inr h
theorem can_ris (m : List Ed) : RisE (canE m) := (can_fold m [] .nil).1
theorem can_mem {m : List Ed} {y : Ed} : y ∈ canE m ↔ y ∈ m := by rw [canE, (can_fold m [] .nil).2.1]; simp
theorem can_len (m : List Ed) : (canE m).length ≤ m.length := by have := (can_fold m [] .nil).2.2; unfold canE; simpa using this
theorem ris_uniq {l m : List Ed} (h : RisE l) (k : RisE m) (hm : ∀ y, y ∈ l ↔ y ∈ m) : l = m := by
 have n1 : l.Nodup := List.Pairwise.imp (fun h => ltE_ne h) h
 have n2 : m.Nodup := List.Pairwise.imp (fun h => ltE_ne h) k
 have hp : l.Perm m := (List.perm_ext_iff_of_nodup n1 n2).2 hm
 refine List.Perm.eq_of_pairwise (le := fun a b => ltE a b = true) (fun a b _ _ h1 h2 => ?_) h k hp
 rw [ltE_as h1] at h2; cases h2
def dedE (l : List Ed) : Nat → List Ed
 | 0 => []
 | n + 1 => dedE l n ++ if n = 0 ∨ l.getD (n - 1) zEd ≠ l.getD n zEd then [l.getD n zEd] else []
theorem len_dedE (l : List Ed) : ∀ n, (dedE l n).length ≤ n
 | 0 => Nat.le_refl _
 | n + 1 => by
   have := len_dedE l n
   rw [dedE, List.length_append]
   split <;> simp <;> omega
theorem ded_ok {l : List Ed} (hs : l.Pairwise (fun a b => ltE b a = false)) : ∀ n, n ≤ l.length → RisE (dedE l n) ∧ ∀ y, y ∈ dedE l n ↔ y ∈ l.take n
 | 0, _ => ⟨.nil, fun y => by simp [dedE]⟩
 | n + 1, hn => by
   obtain ⟨h1, h2⟩ := ded_ok hs n (by omega)
   have hg : l.getD n zEd = l[n] := by simp [show n < l.length by omega]
   have ht : l.take (n + 1) = l.take n ++ [l[n]] := List.take_succ_eq_append_getElem (by omega)
   have hp := List.pairwise_iff_getElem.1 hs
   have hmem : ∀ y ∈ l.take n, ∃ i, ∃ h : i < l.length, i < n ∧ l[i] = y := fun y hy => by
    obtain ⟨i, hi, rfl⟩ := List.getElem_of_mem hy
    rw [List.length_take] at hi
    exact ⟨i, by omega, by omega, by simp⟩
   rw [dedE]
   split
   · rename_i hc
     refine ⟨List.pairwise_append.2 ⟨h1, List.pairwise_singleton _ _, fun a ha b hb => ?_⟩, fun y => ?_⟩
     · rw [List.mem_singleton.1 hb, hg]
       obtain ⟨i, hi, hin, rfl⟩ := hmem a ((h2 a).1 ha)
       have hn0 : n ≠ 0 := by omega
       have hc := hc.resolve_left hn0
       have hg1 : l.getD (n - 1) zEd = l[n - 1] := by simp [show n - 1 < l.length by omega]
       rw [hg, hg1] at hc
       have hlast : ltE l[n - 1] l[n] = true := ltE_tt (hp (n - 1) n (by omega) (by omega) (by omega)) (fun e => hc e.symm)
       by_cases hl : i = n - 1
       · subst hl; exact hlast
       · by_cases he : l[i] = l[n - 1]
         · rw [he]; exact hlast
         · exact ltE_tr (ltE_tt (hp i (n - 1) (by omega) (by omega) (by omega)) (fun e => he e.symm)) hlast
     · rw [List.mem_append, h2, ht, List.mem_append, hg]
   · rename_i hc
     rw [not_or] at hc
     obtain ⟨hn0, hc⟩ := hc
     have hc := Classical.not_not.1 hc
     rw [List.append_nil]
     refine ⟨h1, fun y => ?_⟩
     rw [h2, ht, List.mem_append, List.mem_singleton]
     refine ⟨.inl, ?_⟩
     rintro (h | h)
     · exact h
     · subst h
       have hg1 : l.getD (n - 1) zEd = l[n - 1] := by simp [show n - 1 < l.length by omega]
       rw [hg, hg1] at hc
       rw [← hc]
       exact List.mem_iff_getElem.2 ⟨n - 1, by rw [List.length_take]; omega, by simp⟩
def edgeP (l : List Nd) (fs : List Fc) (f : Fc) : Bool := decide (f.k = 6) && decide ((rN l f.n).f0 = 4) && !decide ((vals fs 0 (rN l f.n).f2 f.c).length = 0)
def edgesV (n : Int) (vs : List Ab) : List Ed := (vs.filter fun v => decide (v.k = 1)).map fun v => ⟨n, v.n⟩
def edgesF (l : List Nd) (fs : List Fc) (f : Fc) : List Ed := if edgeP l fs f then edgesV f.n (vals fs 0 (rN l f.n).f1 f.c) else []
def rawG (l : List Nd) (fs gs : List Fc) : List Ed := gs.flatMap (edgesF l fs)
theorem rawG_step {l : List Nd} {fs gs : List Fc} {i : Int} {y : Fc} (h0 : 0 ≤ i) (h1 : i < gs.length) (hy : rF gs i = y) : rawG l fs (gs.take (i + 1).toNat) = rawG l fs (gs.take i.toNat) ++ edgesF l fs y := by
 unfold rawG
 rw [take_succG zF h0 h1, show rdG zF gs i = y from hy, List.flatMap_append]; simp
theorem edgesF_no {l : List Nd} {fs : List Fc} {y : Fc} (h : edgeP l fs y = false) : edgesF l fs y = [] := by unfold edgesF; rw [h]; rfl
theorem edgesF_yes {l : List Nd} {fs : List Fc} {y : Fc} (h : edgeP l fs y = true) : edgesF l fs y = edgesV y.n (vals fs 0 (rN l y.n).f1 y.c) := by unfold edgesF; rw [h]; rfl
theorem edgeP_no1 {l : List Nd} {fs : List Fc} {y : Fc} (h : ¬ y.k = 6) : edgeP l fs y = false := by unfold edgeP; simp [h]
theorem edgeP_no2 {l : List Nd} {fs : List Fc} {y : Fc} {n : Nd} (hn : rN l y.n = n) (h : ¬ n.f0 = 4) : edgeP l fs y = false := by unfold edgeP; rw [hn]; simp [h]
theorem edgeP_no3 {l : List Nd} {fs : List Fc} {y : Fc} {n : Nd} {v : List Ab} (hn : rN l y.n = n) (hv : vals fs 0 n.f2 y.c = v) (h : (v.length : Int) = 0) : edgeP l fs y = false := by
 unfold edgeP; rw [hn, hv]; have : v.length = 0 := by omega
 simp [this]
theorem edgeP_yes {l : List Nd} {fs : List Fc} {y : Fc} {n : Nd} {v : List Ab} (h1 : y.k = 6) (hn : rN l y.n = n) (h2 : n.f0 = 4) (hv : vals fs 0 n.f2 y.c = v) (h : ¬ (v.length : Int) = 0) : edgeP l fs y = true := by
 unfold edgeP; rw [hn, hv]; have : ¬ v.length = 0 := by omega
 simp [this, h1, h2]
theorem edgesV_step {n : Int} {vs : List Ab} {i : Int} {y : Ab} (h0 : 0 ≤ i) (h1 : i < vs.length) (hy : rA vs i = y) : edgesV n (vs.take (i + 1).toNat) = edgesV n (vs.take i.toNat) ++ if y.k = 1 then [⟨n, y.n⟩] else [] := by
 unfold edgesV
 rw [take_succG zA h0 h1, show rdG zA vs i = y from hy, List.filter_append, List.map_append]
 congr 1
 by_cases h : y.k = 1 <;> simp [h]
theorem edgesV_hit {n : Int} {vs : List Ab} {i : Int} {y : Ab} (h0 : 0 ≤ i) (h1 : i < vs.length) (hy : rA vs i = y) (h : y.k = 1) : edgesV n (vs.take (i + 1).toNat) = edgesV n (vs.take i.toNat) ++ [⟨n, y.n⟩] := by
 rw [edgesV_step h0 h1 hy, if_pos h]
theorem edgesV_miss {n : Int} {vs : List Ab} {i : Int} {y : Ab} (h0 : 0 ≤ i) (h1 : i < vs.length) (hy : rA vs i = y) (h : ¬ y.k = 1) : edgesV n (vs.take (i + 1).toNat) = edgesV n (vs.take i.toNat) := by
 rw [edgesV_step h0 h1 hy, if_neg h, List.append_nil]
theorem edgesV_len (n : Int) (vs : List Ab) : (edgesV n vs).length ≤ vs.length := by unfold edgesV; rw [List.length_map]; exact List.length_filter_le _ _
theorem edgesV_lenT (n : Int) (vs : List Ab) (i : Nat) : (edgesV n (vs.take i)).length ≤ vs.length := Nat.le_trans (edgesV_len n _) (List.length_take_le' i vs)
theorem edgesF_len (l : List Nd) (fs : List Fc) (f : Fc) : (edgesF l fs f).length ≤ fs.length := by
 unfold edgesF; split
 · exact Nat.le_trans (edgesV_len _ _) (len_vals _ _ _ _)
 · exact Nat.zero_le _
theorem rawG_len {l : List Nd} {fs : List Fc} : ∀ gs : List Fc, (rawG l fs gs).length ≤ gs.length * fs.length
 | [] => by simp [rawG]
 | f :: gs => by
   have h1 := edgesF_len l fs f
   have h2 := rawG_len (l := l) (fs := fs) gs
   unfold rawG at h2 ⊢
   rw [List.flatMap_cons, List.length_append, List.length_cons, Nat.succ_mul]
   omega
theorem rawG_lenT {l : List Nd} {fs : List Fc} (h : fs.length ≤ 2500) (i : Nat) : (rawG l fs (fs.take i)).length ≤ 6250000 := by
 have h1 := rawG_len (l := l) (fs := fs) (fs.take i)
 have h2 := List.length_take_le' i fs
 have h3 : (fs.take i).length * fs.length ≤ 2500 * 2500 := Nat.mul_le_mul (by omega) h
 omega
theorem rawG_inn {l : List Nd} {fs : List Fc} (h : fs.length ≤ 2500) (i : Nat) (n c : Int) (m : Int) (j : Nat) : (rawG l fs (fs.take i) ++ edgesV m ((vals fs 0 n c).take j)).length ≤ 6252500 := by
 have h1 := rawG_lenT (l := l) h i
 have h2 := edgesV_lenT m (vals fs 0 n c) j
 have h3 := len_vals fs 0 n c
 rw [List.length_append]; omega
def graphR (l : List Nd) (dp : Int) : List Ed := rawG l (solveR l dp).1 (solveR l dp).1
def graphM (l : List Nd) (dp : Int) : List Ed := canE (graphR l dp)
theorem graphR_len (l : List Nd) (dp : Int) : (graphR l dp).length ≤ 6250000 := by
 have h := (solveR_all l dp).1
 have h1 := rawG_lenT (l := l) h (solveR l dp).1.length
 rw [List.take_length] at h1; exact h1
theorem graphM_len (l : List Nd) (dp : Int) : (graphM l dp).length ≤ 6250000 := Nat.le_trans (can_len _) (graphR_len l dp)
theorem graphM_lenT (l : List Nd) (dp : Int) (i : Nat) : ((graphM l dp).take i).length ≤ 6250000 := Nat.le_trans (List.length_take_le' _ _) (graphM_len l dp)
theorem can_hit {m : List Ed} {e : Ed} {o : List Ed} (h : insE e (canE m) = o) : o = canE (m ++ [e]) := by rw [can_app, h]
theorem can_lenT {m : List Ed} {n : Nat} (h : m.length ≤ n) : (canE m).length ≤ n := Nat.le_trans (can_len m) h
theorem srtE_ded (m : List Ed) : dedE (m.mergeSort fun x y => !ltE y x) m.length = canE m := by
 have hp : (m.mergeSort fun x y => !ltE y x).Perm m := List.mergeSort_perm _ _
 have hs : (m.mergeSort fun x y => !ltE y x).Pairwise (fun a b => ltE b a = false) := by
  have := List.pairwise_mergeSort (le := fun x y => !ltE y x) (fun a b c h1 h2 => ?_) (fun a b => ?_) m
  · exact this.imp fun h => by simpa using h
  · rw [Bool.not_eq_true'] at h1 h2 ⊢
    rw [ltE_no] at h1 h2 ⊢
    omega
  · by_cases h : ltE b a = true
    · rw [h, ltE_as h]; rfl
    · rw [Bool.not_eq_true] at h; rw [h]; rfl
 obtain ⟨h1, h2⟩ := ded_ok hs m.length (by rw [hp.length_eq]; exact Nat.le_refl _)
 refine ris_uniq h1 (can_ris m) fun y => ?_
 rw [h2, List.take_of_length_le (by rw [hp.length_eq]; exact Nat.le_refl _), can_mem, hp.mem_iff]
theorem graph_in (l : List Nd) (dp : Int) : ∀ e ∈ graphM l dp, (0 ≤ e.f0 ∧ e.f0 < l.length) ∧ 0 ≤ e.f1 ∧ e.f1 < l.length := by
 intro e he
 have he : e ∈ graphR l dp := can_mem.1 he
 unfold graphR rawG at he
 obtain ⟨f, hf, he⟩ := List.mem_flatMap.1 he
 unfold edgesF at he
 split at he
 · unfold edgesV at he
   obtain ⟨v, hv, rfl⟩ := List.mem_map.1 he
   have hv := mem_vals.1 (List.mem_filter.1 hv).1
   refine ⟨(solveR_all l dp).2 f hf, ?_⟩
   unfold solveR at hv
   split at hv
   · rename_i fs hs
     exact (solveO_fit hs).2.1.vn _ hv
   · cases hv
 · cases he
theorem beq2_no {a b c d : Int} (h : (a == b && (c == d && true)) = false) : ¬(a = b ∧ c = d) := by
 rintro ⟨rfl, rfl⟩; simp at h
theorem solveR_fr (l : List Nd) (dp : Int) : Up (solveR l dp).1 ∧ (∀ f ∈ (solveR l dp).1, 0 ≤ f.v.k) ∧ (∀ f ∈ (solveR l dp).1, 0 ≤ f.v.k ∧ 0 ≤ f.v.n) := by
 unfold solveR
 split
 · rename_i fs hs
   have h := (solveO_fit hs).2.1
   exact ⟨h.up, h.vk, fun f hf => ⟨h.vk f hf, (h.vn f hf).1⟩⟩
 · exact ⟨List.Pairwise.nil, (fun f hf => absurd hf (by simp)), (fun f hf => absurd hf (by simp))⟩
theorem edges_inn {l : List Nd} {fs : List Fc} (h : fs.length ≤ 2500) {n c : Int} {v : List Ab} (hv : vals fs 0 n c = v) (i : Nat) (m : Int) (j : Nat) : (rawG l fs (fs.take i) ++ edgesV m (v.take j)).length ≤ 6252500 := by
 subst hv; exact rawG_inn h i n c m j
theorem rawG_miss {l : List Nd} {fs gs : List Fc} {i : Int} {y : Fc} (h0 : 0 ≤ i) (h1 : i < gs.length) (hy : rF gs i = y) (hp : edgeP l fs y = false) : rawG l fs (gs.take (i + 1).toNat) = rawG l fs (gs.take i.toNat) := by
 rw [rawG_step h0 h1 hy, edgesF_no hp, List.append_nil]
theorem inn_zero (r : List Ed) (n : Int) (v : List Ab) : r ++ edgesV n (v.take (0 : Int).toNat) = r := by simp [edgesV]
theorem inn_hit {r : List Ed} {n : Int} {vs : List Ab} {i : Int} {y : Ab} (h0 : 0 ≤ i) (h1 : i < vs.length) (hy : rA vs i = y) (h : y.k = 1) : r ++ edgesV n (vs.take (i + 1).toNat) = r ++ edgesV n (vs.take i.toNat) ++ [⟨n, y.n⟩] := by
 rw [edgesV_hit h0 h1 hy h, List.append_assoc]
theorem inn_hitC {r : List Ed} {n : Int} {vs : List Ab} {i : Int} {y : Ab} (h0 : 0 ≤ i) (h1 : i < vs.length) (hy : rA vs i = y) (h : y.k = 1) : canE (r ++ edgesV n (vs.take (i + 1).toNat)) = insE ⟨n, y.n⟩ (canE (r ++ edgesV n (vs.take i.toNat))) := by
 rw [inn_hit h0 h1 hy h, can_app]
theorem inn_miss {r : List Ed} {n : Int} {vs : List Ab} {i : Int} {y : Ab} (h0 : 0 ≤ i) (h1 : i < vs.length) (hy : rA vs i = y) (h : ¬ y.k = 1) : r ++ edgesV n (vs.take (i + 1).toNat) = r ++ edgesV n (vs.take i.toNat) := by
 rw [edgesV_miss h0 h1 hy h]
theorem inn_end {l : List Nd} {fs gs : List Fc} {i b : Int} {y : Fc} {nd : Nd} {v : List Ab} (h0 : 0 ≤ i) (h1 : i < gs.length) (hy : rF gs i = y) (hp : edgeP l fs y = true) (hn : rN l y.n = nd) (hv : vals fs 0 nd.f1 y.c = v) (hb : (v.length : Int) ≤ b) : rawG l fs (gs.take (i + 1).toNat) = rawG l fs (gs.take i.toNat) ++ edgesV y.n (v.take b.toNat) := by
 rw [rawG_step h0 h1 hy, edgesF_yes hp, hn, hv, take_allG hb]
theorem graph_fin {l : List Nd} {dp i : Int} (h : ((solveR l dp).1.length : Int) ≤ i) : canE (rawG l (solveR l dp).1 ((solveR l dp).1.take i.toNat)) = graphM l dp := by
 rw [take_allG h]; rfl
theorem graphR_fin {l : List Nd} {dp i : Int} (h : ((solveR l dp).1.length : Int) ≤ i) : rawG l (solveR l dp).1 ((solveR l dp).1.take i.toNat) = graphR l dp := by
 rw [take_allG h]; rfl
theorem vals_lenE {fs : List Fc} (h : fs.length ≤ 2500) {k n c : Int} {v : List Ab} (hv : vals fs k n c = v) : v.length ≤ 2500 := by
 subst hv; exact Nat.le_trans (len_vals fs k n c) h
theorem beq2_yes {a b c d : Int} (h : (a == b && (c == d && true)) = true) : a = b ∧ c = d := by simpa using h
theorem ded_firstE {l : List Ed} {i : Int} {y : Ed} (h0 : i = 0) (hy : rE l i = y) : dedE l i.toNat ++ [y] = dedE l (i + 1).toNat := by
 subst h0 hy; rfl
theorem ded_stepE {l : List Ed} {i : Int} (h0 : 0 ≤ i) : dedE l (i + 1).toNat = dedE l i.toNat ++ if i.toNat = 0 ∨ l.getD (i.toNat - 1) zEd ≠ l.getD i.toNat zEd then [l.getD i.toNat zEd] else [] := by
 rw [show (i + 1).toNat = i.toNat + 1 by omega]; rfl
theorem ded_newE {l : List Ed} {i : Int} {y q : Ed} (h0 : 0 ≤ i) (hn : ¬ i = 0) (hy : rE l i = y) (hq : rE l (i - 1) = q) (hne : ¬ q = y) : dedE l i.toNat ++ [y] = dedE l (i + 1).toNat := by
 subst hy hq
 rw [ded_stepE h0, if_pos]; rfl
 refine .inr fun e => hne ?_
 have : (i - 1).toNat = i.toNat - 1 := by omega
 unfold rE rdG; rw [this]; exact e
theorem ded_oldE {l : List Ed} {i : Int} {y q : Ed} (h0 : 0 ≤ i) (hn : ¬ i = 0) (hy : rE l i = y) (hq : rE l (i - 1) = q) (he : q = y) : dedE l (i + 1).toNat = dedE l i.toNat := by
 subst hy hq
 rw [ded_stepE h0, if_neg, List.append_nil]
 have h : (i - 1).toNat = i.toNat - 1 := by omega
 unfold rE rdG at he; rw [h] at he
 rintro (h2 | h2)
 · omega
 · exact h2 he
end Go.Mach
namespace Go.Mach
open Go Go.RowKit Go.Proofs
noncomputable def impl_edgesIn_rest.fi : FnI := { fni Tryz.f63 (fun | 4 => [1, 3, 10, 11, 12] | _ => []) false with body := dropC 1 (bodyOf Tryz.f63), nw := true }
theorem impl_edgesIn_rest.part {xa xb : Option (List D → Option D)} (o : Std) (ho : o = std) (l : List Ed) (h0 : l.length ≤ 6300000) : AnsI (env xa xb) impl_edgesIn_rest.fi .ret (fun s => outD (env xa xb) impl_edgesIn_rest.fi.nw s impl_edgesIn_rest.fi.res) [Jk, .pel [rEd o l] 0, .sl .nil 2 []] (fun d_ tk_ => d_ = .sl .nw 2 (o.bx fun _ => eEd (dedE l l.length)) ∧ (True)) := by
 refine AnsI.mkA ho (by rfl) ?_
 repeat' (first
  | (refine .id ?_
     (try (conv => arg 2; cbv))
     first
      | (refine .indF (fun m_ s_ => ∃ (ea3 : Box) (a11 : Int) (a12 : Int) (ta3 : Tok) (tk : List Nat), s_ = ⟨[Jk, .pel [rEd o l] 0, Jk, .sl ta3 2 ea3, Jk, Jk, Jk, Jk, Jk, Jk, rEd o l, iX a11, iX a12] ++ List.replicate 21 Jk, [], [], tk⟩ ∧ Lw tk ta3 ea3.length ∧ ea3 = (o.bx fun _ => eEd (dedE l a12.toNat)) ∧ (a11 = l.length ∧ 0 ≤ a12 ∧ a12 ≤ l.length) ∧ (l.length - a12).toNat ≤ m_) _ _ ⟨_, _, _, _, _, by subst ho; rfl, ?_, ?_, ?_, Nat.le_refl _⟩ ?_
         rotate_right
         rintro m_ _ ⟨ea3, a11, a12, ta3, tk, rfl, hla0, rfl, hIa, hka⟩ iha
         obtain ⟨i1, i2, i3⟩ := hIa; have hrl := len_dedE l a12.toNat; refine .unloopA ho ?_
         repeat' (first
          | (refine .id ?_
             (try (conv => arg 2; cbv))
             first
              | refine .testT ?_
              | refine .t1 ?_
              | refine .t0 ?_
              | (refine .test (fun hr => ?_) (fun hr => ?_) <;> (have hb := hr) <;> (try simp (disch := omega) only [ho, std, wI, lenE, Int.ofNat_eq_natCast, nrm] at hb) <;> (try (exfalso; first | contradiction | omega | exact hb rfl)))
              | (refine .fetchXEd ho ?_ ?_ (fun y hy => ?_); rotate_left 2; rcases y with ⟨y0, y1⟩; (first | (have _h := hyp; have hyq := hy) | (have hyp := hy; obtain ⟨p0, e_p0⟩ : ∃ z, z = y0 := ⟨_, rfl⟩; subst e_p0; obtain ⟨p1, e_p1⟩ : ∃ z, z = y1 := ⟨_, rfl⟩; subst e_p1)))
              | (refine .needD ho (by kernel_rfl) ?_)
              | (refine .need ?_ ?_)
              | (refine .app1w ?_ (fun t' tk' hl' => ?_))
              | (refine iha _ _ ?_ ⟨_, _, _, _, _, by subst ho; rfl, ?_, ?_, ?_, Nat.le_refl _⟩)
              | (refine .done ⟨rfl, ?_⟩; refine ⟨_, by (conv => lhs; cbv) <;> rfl, ?_⟩))
          | ((fail_if_success (refine .id ?_))
             first
              | (exact Lw.nil)
              | (subst ho; exact hla0)
              | (subst ho; rcases Lw.kind hla0 with rfl | ⟨_, rfl⟩ <;> exact ⟨congrArg (D.sl _ 2) (congrArg eEd (congrArg (dedE l) (by omega))), trivial⟩)
              | (subst ho; exact ⟨by simp [std, len_eEd], Int.le_refl _, by omega⟩)
              | (subst ho; simp (disch := omega) only [std, wI] at *; exact push1Ed (ded_firstE (by omega) hyp).symm)
              | (subst ho; simp (disch := omega) only [std, wI] at *; exact push1Ed (ded_newE i2 (by omega) hyp hyq (fun h => beq2_no (by assumption) (Ed.mk.inj h))).symm)
              | (subst ho; simp (disch := omega) only [std, wI] at *; refine congrArg eEd ?_; exact (ded_oldE i2 (by omega) hyp hyq (by obtain ⟨rfl, rfl⟩ := beq2_yes (by assumption); rfl)).symm)
              | ((try clear iha); subst ho; simp (disch := omega) only [std, wI]; exact ⟨i1, by omega, by omega⟩)
              | assumption
              | omega
              | (subst ho; rfl)
              | (subst ho; simpa [std, lenE] using hl')
              | (subst ho; simp (disch := omega) only [std, wI, tdiv2, tdivN, lenE] <;> first | done | rfl | omega)
              | (subst ho; simp [std, lenE]; omega)))))
  | ((fail_if_success (refine .id ?_))
     first
      | fail))
end Go.Mach
