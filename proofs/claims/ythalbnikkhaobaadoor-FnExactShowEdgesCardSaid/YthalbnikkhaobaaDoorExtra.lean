/- Words beside the print's own: a cut with a capacity. Plain lemmas. -/
import Derived.Laws.Slices
import Derived.Test.YthalbnikkhaobaaDoorWWords
import Derived.Test.YthalbnikkhaobaaDoorWFootNe
import Derived.Test.YthalbnikkhaobaaDoorWKept
namespace Go.Proofs.YthalbnikkhaobaaDoorW.PrintWords
open Go.RowKit
section
variable {P : Program}
theorem cut_to3 (t e : TypeId) (kh : IntKind) {i : TypeInfo} (ht : P.underlying t = some (.slice e)) (hi : P.info? e = some i) (A : Option Addr) (n c : Nat) (j m : Int) (h0 : 0 ≤ j) (hj : j ≤ m) (hm : m ≤ n) (hc : n ≤ c) :
    ∀ W : World, (Instr.slice t (.slice A n c) none (some (.int kh j)) (some (.int kh m))).run P W = .ok (.slice A j.toNat m.toNat) W := by
  intro W
  have hel : P.elem t = e := by simp [Program.elem, ht]
  have hu : P.underlying t = some (.slice (P.elem t)) := by rw [hel]; exact ht
  have ha : (A.map fun x => x.add 0) = A := by cases A <;> simp [Addr.add]
  rw [run_slice_hm W t A n c hu kh kh j m h0 hj (by omega), hel]
  simp [sizeOf, typeInfo, hi, sliced, Result.andThen, ha]
end
/-- A row inside a row that stays read whatever happens to the rows that are written: it stays read too. -/
theorem Kd.kept_inner {α β : Type} {d : Kd α} {e : Kd β} {w W : World} {S : Nat → Prop} {ad : Addr} {xs : List α} {ys : List β} {j : Int} {a : Addr} {A' : Option Addr} {n m' c' : Nat}
    (h : ∀ W', Kept w W' S → d.C W' (some ad) n xs) (hk : Kept w W S) (h0 : 0 ≤ j) (h1 : j < (n : Int)) (hs : 0 < d.sz) (ha : a.block = ad.block) (hx : W.cell? a = some (.slice A' m' c'))
    (hat : ∀ W', Kept w W' S → ∃ A2 m2 c2, W'.cell? a = some (.slice A2 m2 c2) ∧ e.C W' A2 ys.length ys) : ∀ W', Kept w W' S → e.C W' A' ys.length ys := by
  have hS : ¬ S a.block := by rw [ha]; exact Kd.foot_neS h (by omega) hs
  obtain ⟨A0, m0, c0, x0, _⟩ := hat w (Kept.refl w S)
  have hx0 := (cell_kept x0 hk hS).symm.trans hx
  intro W' hk'
  obtain ⟨A2, m2, c2, x2, g2⟩ := hat W' hk'
  have hx2 := (cell_kept x0 hk' hS).symm.trans x2
  injection hx0 with hx0
  injection hx0 with e0 _ _
  injection hx2 with hx2
  injection hx2 with e2 _ _
  rw [← e0, e2]; exact g2
/-- A store behind a draw is a draw behind the store. -/
theorem setCell_drewN (W : World) (n : Nat) (a : Addr) (v : Value) : (W.drewN n).setCell a v = (W.setCell a v).drewN n := rfl
theorem isEmpty_ne (l : List UInt8) : (l != []) = !l.isEmpty := by cases l <;> rfl
end Go.Proofs.YthalbnikkhaobaaDoorW.PrintWords
