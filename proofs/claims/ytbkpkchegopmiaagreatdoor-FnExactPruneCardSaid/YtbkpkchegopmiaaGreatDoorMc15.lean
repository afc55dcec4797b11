/- What the statements share: part 15 of a proof by an executable machine over the program's code. -/
import Derived.Test.YtbkpkchegopmiaaGreatDoorMc14
import Derived.Laws.Strings
set_option linter.unusedVariables false
set_option linter.unusedSimpArgs false
namespace Go.Mach
open Go Go.RowKit
structure FitF (l : List Nd) (f : Fc) : Prop where
 node : 0 ≤ f.n ∧ f.n < l.length
 vk : 0 ≤ f.v.k
 vn : 0 ≤ f.v.n ∧ f.v.n < l.length
 lam : f.v.k = 1 → lamB (rN l f.v.n) = true
 zero : f.k = 7 → f.v = ⟨0, 0, 0⟩
theorem Fit.one {l : List Nd} {fs : List Fc} (h : Fit l fs) {f : Fc} (hf : f ∈ fs) : FitF l f := ⟨h.node f hf, h.vk f hf, h.vn f hf, h.lam f hf, h.zero f hf⟩
theorem Fit.mk' {l : List Nd} {fs : List Fc} (hu : Up fs) (h : ∀ f ∈ fs, FitF l f) : Fit l fs := ⟨hu, fun f hf => (h f hf).node, fun f hf => (h f hf).vk, fun f hf => (h f hf).vn, fun f hf => (h f hf).lam, fun f hf => (h f hf).zero⟩
theorem mem_flowL {fs : List Fc} {a b c tk tn tc : Int} {x : Fc} (h : x ∈ flowL fs a b c tk tn tc) : ∃ v, (⟨a, b, c, v⟩ : Fc) ∈ fs ∧ x = ⟨tk, tn, tc, v⟩ := by
 unfold flowL mapF at h
 obtain ⟨v, hv, rfl⟩ := List.mem_map.1 h
 exact ⟨v, mem_vals.1 hv, rfl⟩
section
variable {l : List Nd} {fs : List Fc} {x : Fc}
theorem fit_flow (h : Fit l fs) {a b c tk tn tc : Int} (hx : x ∈ flowL fs a b c tk tn tc) (ht : 0 ≤ tn ∧ tn < l.length) (hk : tk ≠ 7) : FitF l x := by
 obtain ⟨v, hv, rfl⟩ := mem_flowL hx
 have := h.one hv
 exact ⟨ht, this.vk, this.vn, this.lam, fun e => absurd e hk⟩
theorem fit_see (hT : OkT l) {i c : Int} (hx : x ∈ seeL i c) (hi : 0 ≤ i ∧ i < l.length) : FitF l x := by
 have hs := hT.size
 simp only [seeL, List.mem_singleton] at hx
 subst hx
 exact ⟨hi, Int.le_refl _, ⟨Int.le_refl _, by dsimp only; omega⟩, fun e => absurd e (by dsimp only; omega), fun e => rfl⟩
theorem fit_rise (hT : OkT l) {b : Bool} {i c : Int} (hx : x ∈ riseL b i c) (hi : 0 ≤ i ∧ i < l.length) : FitF l x := by
 have hs := hT.size
 unfold riseL at hx
 split at hx
 · simp only [List.mem_singleton] at hx
   subst hx
   exact ⟨hi, Int.le_refl _, ⟨Int.le_refl _, by dsimp only; omega⟩, fun e => absurd e (by dsimp only; omega), fun e => rfl⟩
 · cases hx
theorem fit_new {k c vk vn vc : Int} {i : Int} (hx : x ∈ ([⟨k, i, c, ⟨vk, vn, vc⟩⟩] : List Fc)) (hi : 0 ≤ i ∧ i < l.length) (hk : k ≠ 7) (h1 : 0 ≤ vk) (h2 : 0 ≤ vn ∧ vn < l.length) (h3 : vk = 1 → lamB (rN l vn) = true) : FitF l x := by
 simp only [List.mem_singleton] at hx
 subst hx
 exact ⟨hi, h1, h2, h3, fun e => absurd e hk⟩
theorem kids_in (hT : OkT l) {i : Int} (h0 : 0 ≤ i) (h1 : i < l.length) : ∀ k ∈ kidsM (rN l i), 0 ≤ k ∧ k < l.length := fun k hk => by
 obtain ⟨st, _, _, ht, _⟩ := hT.tiled
 have := (ht.tile i.toNat (by omega)).1 k (by rw [Int.toNat_of_nonneg h0]; exact hk)
 omega
theorem fields_in (hT : OkT l) {i : Int} (h0 : 0 ≤ i) (h1 : i < l.length) : (0 ≤ (rN l i).f1 ∧ (rN l i).f1 < l.length) ∧ (0 ≤ (rN l i).f2 ∧ (rN l i).f2 < l.length) ∧ (0 ≤ (rN l i).f3 ∧ (rN l i).f3 < l.length) := by
 have hs := hT.size
 have hk := kids_in hT h0 h1
 have hf := hT.fld (j := i.toNat) (by omega)
 rw [Int.toNat_of_nonneg h0] at hf
 unfold fldB at hf
 simp only [Bool.and_eq_true] at hf
 obtain ⟨_, _, _, hr, _⟩ := hf
 simp only [restB, decide_eq_true_eq] at hr
 generalize rN l i = n at *
 have ha := arityM_le n.f0
 unfold kidsM at hk
 have hc : arityM n.f0 = 0 ∨ arityM n.f0 = 1 ∨ arityM n.f0 = 2 ∨ arityM n.f0 = 3 := by omega
 rcases hc with h | h | h | h <;> rw [h] at hk hr <;> simp at hk hr <;> refine ⟨?_, ?_, ?_⟩ <;> first | omega | (simp only [hr]; omega)
theorem climb_lt (hT : OkT l) {nm : ByteArray} : ∀ (n : Nat) (kid : Int), (climb l nm n kid).f0 < l.length
 | 0, kid => by have := hT.size; show (-1 : Int) < _; omega
 | n + 1, kid => by
   rw [climb]
   split
   · rename_i hp
     cases hh : hitN l nm kid with
     | none => exact climb_lt hT n _
     | some b =>
       have := (hitM_node hh).1
       rw [Option.getD_some, this]
       exact (hT.par_lt hp).2.2.1
   · have := hT.size; show (-1 : Int) < _; omega
theorem bindS_lt (hT : OkT l) (i : Int) : (bindS l i).f0 < l.length := by
 unfold bindS
 split
 · exact climb_lt hT _ _
 · have := hT.size; show (-1 : Int) < _; omega
theorem outerM_in (hT : OkT l) {f : Int} (h0 : 0 ≤ f) (h1 : f < l.length) (hl : lamB (rN l f) = true) {b : Bd} (h : b ∈ outerM l (bindsM l) f) : 0 ≤ b.f0 ∧ b.f0 < l.length := by
 have hd := hT.downs f h0 h1 (lam_ar hl)
 have hs := startM_le hT.downs hd.1 (by omega)
 obtain ⟨h2, k, h3, h4⟩ := outerN_mem _ h
 rw [rB_bindsM (by omega) (by omega)] at h4
 exact ⟨h2, by rw [h4]; exact bindS_lt hT _⟩
theorem parm_01 (n : Nd) : parm n = 0 ∨ parm n = 1 := by unfold parm; split <;> simp
theorem fit_call (hT : OkT l) (h : Fit l fs) {i c dp : Int} (hi : 0 ≤ i ∧ i < l.length) {nd : Nd} {v : Ab} (hv : 0 ≤ v.n ∧ v.n < l.length) (hl : v.k = 1 → lamB (rN l v.n) = true) (hx : x ∈ call1S (prM l dp) fs i c nd v) : FitF l x := by
 unfold call1S at hx
 split at hx
 · rename_i hc
   have hlam := hl hc.1
   have e : rLB (prM l dp).outer v.n = outerM l (bindsM l) v.n := by
    show rLB (outersM l) v.n = _
    rw [rLB_outersM hv.1 hv.2, if_pos hlam]
   have e2 : (prM l dp).l = l := rfl
   have hb := (fields_in hT hv.1 hv.2).1
   rw [e, e2] at hx
   simp only [List.mem_append] at hx
   have hp := parm_01 (rN l v.n)
   rcases hx with (((hx | hx) | hx) | hx) | hx
   · exact fit_flow h hx hv (by omega)
   · obtain ⟨b, hb1, hb2⟩ := List.mem_flatMap.1 hx
     have hr := outerM_role hT hv.1 hv.2 hlam hb1
     exact fit_flow h hb2 (outerM_in hT hv.1 hv.2 hlam hb1) (by omega)
   · exact fit_see hT hx hb
   · exact fit_flow h hx hi (by omega)
   · exact fit_rise hT hx hi
 · cases hx
theorem fit_parts (h : Fit l fs) {kid c kd part tk tn : Int} (hx : x ∈ partsL fs kid c kd part tk tn) (ht : 0 ≤ tn ∧ tn < l.length) (hk : tk ≠ 7) : FitF l x := by
 unfold partsL at hx
 obtain ⟨v, _, hx⟩ := List.mem_flatMap.1 hx
 unfold part1 at hx
 split at hx
 · exact fit_flow h hx ht hk
 · cases hx
theorem fit_flatMap {α : Type} {m : List α} {g : α → List Fc} (hx : x ∈ m.flatMap g) (h : ∀ a ∈ m, x ∈ g a → FitF l x) : FitF l x := by
 obtain ⟨a, ha, hx⟩ := List.mem_flatMap.1 hx
 exact h a ha hx
set_option maxHeartbeats 2000000 in
theorem fit_node (hC : Clo l) (h : Fit l fs) {i : Int} (h0 : 0 ≤ i) (h1 : i < l.length) {dp c : Int} (hx : x ∈ nodeS (prM l dp) fs i c) : FitF l x := by
 have hT := hC.ok
 have hi : 0 ≤ i ∧ i < l.length := ⟨h0, h1⟩
 obtain ⟨f1, f2, f3⟩ := fields_in hT h0 h1
 have hz : (0 : Int) ≤ 0 ∧ (0 : Int) < l.length := by have := hT.size; omega
 have e : rN (prM l dp).l i = rN l i := rfl
 have eb : rB (prM l dp).bind i = bindS l i := rB_bindsM h0 h1
 have hkid : x ∈ kidRiseS fs (rN l i) i c → FitF l x := fun hx => fit_flatMap hx fun a _ hx => fit_rise hT hx hi
 have hset : ∀ n2 : Int, x ∈ (vals fs 0 (rN l i).f1 c).flatMap (setS1 fs n2 c) → FitF l x := fun n2 hx => fit_flatMap hx fun a ha hx => by
  unfold setS1 at hx
  split at hx
  · exact fit_flow h hx (h.vn _ (mem_vals.1 ha)) (by omega)
  · cases hx
 have hcall : x ∈ callS (prM l dp) fs i c → FitF l x := fun hx => fit_flatMap hx fun a ha hx => fit_call hT h hi (h.vn _ (mem_vals.1 ha)) (h.lam _ (mem_vals.1 ha)) hx
 have hnew : ∀ k vk : Int, k ≠ 7 → 0 ≤ vk → vk ≠ 1 → x ∈ ([⟨k, i, c, ⟨vk, i, c⟩⟩] : List Fc) → FitF l x := fun k vk hk hv hv1 hx => fit_new hx hi hk hv hi (fun q => absurd q hv1)
 have hnul : ∀ k vk : Int, k ≠ 7 → 0 ≤ vk → vk ≠ 1 → x ∈ ([⟨k, i, c, ⟨vk, 0, 0⟩⟩] : List Fc) → FitF l x := fun k vk hk hv hv1 hx => fit_new hx hi hk hv hz (fun q => absurd q hv1)
 have hlam : ∀ k : Int, k ≠ 7 → lamB (rN l i) = true → x ∈ ([⟨k, i, c, ⟨1, i, c⟩⟩] : List Fc) → FitF l x := fun k hk hv hx => fit_new hx hi hk (by omega) hi (fun _ => hv)
 have hfl : ∀ a b d tk : Int, tk ≠ 7 → x ∈ flowL fs a b d tk i c → FitF l x := fun a b d tk hk hx => fit_flow h hx hi hk
 have htwo : x ∈ twoS (prM l dp) fs i c → FitF l x := fun hx => by
  unfold twoS at hx
  simp only [e, List.mem_append] at hx
  rcases hx with hx | hx
  · split at hx
    · exact fit_see hT hx f2
    · cases hx
  · split at hx
    · exact hcall hx
    · split at hx
      · simp only [List.mem_append] at hx
        rcases hx with (hx | hx) | hx
        · split at hx
          · rcases List.mem_append.1 hx with hx | hx
            · exact hfl _ _ _ _ (by omega) hx
            · exact hfl _ _ _ _ (by omega) hx
          · cases hx
        · split at hx
          · exact hset _ hx
          · cases hx
        · (repeat' split at hx)
          · exact hnew _ _ (by omega) (by omega) (by omega) hx
          · exact hnew _ _ (by omega) (by omega) (by omega) hx
          · exact hnul _ _ (by omega) (by omega) (by omega) hx
      · cases hx
 have hone : x ∈ oneS (prM l dp) fs i c → FitF l x := fun hx => by
  unfold oneS at hx
  simp only [e] at hx
  split at hx
  · simp only [List.mem_append, mem_ite_nil] at hx
    rcases hx with (hx | hx) | hx
    · exact fit_see hT hx.2 f2
    · exact hfl _ _ _ _ (by omega) hx
    · exact hfl _ _ _ _ (by omega) hx
  split at hx
  · simp only [List.mem_append, mem_ite_nil] at hx
    rcases hx with (hx | hx) | hx
    · rcases hx.2 with hx | hx
      · exact fit_see hT hx f2
      · exact fit_see hT hx f3
    · exact hfl _ _ _ _ (by omega) hx
    · exact hfl _ _ _ _ (by omega) hx
  split at hx
  · simp only [List.mem_append, mem_ite_nil] at hx
    rcases hx with ((((hx | hx) | hx) | hx) | hx) | hx
    · exact fit_see hT hx.2 f2
    · exact fit_see hT hx.2 f3
    · exact fit_parts h hx hi (by omega)
    · exact fit_parts h hx hi (by omega)
    · exact hfl _ _ _ _ (by omega) hx
    · exact hfl _ _ _ _ (by omega) hx
  split at hx
  · exact fit_parts h hx hi (by omega)
  split at hx
  · exact fit_parts h hx hi (by omega)
  split at hx
  · exact fit_parts h hx hi (by omega)
  split at hx
  · simp only [List.mem_append, mem_ite_nil] at hx
    rcases hx with hx | hx
    · exact hnew _ _ (by omega) (by omega) (by omega) hx.2
    · exact hfl _ _ _ _ (by omega) hx
  split at hx
  · exact fit_rise hT hx hi
  split at hx
  · simp only [List.mem_append, mem_ite_nil] at hx
    rcases hx with (hx | hx) | hx
    · rcases hx.2 with hx | hx
      · exact fit_see hT hx f2
      · exact hnul _ _ (by omega) (by omega) (by omega) hx
    · exact hfl _ _ _ _ (by omega) hx
    · exact hfl _ _ _ _ (by omega) hx
  · cases hx
 unfold nodeS at hx
 simp only [e, eb] at hx
 split at hx
 · rename_i k1
   have hb : (bindS l i).f1 = 0 ∨ (bindS l i).f1 = 1 := by
    rcases bindS_role l i with h5 | h5
    · have := hC.bound i h0 h1 k1
      rw [h5] at this; exact absurd this (by decide)
    · exact h5.2
   exact hfl _ _ _ _ (by omega) hx
 split at hx
 · exact hnul _ _ (by omega) (by omega) (by omega) hx
 split at hx
 · exact hnul _ _ (by omega) (by omega) (by omega) hx
 split at hx
 · rename_i k; exact hlam _ (by omega) (by simp [lamB, k]) hx
 split at hx
 · rename_i k
   simp only [List.mem_append] at hx
   rcases hx with ((hx | hx) | hx) | hx
   · exact hlam _ (by omega) (by simp [lamB, k]) hx
   · exact fit_see hT hx f2
   · exact hfl _ _ _ _ (by omega) hx
   · exact fit_rise hT hx hi
 simp only [List.mem_append] at hx
 rcases hx with (hx | hx) | hx
 · exact fit_see hT hx f1
 · exact hkid hx
 · split at hx
   · exact htwo hx
   · exact hone hx
end
def moreI (l : List Nd) (us : List Bd) (dp : Int) (fs : List Fc) : List Fc := fs.flatMap fun f => if f.k = 6 then nodeI l us dp fs f.n f.c else []
def passM (l : List Nd) (dp : Int) (fs : List Fc) : List Fc := passS (prM l dp) fs
theorem passM_fit {l : List Nd} (hC : Clo l) {fs : List Fc} (h : Fit l fs) (dp : Int) : Fit l (passM l dp fs) := by
 refine .mk' (h.up.insAll _) fun f hf => ?_
 unfold passM passS at hf
 rcases mem_insAll.1 hf with hf | hf
 · exact h.one hf
 · refine fit_flatMap hf fun a ha hx => ?_
   unfold pass1S at hx
   split at hx
   · have := h.node _ ha
     exact fit_node hC h this.1 this.2 hx
   · cases hx
theorem passM_le {l : List Nd} (dp : Int) (fs : List Fc) : fs.length ≤ (passM l dp fs).length := (len_insAll _ _).1
theorem pass_same {l : List Nd} (hC : Clo l) {fs : List Fc} (h : Fit l fs) (dp : Int) {r : List Fc} (hu : Up r) (hr : ∀ x, x ∈ r ↔ x ∈ moreI l (bindsM l) dp fs ∨ x ∈ fs) : r = passM l dp fs := by
 refine hu.ext (passM_fit hC h dp).up fun x => ?_
 rw [hr]
 unfold passM passS
 rw [mem_insAll, or_comm]
 refine or_congr Iff.rfl ?_
 unfold moreI
 simp only [List.mem_flatMap]
 refine exists_congr fun a => and_congr_right fun ha => ?_
 unfold pass1S
 by_cases hk : a.k = 6
 · rw [if_pos hk, if_pos hk]
   have := h.node _ ha
   exact node_mem hC h this.1 this.2 dp a.c x
 · rw [if_neg hk, if_neg hk]
def solveN (l : List Nd) (dp : Int) : Nat → List Fc → Option (List Fc)
 | 0, _ => none
 | n + 1, fs => if 2500 < (passM l dp fs).length then none else if (passM l dp fs).length = fs.length then some (passM l dp fs) else solveN l dp n (passM l dp fs)
def seedM (l : List Nd) : List Fc := [⟨6, l.length - 1, 0, ⟨0, 0, 0⟩⟩]
def cloB (l : List Nd) : Bool := okM l && decide (∀ i : Nat, i < l.length → (rN l i).f0 = 1 → 0 ≤ (bindS l i).f0)
def flowB (l : List Nd) (dp : Int) : Bool := cloB l && decide (0 ≤ dp ∧ dp ≤ 2)
def solveO (l : List Nd) (dp : Int) : Option (List Fc) := if flowB l dp then solveN l dp 400 (seedM l) else none
theorem cloB_iff {l : List Nd} : cloB l = true ↔ Clo l := by
 unfold cloB
 rw [Bool.and_eq_true, okM_iff, decide_eq_true_eq]
 constructor
 · rintro ⟨h1, h2⟩
   refine ⟨h1, fun i h0 h3 h4 => ?_⟩
   have := h2 i.toNat (by omega)
   rw [Int.toNat_of_nonneg h0] at this
   exact this h4
 · rintro ⟨h1, h2⟩
   exact ⟨h1, fun i hi => h2 i (by omega) (by omega)⟩
theorem seed_fit {l : List Nd} (hT : OkT l) : Fit l (seedM l) := by
 have hs := hT.size
 refine .mk' (List.pairwise_singleton _ _) fun f hf => ?_
 simp only [seedM, List.mem_singleton] at hf
 subst hf
 exact ⟨by dsimp only; omega, Int.le_refl _, by dsimp only; omega, fun e => absurd e (by dsimp only; omega), fun _ => rfl⟩
theorem solveN_fit {l : List Nd} (hC : Clo l) (dp : Int) : ∀ (n : Nat) (fs r : List Fc), Fit l fs → solveN l dp n fs = some r → Fit l r ∧ r.length ≤ 2500
 | 0, fs, r, _, h => by cases h
 | n + 1, fs, r, hf, h => by
   rw [solveN] at h
   split at h
   · cases h
   · split at h
     · cases h; exact ⟨passM_fit hC hf dp, by omega⟩
     · exact solveN_fit hC dp n _ r (passM_fit hC hf dp) h
theorem solveO_fit {l : List Nd} {dp : Int} {r : List Fc} (h : solveO l dp = some r) : Clo l ∧ Fit l r ∧ r.length ≤ 2500 := by
 unfold solveO at h
 split at h
 · rename_i hb
   unfold flowB at hb
   rw [Bool.and_eq_true] at hb
   have hC := cloB_iff.1 hb.1
   exact ⟨hC, solveN_fit hC dp 400 _ r (seed_fit hC.ok) h⟩
 · cases h
def solveR (l : List Nd) (dp : Int) : List Fc × Bool := match solveO l dp with
 | some fs => (fs, true)
 | none => ([], false)
def mayM (l : List Nd) (dp : Int) : Bool := match solveO l dp with
 | some fs => decide ((⟨7, l.length - 1, 0, ⟨0, 0, 0⟩⟩ : Fc) ∈ fs)
 | none => true
end Go.Mach
section
namespace Go.Mach
open Go Go.RowKit
set_option linter.unusedVariables false
theorem wordB_no {s : ByteArray} {a : Int} (h0 : 0 ≤ a) (h1 : a < s.size) (h : ¬(97 ≤ std.byte s a ∧ std.byte s a ≤ 122)) : false = wordB s := by
 unfold wordB
 refine (decide_eq_false fun hw => h ?_).symm
 have := hw.1 a.toNat (by omega)
 rwa [Int.toNat_of_nonneg h0] at this
theorem wordB_end {s : ByteArray} {a : Int} {b : Bool} (h : s.size ≤ a) (hi : ∀ i : Nat, (i : Int) < a → 97 ≤ std.byte s i ∧ std.byte s i ≤ 122) (hb : b = decide (1 ≤ (s.size : Int) ∧ (s.size : Int) ≤ 8)) : b = wordB s := by
 subst hb
 unfold wordB
 apply decide_eq_decide.2
 constructor
 · intro h2; exact ⟨fun i h3 => hi i (by omega), by omega, by omega⟩
 · intro h2; omega
theorem word_step {s : ByteArray} {a : Int} (h0 : 0 ≤ a) (hi : ∀ i : Nat, (i : Int) < a → 97 ≤ std.byte s i ∧ std.byte s i ≤ 122) (h : 97 ≤ std.byte s a ∧ std.byte s a ≤ 122) : ∀ i : Nat, (i : Int) < a + 1 → 97 ≤ std.byte s i ∧ std.byte s i ≤ 122 := fun i hlt => by
 by_cases c : (i : Int) = a
 · rw [c]; exact h
 · exact hi i (by omega)
theorem keyB_hit {s y : ByteArray} {a : Int} (h0 : 0 ≤ a) (h1 : a < keyL.length) (hy : rS keyL a = y) (he : y.toList = s.toList) : true = keyB s := by
 unfold keyB
 refine (List.any_eq_true.2 ⟨rS keyL a, rdG_mem h0 h1, ?_⟩).symm
 rw [hy]; unfold eqS; rw [he]; exact beq_self_eq_true _
theorem key_step {s y : ByteArray} {a : Int} (h0 : 0 ≤ a) (h1 : a < keyL.length) (h : (keyL.take a.toNat).any (fun k => eqS k s) = false) (hy : rS keyL a = y) (he : ¬ y.toList = s.toList) : (keyL.take (a + 1).toNat).any (fun k => eqS k s) = false := by
 rw [take_succG ByteArray.empty h0 h1, List.any_append, h, show rdG ByteArray.empty keyL a = y from hy]
 simp [eqS, he]
theorem keyB_end {s : ByteArray} {a : Int} (h : keyL.length ≤ a) (hi : (keyL.take a.toNat).any (fun k => eqS k s) = false) : false = keyB s := by
 rw [take_allG h] at hi; exact hi.symm
theorem size_toList (s : ByteArray) : s.toList = (⟨#[]⟩ : ByteArray).toList ↔ s.size = 0 := by
 rw [ByteArray.toList_eq, ByteArray.toList_eq]
 have h : s.size = s.data.toList.length := Array.length_toList.symm
 rw [h]
 show s.data.toList = [] ↔ _
 exact List.length_eq_zero_iff.symm
theorem empty_name {s : ByteArray} (h : eqS s ⟨#[]⟩ = true) : nameB s = false := by
 have : s.size = 0 := (size_toList s).1 (by simpa [eqS] using h)
 unfold nameB wordB
 rw [decide_eq_false (by omega)]; rfl
theorem empty_eqS {s : ByteArray} : eqS s ⟨#[]⟩ = decide (s.toList = (⟨#[]⟩ : ByteArray).toList) := by
 unfold eqS
 by_cases h : s.toList = (⟨#[]⟩ : ByteArray).toList
 · rw [decide_eq_true h, h]; exact beq_self_eq_true _
 · rw [decide_eq_false h]; simpa using h
def Sz (l : List Nd) : Prop := ∀ x ∈ l, x.f5.size ≤ 1048576 ∧ x.f6.size ≤ 1048576
theorem Sz.at {l : List Nd} (h : Sz l) {i : Int} {y : Nd} (h0 : 0 ≤ i) (h1 : i < l.length) (hy : rN l i = y) : y.f5.size ≤ 1048576 ∧ y.f6.size ≤ 1048576 := by
 subst hy; exact h _ (rdG_mem h0 h1)
end Go.Mach
namespace Go.Mach
theorem fld_no1 {x : Nd} (h : ¬(1 ≤ x.f0 ∧ x.f0 ≤ 19)) : false = fldB x := by unfold fldB; rw [decide_eq_false h]; rfl
theorem fld_no2 {x : Nd} (h : nfitB x.f5 (decide (0 < namesM x.f0)) = false) : false = fldB x := by unfold fldB; rw [h]; simp
theorem fld_no3 {x : Nd} (h : nfitB x.f6 (decide (1 < namesM x.f0)) = false) : false = fldB x := by unfold fldB; rw [h]; simp
theorem fld_no4 {x : Nd} (h : ¬((arityM x.f0 < 1 → x.f1 = 0) ∧ (arityM x.f0 < 2 → x.f2 = 0) ∧ (arityM x.f0 < 3 → x.f3 = 0))) : false = fldB x := by unfold fldB restB; rw [decide_eq_false h]; simp
theorem fld_end {x : Nd} {b : Bool} (h1 : 1 ≤ x.f0 ∧ x.f0 ≤ 19) (h2 : nfitB x.f5 (decide (0 < namesM x.f0)) = true) (h3 : nfitB x.f6 (decide (1 < namesM x.f0)) = true) (h4 : (arityM x.f0 < 1 → x.f1 = 0) ∧ (arityM x.f0 < 2 → x.f2 = 0) ∧ (arityM x.f0 < 3 → x.f3 = 0)) (hb : b = numB x) : b = fldB x := by
 unfold fldB restB; rw [h2, h3, decide_eq_true h1, decide_eq_true h4, hb]; rfl
theorem nfit_lt {s : ByteArray} {m : Nat} {v k : Int} {b : Bool} (h : nfitB s (decide (k < v)) = b) (hv : (m : Int) = v) (n : Nat) (hn : (n : Int) = k) : nfitB s (decide (n < m)) = b := by
 rw [← h]; congr 1; apply decide_eq_decide.2; omega
theorem nfit_1 {s : ByteArray} {m n : Nat} {b : Bool} (h : n < m) (hs : nameB s = b) : nfitB s (decide (n < m)) = b := by rw [decide_eq_true h]; exact hs
theorem nfit_0t {s : ByteArray} {m n : Nat} (h : ¬ n < m) (hs : s.toList = (⟨#[]⟩ : ByteArray).toList) : nfitB s (decide (n < m)) = true := by rw [decide_eq_false h]; unfold nfitB eqS; rw [hs]; simp
theorem nfit_0f {s : ByteArray} {m n : Nat} (h : ¬ n < m) (hs : ¬ s.toList = (⟨#[]⟩ : ByteArray).toList) : nfitB s (decide (n < m)) = false := by rw [decide_eq_false h]; show (s.toList == (⟨#[]⟩ : ByteArray).toList) = false; exact beq_eq_false_iff_ne.2 hs
theorem nfit_0n {s : ByteArray} {m n : Nat} (h : ¬ n < m) (hs : nameB s = true) : nfitB s (decide (n < m)) = false := by
 rw [decide_eq_false h]
 cases he : eqS s ⟨#[]⟩ with
 | false => exact he
 | true => rw [empty_name he] at hs; cases hs
theorem rI3_0 (a b c : Int) : rI [a, b, c] 0 = a := rfl
theorem rI3_1 (a b c : Int) : rI [a, b, c] 1 = b := rfl
theorem rI3_2 (a b c : Int) : rI [a, b, c] 2 = c := rfl
theorem rest_end {t a b c i : Int} (h : 3 ≤ i) (hi : ∀ j : Nat, (j : Int) < i → j < 3 → arityM t ≤ j → rI [a, b, c] j = 0) : (arityM t < 1 → a = 0) ∧ (arityM t < 2 → b = 0) ∧ (arityM t < 3 → c = 0) := by
 have h0 := hi 0 (by omega) (by omega)
 have h1 := hi 1 (by omega) (by omega)
 have h2 := hi 2 (by omega) (by omega)
 exact ⟨fun h => h0 (by omega), fun h => h1 (by omega), fun h => h2 (by omega)⟩
theorem rest_no {t a b c i y : Int} (h0 : 0 ≤ i) (h1 : i < 3) (ha : (arityM t : Int) ≤ i) (hy : rI [a, b, c] i = y) (hn : ¬ y = 0) : ¬((arityM t < 1 → a = 0) ∧ (arityM t < 2 → b = 0) ∧ (arityM t < 3 → c = 0)) := by
 rintro ⟨q0, q1, q2⟩
 have : i = 0 ∨ i = 1 ∨ i = 2 := by omega
 rcases this with rfl | rfl | rfl
 · rw [rI3_0] at hy; exact hn (by rw [← hy]; exact q0 (by omega))
 · rw [rI3_1] at hy; exact hn (by rw [← hy]; exact q1 (by omega))
 · rw [rI3_2] at hy; exact hn (by rw [← hy]; exact q2 (by omega))
theorem rest_step {t a b c i y : Int} (h0 : 0 ≤ i) (hi : ∀ j : Nat, (j : Int) < i → j < 3 → arityM t ≤ j → rI [a, b, c] j = 0) (hy : rI [a, b, c] i = y) (hn : i < (arityM t : Int) ∨ y = 0) : ∀ j : Nat, (j : Int) < i + 1 → j < 3 → arityM t ≤ j → rI [a, b, c] j = 0 := fun j h1 h2 h3 => by
 by_cases e : (j : Int) = i
 · rcases hn with hn | hn
   · omega
   · rw [e, hy, hn]
 · exact hi j (by omega) h2 h3
end Go.Mach
namespace Go.Mach
theorem numB_0 {x : Nd} {q : Bool} (h2 : ¬ x.f0 = 2) (h8 : ¬ x.f0 = 8) (hq : q = (x.f4 == 0)) : q = numB x := by subst hq; unfold numB; rw [if_neg h2, if_neg h8]; by_cases h : x.f4 = 0 <;> simp [h]
theorem numB_2t {x : Nd} (h : x.f0 = 2) (hv : 0 ≤ x.f4 ∧ x.f4 ≤ 65535) : true = numB x := by unfold numB; rw [if_pos h, decide_eq_true hv]
theorem numB_2f {x : Nd} (h : x.f0 = 2) (hv : ¬(0 ≤ x.f4 ∧ x.f4 ≤ 65535)) : false = numB x := by unfold numB; rw [if_pos h, decide_eq_false hv]
theorem numB_8t {x : Nd} (h : x.f0 = 8) (hv : 0 ≤ x.f4 ∧ x.f4 ≤ 3) : true = numB x := by unfold numB; rw [if_neg (by omega), if_pos h, decide_eq_true hv]
theorem numB_8f {x : Nd} (h : x.f0 = 8) (hv : ¬(0 ≤ x.f4 ∧ x.f4 ≤ 3)) : false = numB x := by unfold numB; rw [if_neg (by omega), if_pos h, decide_eq_false hv]
end Go.Mach
namespace Go.Mach
theorem has4_hit {l : List Int} {x i y : Int} (h0 : 0 ≤ i) (h1 : i < l.length) (hy : rI l i = y) (he : y = x) : true = decide (x ∈ l) := by
 refine (decide_eq_true ?_).symm
 rw [← he, ← hy]; exact rdG_mem h0 h1
theorem has4_end {l : List Int} {x i : Int} (h : l.length ≤ i) (hi : x ∉ l.take i.toNat) : false = decide (x ∈ l) := by
 rw [take_allG h] at hi; exact (decide_eq_false hi).symm
theorem has4_step {l : List Int} {x i y : Int} (h0 : 0 ≤ i) (h1 : i < l.length) (hi : x ∉ l.take i.toNat) (hy : rI l i = y) (he : ¬ y = x) : x ∉ l.take (i + 1).toNat := by
 rw [take_succG 0 h0 h1, show rdG 0 l i = y from hy, List.mem_append, List.mem_singleton]
 rintro (h | h)
 · exact hi h
 · exact he h.symm
def stS (l : List Nd) (i : Int) : List Int := (startsO l i.toNat).getD []
def startsR (l : List Nd) : List Int × Bool := ((startsO l l.length).getD [], (startsO l l.length).isSome)
theorem stS_some {l : List Nd} {i : Int} (h : (startsO l i.toNat).isSome = true) : startsO l i.toNat = some (stS l i) := by
 unfold stS; cases hq : startsO l i.toNat with
 | none => rw [hq] at h; cases h
 | some s => rfl
theorem stS_bnd {l : List Nd} {i : Int} (h0 : 0 ≤ i) (h : (startsO l i.toNat).isSome = true) : ((stS l i).length : Int) = i ∧ ∀ j : Int, 0 ≤ j → j < i → 0 ≤ rI (stS l i) j ∧ rI (stS l i) j ≤ j := by
 obtain ⟨e1, e2, _⟩ := startsO_tile _ _ (stS_some h)
 refine ⟨by omega, fun j hj hji => ?_⟩
 have := e2 j.toNat (by omega)
 rwa [Int.toNat_of_nonneg hj] at this
theorem st_next {l : List Nd} {i a : Int} (h0 : 0 ≤ i) (h : (startsO l i.toNat).isSome = true) (hf : fldB (rN l i) = true) (hw : walkK (stS l i) (kidsM (rN l i)) (kidsM (rN l i)).length i = some a) : startsO l (i + 1).toNat = some (stS l i ++ [a]) := by
 rw [show (i + 1).toNat = i.toNat + 1 by omega, startsO, stS_some h, Option.bind_some, Int.toNat_of_nonneg h0, if_pos hf, hw]; rfl
theorem st_fail {l : List Nd} {i : Int} (h0 : 0 ≤ i) (h1 : i < l.length) (h : (startsO l i.toNat).isSome = true) (hn : fldB (rN l i) = false ∨ walkK (stS l i) (kidsM (rN l i)) (kidsM (rN l i)).length i = none) : startsO l l.length = none := by
 refine startsO_none (n := i.toNat + 1) ?_ _ (by omega)
 rw [startsO, stS_some h, Option.bind_some, Int.toNat_of_nonneg h0]
 rcases hn with hn | hn
 · rw [if_neg (by rw [hn]; exact Bool.false_ne_true)]
 · rw [hn]; split <;> rfl
theorem startsR_no {l : List Nd} (h : startsO l l.length = none) : startsR l = ([], false) := by unfold startsR; rw [h]; rfl
theorem startsR_yes {l : List Nd} {i : Int} (h0 : (l.length : Int) = i) (h : (startsO l i.toNat).isSome = true) : startsR l = (stS l i, true) := by
 subst h0
 have := stS_some h
 unfold startsR; rw [Int.toNat_natCast] at *; rw [this]; rfl
theorem walkK_at {st K : List Int} {k a : Int} (h : 0 ≤ k) : walkK st K (k + 1).toNat a = if rI K k = a - 1 ∧ 0 ≤ rI K k then walkK st K k.toNat (rI st (rI K k)) else none := by
 rw [show (k + 1).toNat = k.toNat + 1 by omega, walkK, Int.toNat_of_nonneg h]
theorem walkK_no {st K : List Int} {k a : Int} (h : 0 ≤ k) (hn : ¬(rI K k = a - 1 ∧ 0 ≤ rI K k)) : walkK st K (k + 1).toNat a = none := by rw [walkK_at h, if_neg hn]
theorem walkK_yes {st K : List Int} {k a y z : Int} (h : 0 ≤ k) (hy : rI K k = y) (h1 : y = a - 1) (h2 : 0 ≤ y) (hz : rI st y = z) : walkK st K (k + 1).toNat a = walkK st K (k - 1 + 1).toNat z := by
 rw [walkK_at h, hy, if_pos ⟨h1, h2⟩, hz, Int.sub_add_cancel]
end Go.Mach
end
namespace Go.Mach
open Go Go.RowKit
theorem bnd_at {st : List Int} {i j y : Int} (hb : ∀ j : Int, 0 ≤ j → j < i → 0 ≤ rI st j ∧ rI st j ≤ j) (h0 : 0 ≤ j) (h1 : j < i) (hy : rI st j = y) : 0 ≤ y ∧ y ≤ j := by
 have := hb j h0 h1; rwa [hy] at this
theorem stS_next {l : List Nd} {i a : Int} (h0 : 0 ≤ i) (h : (startsO l i.toNat).isSome = true) (hf : fldB (rN l i) = true) (hw : walkK (stS l i) (kidsM (rN l i)) (kidsM (rN l i)).length i = some a) : stS l (i + 1) = stS l i ++ [a] := by
 have := st_next h0 h hf hw
 show (startsO l (i + 1).toNat).getD [] = _
 rw [this]; rfl
theorem walkK_zero {st K : List Int} {k a : Int} (h : k + 1 ≤ 0) : walkK st K (k + 1).toNat a = some a := by rw [show (k + 1).toNat = 0 by omega]; rfl
theorem at_nd {l : List Nd} {i : Int} {y : Nd} {P : Nd → Prop} (hy : rN l i = y) (h : P y) : P (rN l i) := hy ▸ h
theorem okM_len {l : List Nd} (h : ¬(1 ≤ (l.length : Int) ∧ (l.length : Int) ≤ 150)) : false = okM l := by
 unfold okM; rw [decide_eq_false (by omega)]; rfl
theorem startsR_len {l : List Nd} {v : List Int} (h : startsR l = (v, true)) : v.length = l.length := by
 unfold startsR at h
 simp only [Prod.mk.injEq] at h
 obtain ⟨s, hs⟩ := Option.isSome_iff_exists.1 h.2
 rw [hs] at h
 obtain ⟨rfl, _⟩ := h
 exact (startsO_tile _ _ hs).1
theorem okM_end {l : List Nd} {v : List Int} {y : Int} {q : Bool} (h1 : 1 ≤ (l.length : Int) ∧ (l.length : Int) ≤ 150) (h : startsR l = (v, true)) (hy : rI v (l.length - 1) = y) (hq : q = (y == 0)) : q = okM l := by
 subst hq; subst hy
 unfold startsR at h
 simp only [Prod.mk.injEq] at h
 obtain ⟨s, hs⟩ := Option.isSome_iff_exists.1 h.2
 rw [hs] at h
 obtain ⟨rfl, _⟩ := h
 unfold okM
 rw [decide_eq_true (by omega), hs]; rfl
theorem okM_no {l : List Nd} {v : List Int} (h : startsR l = (v, false)) : false = okM l := by
 unfold startsR at h
 simp only [Prod.mk.injEq, Option.isSome_eq_false_iff, Option.isNone_iff_eq_none] at h
 unfold okM
 rw [h.2, Bool.and_false]
theorem okT_startsR {l : List Nd} {v : List Int} {b : Bool} (hk : okM l = true) (h : startsR l = (v, b)) : v.length = l.length ∧ ∀ i : Int, 0 ≤ i → i < l.length → rI v i = startM l i := by
 have hT := okM_iff.1 hk
 obtain ⟨st, hs, h2, _⟩ := hT.tiled
 unfold startsR at h
 rw [hs] at h
 simp only [Prod.mk.injEq] at h
 obtain ⟨rfl, _⟩ := h
 exact ⟨h2, fun i h0 h1 => hT.startI hs h0 h1⟩
def startOfR (l : List Nd) (i : Int) : Int := if okM l = true ∧ 0 ≤ i ∧ i < l.length then startM l i else -1
def binderR (l : List Nd) (i : Int) : Bd := if okM l = true ∧ 0 ≤ i ∧ i < l.length then bindS l i else noB
theorem startOfR_no {l : List Nd} {i : Int} (h : okM l = false ∨ ¬(0 ≤ i ∧ i ≤ l.length - 1)) : -1 = startOfR l i := by
 unfold startOfR; rw [if_neg]; rintro ⟨h1, h2⟩
 rcases h with h | h
 · rw [h] at h1; cases h1
 · omega
theorem startOfR_yes {l : List Nd} {i y : Int} {v : List Int} {b : Bool} (hk : okM l = true) (h : 0 ≤ i ∧ i ≤ l.length - 1) (hv : startsR l = (v, b)) (hy : rI v i = y) : y = startOfR l i := by
 unfold startOfR; rw [if_pos ⟨hk, h.1, by omega⟩, ← hy]
 exact (okT_startsR hk hv).2 i h.1 (by omega)
theorem parS_no {l : List Nd} {i : Int} (h : okM l = false) : -1 = parS l i := by
 unfold parS; rw [h]; rfl
theorem par_step {l : List Nd} {i a : Int} (h0 : 0 ≤ a) (h : ∀ j : Nat, (j : Int) < a → i ∉ kidsM (rN l j)) (hn : i ∉ kidsM (rN l a)) : ∀ j : Nat, (j : Int) < a + 1 → i ∉ kidsM (rN l j) := fun j hj => by
 by_cases e : (j : Int) = a
 · rw [e]; exact hn
 · exact h j (by omega)
theorem binderR_no {l : List Nd} {i : Int} (h : okM l = false ∨ ¬(0 ≤ i ∧ i ≤ l.length - 1) ∨ ∃ y, rN l i = y ∧ ¬ y.f0 = 1) : noB = binderR l i := by
 unfold binderR
 split
 · rename_i hc
   rcases h with h | h | ⟨y, h, h2⟩
   · rw [h] at hc; exact absurd hc.1 (by decide)
   · omega
   · unfold bindS; rw [h, if_neg h2]
 · rfl
theorem binderR_yes {l : List Nd} {i : Int} {y : Nd} {b : Bd} (hk : okM l = true) (h : 0 ≤ i ∧ i ≤ l.length - 1) (hy : rN l i = y) (h1 : y.f0 = 1) (hb : climbM l y.f5 i = b) : b = binderR l i := by
 unfold binderR; rw [if_pos ⟨hk, h.1, by omega⟩]
 unfold bindS; rw [hy, if_pos h1, hb]
theorem hit_start {l : List Nd} {nm : ByteArray} {kid q : Int} {ns : List ByteArray} {rs : List Int} (hq : q = parS l kid) {p : Nd} (hp : rN l q = p) (hb : bindM p kid = (ns, rs)) : hitN l nm kid = hitM q nm (ns.drop (0 : Int).toNat) (rs.drop (0 : Int).toNat) ∧ rs.length = ns.length := by
 subst hq
 unfold hitN
 rw [hp, hb]
 have := (len_bindM p kid).1
 rw [hb] at this
 exact ⟨rfl, this⟩
theorem hit_next {l : List Nd} {nm y : ByteArray} {kid q k : Int} {ns : List ByteArray} {rs : List Int} (hl : rs.length = ns.length) (h0 : 0 ≤ k) (h1 : k < ns.length) (hy : rS ns k = y) (he : ¬ y.toList = nm.toList) (h : hitN l nm kid = hitM q nm (ns.drop k.toNat) (rs.drop k.toNat)) :
  hitN l nm kid = hitM q nm (ns.drop (k + 1).toNat) (rs.drop (k + 1).toNat) := by
 rw [h, hitM_step hl h0 h1, hy, if_neg (by unfold eqS; simpa using he)]
theorem hit_yes {l : List Nd} {nm y : ByteArray} {kid q k r : Int} {ns : List ByteArray} {rs : List Int} (hl : rs.length = ns.length) (h0 : 0 ≤ k) (h1 : k < ns.length) (hy : rS ns k = y) (he : y.toList = nm.toList) (hr : rI rs k = r) (h : hitN l nm kid = hitM q nm (ns.drop k.toNat) (rs.drop k.toNat)) :
  hitN l nm kid = some ⟨q, r⟩ := by
 rw [h, hitM_step hl h0 h1, hy, if_pos (by unfold eqS; rw [he]; exact beq_self_eq_true _), hr]
theorem hit_none {l : List Nd} {nm : ByteArray} {kid q k : Int} {ns : List ByteArray} {rs : List Int} (h1 : (ns.length : Int) ≤ k) (h : hitN l nm kid = hitM q nm (ns.drop k.toNat) (rs.drop k.toNat)) : hitN l nm kid = none := by
 rw [h, hitM_end h1]
theorem climb_hit {l : List Nd} (hT : OkT l) {nm : ByteArray} {kid : Int} {b : Bd} (hp : 0 ≤ parS l kid) (h : hitN l nm kid = some b) : climbM l nm kid = b := by rw [climbM_up hT hp, h]; rfl
theorem climb_on {l : List Nd} (hT : OkT l) {nm : ByteArray} {kid : Int} (hp : 0 ≤ parS l kid) (h : hitN l nm kid = none) : climbM l nm kid = climbM l nm (parS l kid) := by rw [climbM_up hT hp, h]; rfl
theorem rep_eK (k : IntKind) (n : Nat) (x : Int) : List.replicate n [D.int k x] = eK k (List.replicate n x) := by simp [eK]
theorem set_eK (k : IntKind) (l : List Int) (i : Nat) (x : Int) : (eK k l).set i [.int k x] = eK k (l.set i x) := by simp [eK, List.map_set]
def stB (l : List Nd) (i : Int) : List Int := stS l i ++ List.replicate (l.length - i.toNat) 0
theorem stB_zero (l : List Nd) : stB l 0 = List.replicate l.length 0 := by simp [stB, stS, startsO]
theorem stB_len {l : List Nd} {i : Int} (h0 : 0 ≤ i) (h1 : i ≤ l.length) (h : (startsO l i.toNat).isSome = true) : (stB l i).length = l.length := by
 have := (stS_bnd h0 h).1
 unfold stB; rw [List.length_append, List.length_replicate]; omega
theorem stB_at {l : List Nd} {i j : Int} (h0 : 0 ≤ i) (h : (startsO l i.toNat).isSome = true) (j0 : 0 ≤ j) (j1 : j < i) : rI (stB l i) j = rI (stS l i) j := by
 have := (stS_bnd h0 h).1
 exact rI_left _ _ j0 (by omega)
theorem stB_set {l : List Nd} {i a : Int} (h0 : 0 ≤ i) (h1 : i < l.length) (h : (startsO l i.toNat).isSome = true) (hn : stS l (i + 1) = stS l i ++ [a]) : (stB l i).set i.toNat a = stB l (i + 1) := by
 have := (stS_bnd h0 h).1
 unfold stB
 rw [hn, show l.length - i.toNat = (l.length - (i + 1).toNat) + 1 by omega, List.replicate_succ, List.set_append, if_neg (by omega)]
 simp only [show i.toNat - (stS l i).length = 0 by omega, List.set_cons_zero, List.append_assoc, List.singleton_append]
theorem okM_endI {l : List Nd} {i y : Int} {q : Bool} (h1 : 1 ≤ (l.length : Int) ∧ (l.length : Int) ≤ 150) (hi : (l.length : Int) ≤ i) (hi2 : i ≤ l.length) (h : (startsO l i.toNat).isSome = true) (hy : rI (stB l i) (l.length - 1) = y) (hq : q = (y == 0)) : q = okM l := by
 have e : i = l.length := by omega
 subst e
 have hs := stS_some h
 rw [stB_at (by omega) h (by omega) (by omega)] at hy
 rw [Int.toNat_natCast] at hs
 refine okM_end h1 (v := stS l l.length) ?_ hy hq
 unfold startsR
 rw [hs]; rfl
theorem okM_failI {l : List Nd} (h : startsO l l.length = none) : false = okM l := by
 unfold okM; rw [h, Bool.and_false]
theorem outD_asl {E : Env} {s : S} {t i z n : Nat} {es : Box} (h1 : s.t.getD t .junk = .asl (.loc i) z n) (h2 : s.loc[i]? = some es) (hc : es.all (fun e => e.all D.cell) = true) : outD E false s [.tmp t] = some (.sl .ro z es) := by
 simp only [outD, resD, h1, Option.map_some, Option.bind_some, List.map_cons, List.map_nil, D.frozen, h2, hc, if_true]; rfl
theorem outD_aslN {E : Env} {s : S} {t i z n : Nat} {es : Box} (h1 : s.t.getD t .junk = .asl (.loc i) z n) (h2 : s.loc[i]? = some es) (hc : es.all (fun e => e.all D.cell) = true) : outD E true s [.tmp t] = some (.sl .nw z es) := by
 simp only [outD, resD, h1, Option.map_some, Option.bind_some, List.map_cons, List.map_nil, D.frozenN, h2, hc, if_true]; rfl
theorem cells_eK (k : IntKind) (l : List Int) : (eK k l).all (fun e => e.all D.cell) = true := by simp [eK, D.cell]
theorem bind_len {p : Nd} {kid : Int} {ns : List ByteArray} {rs : List Int} (hb : bindM p kid = (ns, rs)) : ns.length ≤ 2 := by
 have := (len_bindM p kid).2; rw [hb] at this; exact this
theorem fill_set {n : Nat} {a : Int} (h0 : 0 ≤ a) (h1 : a < n) : (List.replicate a.toNat (-1 : Int) ++ List.replicate (n - a.toNat) 0).set a.toNat (-1) = List.replicate (a + 1).toNat (-1) ++ List.replicate (n - (a + 1).toNat) 0 := by
 rw [show n - a.toNat = (n - (a + 1).toNat) + 1 by omega, List.replicate_succ, List.set_append, if_neg (by simp), show (a + 1).toNat = a.toNat + 1 by omega, List.replicate_succ']
 simp
theorem fill_end {n : Nat} {a : Int} (h : a = n) : List.replicate a.toNat (-1 : Int) ++ List.replicate (n - a.toNat) 0 = List.replicate n (-1) := by
 rw [h]; simp
theorem len_kids3 (n : Nd) : (kidsM n).length ≤ 3 := by rw [len_kidsM]; exact arityM_le _
theorem bindS_var {l : List Nd} {i : Int} {y : Nd} {b : Bd} (hy : rN l i = y) (h1 : y.f0 = 1) (hb : climbM l y.f5 i = b) : bindS l i = b := by unfold bindS; rw [hy, if_pos h1, hb]
theorem bindS_non {l : List Nd} {i : Int} {y : Nd} (hy : rN l i = y) (h1 : ¬ y.f0 = 1) : bindS l i = ⟨-1, -1⟩ := by unfold bindS; rw [hy, if_neg h1]; rfl
theorem bind_push {l : List Nd} {i : Int} {b : Bd} (h0 : 0 ≤ i) (h1 : i < l.length) (hb : bindS l i = b) : (bindsM l).take (i + 1).toNat = (bindsM l).take i.toNat ++ [b] := by rw [bindsM_take h0 h1, hb]
end Go.Mach
