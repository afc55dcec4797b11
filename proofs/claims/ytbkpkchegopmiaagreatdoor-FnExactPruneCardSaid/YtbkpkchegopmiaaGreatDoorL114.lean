/- FnExactPrune returns what the reference returns: part 33 of a proof by an executable machine over the program's code. -/
import Derived.Test.YtbkpkchegopmiaaGreatDoorL113
import Derived.WalkKit
import Derived.ProofKit
set_option linter.unusedVariables false
set_option linter.unusedSimpArgs false
set_option maxRecDepth 100000
set_option maxHeartbeats 8000000
namespace Go.Mach
open Go Go.RowKit
mutual
def cTr : Tr → List D
 | .mk n ks => [.int .i64 n.f0, .int .i64 n.f1, .int .i64 n.f2, .int .i64 n.f3, .int .i64 n.f4, .str n.f5, .str n.f6, .sl .ro 8 (eTrs ks)]
def eTrs : List Tr → Box
 | [] => []
 | t :: ts => cTr t :: eTrs ts
end
theorem eTrs_map : ∀ ks : List Tr, eTrs ks = ks.map cTr
 | [] => by rw [eTrs]; rfl
 | t :: ts => by rw [eTrs, eTrs_map ts]; rfl
theorem len_eTrs (ks : List Tr) : (eTrs ks).length = ks.length := by rw [eTrs_map, List.length_map]
def zTr : Tr := .mk zNd []
def rTr (ks : List Tr) (i : Int) : Tr := rdG zTr ks i
mutual
def sizeT : Tr → Nat
 | .mk _ ks => sizeK ks + 1
def sizeK : List Tr → Nat
 | [] => 0
 | t :: ts => sizeT t + sizeK ts
end
theorem sizeT_pos : ∀ t : Tr, 0 < sizeT t
 | .mk n ks => by rw [sizeT]; omega
theorem len_sizeK : ∀ ks : List Tr, ks.length ≤ sizeK ks
 | [] => by simp
 | t :: ts => by rw [sizeK, List.length_cons]; have := len_sizeK ts; have := sizeT_pos t; omega
mutual
theorem flatT_len : ∀ (t : Tr) (out : List Nd), (flatT t out).length = out.length + sizeT t
 | .mk n ks, out => by rw [flatT, sizeT, flatK_len ks 0 n out]; omega
theorem flatK_len : ∀ (ks : List Tr) (k : Nat) (n : Nd) (out : List Nd), (flatK ks k n out).length = out.length + sizeK ks + 1
 | [], k, n, out => by rw [flatK, sizeK, List.length_append]; rfl
 | t :: ts, k, n, out => by rw [flatK, sizeK, flatK_len ts, flatT_len t]; omega
end
theorem size_kid {ks : List Tr} {i : Int} (h0 : 0 ≤ i) (h1 : i < ks.length) : sizeK (ks.drop i.toNat) = sizeT (rTr ks i) + sizeK (ks.drop (i + 1).toNat) := by
 have h : i.toNat < ks.length := by omega
 rw [List.drop_eq_getElem_cons h, sizeK, show (i + 1).toNat = i.toNat + 1 by omega]
 simp [rTr, rdG, List.getD_eq_getElem?_getD, h]
theorem flat_kid {ks : List Tr} {i : Int} {n : Nd} {out : List Nd} (h0 : 0 ≤ i) (h1 : i < ks.length) :
  flatK (ks.drop i.toNat) i.toNat n out = flatK (ks.drop (i + 1).toNat) (i + 1).toNat (setK n i.toNat (((flatT (rTr ks i) out).length : Int) - 1)) (flatT (rTr ks i) out) := by
 have h : i.toNat < ks.length := by omega
 rw [List.drop_eq_getElem_cons h, flatK, show (i + 1).toNat = i.toNat + 1 by omega]
 have e : ks[i.toNat] = rTr ks i := by simp [rTr, rdG, List.getD_eq_getElem?_getD, h]
 rw [e]
theorem flat_end {ks : List Tr} {i : Int} {n : Nd} {out : List Nd} (h1 : (ks.length : Int) ≤ i) : flatK (ks.drop i.toNat) i.toNat n out = out ++ [n] := by
 rw [List.drop_eq_nil_of_le (by omega), flatK]
theorem size_sub {ks : List Tr} : ∀ (i : Nat), sizeK (ks.drop i) ≤ sizeK ks := by
 induction ks with
 | nil => intro i; simp
 | cons t ts ih =>
   intro i
   cases i with
   | zero => simp
   | succ i => rw [List.drop_succ_cons, sizeK]; have := ih i; omega
section
variable {E : Env} {Q : X → S → Prop} {o : Std} {i : Int} {k : List D → T}
theorem Den.fetchTr (ho : o = std) {ks : List Tr} (h0 : 0 ≤ i) (h1 : i < ks.length) (h : ∀ n kk, rTr ks i = .mk n kk → Den E (k [.int .i64 n.f0, .int .i64 n.f1, .int .i64 n.f2, .int .i64 n.f3, .int .i64 n.f4, .str n.f5, .str n.f6, .sl .ro 8 (o.bx fun _ => eTrs kk)]) Q) : Den E (.fetch (o.bx fun _ => eTrs ks) i k) Q := by
 have hx : (o.bx fun _ => eTrs ks) = (o.bx fun _ => ks.map cTr) := by rw [eTrs_map]
 rw [hx]
 refine Den.fetchG ho zTr cTr h0 h1 fun y hy => ?_
 obtain ⟨n, kk⟩ := y
 have := h n kk hy
 rw [cTr]
 subst ho
 exact this
theorem Den.oc1 (ho : o = std) {s : S} {dst : Option Tmp} {f : FuncId} {z : Nat} {e e' : Box} {t : Tok} {d x : D} {k : S → T} (ha : argsO [] [d] = some [x]) (hx : ∀ i, argO [i] d = some x) (hr : refsOf [d] = []) (hk0 : toksOf [d] = [])
  (hg : ∀ t0 tk0, Lw tk0 t0 e.length → Gns E f [.sl t0 z e, x] [] tk0 fun ds out tk' loc => ∃ t', ds = [.sl t' z e'] ∧ Lw tk' t' e'.length)
  (hl : Lw s.tk t e.length) (hk : ∀ t' tk', Lw tk' t' e'.length → Den E (k (({ s with tk := tk' } : S).put dst (.sl t' z e'))) Q) : Den E (o.oc s dst f [.sl t z e, d] k) Q := by
 subst ho
 show Den E (ocallT s dst f [.sl t z e, d] k) Q
 generalize hn1 : e.length = n1 at hl hg
 generalize hn2 : e'.length = n2 at hg hk
 unfold ocallT
 have hr' : refsOf [.sl t z e, d] = [] := by simpa [refsOf] using hr
 cases hl with
 | nil =>
   have e0 : toksOf [.sl .nil z e, d] = [] := by simpa [toksOf] using hk0
   have e1 : argsO [] [.sl .nil z e, d] = some [.sl .nil z e, x] := by
    rw [argsO]; simp only [argO, ha, Option.map_some]
   simp only [hr', e0, e1, noDup, if_true, List.map_nil]
   refine Den.call ((hg .nil [] .nil).mono ?_)
   rintro ds out tk' loc ⟨t', rfl, h2⟩
   cases h2 with
   | nil =>
     simp only [leaveO, renum, D.cell, if_true, Option.map_some, putToks, List.length_nil, List.drop_zero]
     exact hk .nil _ .nil
   | own j n h =>
     simp only [leaveO, renum, toBack, List.length_nil, Nat.not_lt_zero, if_false, Option.map_some, putToks, List.drop_zero, Nat.sub_zero]
     exact hk _ _ (.own _ _ (by rw [List.getElem?_append_right (by omega)]; simpa using h))
 | own i _ h =>
   have e0 : toksOf [.sl (.own i) z e, d] = [i] := by
    have : toksOf [.sl (.own i) z e, d] = i :: toksOf [d] := rfl
    rw [this, hk0]
   have hi : i < s.tk.length := (List.getElem?_eq_some_iff.1 h).1
   have hix : List.idxOf? i [i] = some 0 := by simp [List.idxOf?, List.findIdx?, List.findIdx?.go]
   have e1 : argsO [i] [.sl (.own i) z e, d] = some [.sl (.own 0) z e, x] := by
    have e2 : argsO [i] [d] = some [x] := by rw [argsO, hx i]; rfl
    have e3 : argO [i] (.sl (.own i) z e) = some (.sl (.own 0) z e) := by rw [argO, hix]; rfl
    rw [argsO, e3]; simp only [e2, Option.map_some]
   have hg0 : s.tk.getD i 0 = n1 := by rw [List.getD_eq_getElem?_getD, h]; rfl
   simp only [hr', e0, e1, noDup, List.contains_nil, Bool.not_false, Bool.and_self, if_true, List.map_cons, List.map_nil, hg0]
   refine Den.call ((hg (.own 0) [n1] (.own _ _ rfl)).mono ?_)
   rintro ds out tk' loc ⟨t', rfl, h2⟩
   cases h2 with
   | nil =>
     simp only [leaveO, renum, D.cell, if_true, Option.map_some, List.length_cons, List.length_nil]
     exact hk .nil _ .nil
   | own j n h =>
     simp only [leaveO, renum, toBack, Option.map_some, List.length_cons, List.length_nil]
     refine hk _ _ (.own _ _ ?_)
     by_cases hj : j = 0
     · subst hj
       cases tk' with
       | nil => simp at h
       | cons x tk' =>
         simp only [List.getElem?_cons_zero, Option.some.injEq] at h
         subst h
         simp only [Nat.zero_add, Nat.zero_lt_one, if_true, List.getD_cons_zero, putToks]
         rw [List.getElem?_append_left (by simpa using hi)]
         simp [hi]
     · rw [if_neg (by omega), List.getElem?_append_right (by rw [putToks_length]; omega), putToks_length, List.getElem?_drop]
       rw [← h]; congr 1; simp; omega
end
end Go.Mach
namespace Go.Mach
open Go Go.RowKit Go.Proofs
def dTr (o : Std) : Tr → D
 | .mk n ks => .agg [.int .i64 n.f0, .int .i64 n.f1, .int .i64 n.f2, .int .i64 n.f3, .int .i64 n.f4, .str n.f5, .str n.f6, .sl .ro 8 (o.bx fun _ => eTrs ks)]
theorem Lw.tok {tk t n} (h : Lw tk t n) : t = .nil ∨ ∃ i, t = .own i := by
 cases h
 · exact .inl rfl
 · exact .inr ⟨_, rfl⟩
theorem push_eTrs {a b : List Tr} {n0 n1 n2 n3 n4 : Int} {n5 n6 : ByteArray} {ks : List Tr} (h : b = a ++ [.mk ⟨n0, n1, n2, n3, n4, n5, n6⟩ ks]) : eTrs a ++ [[.int .i64 n0, .int .i64 n1, .int .i64 n2, .int .i64 n3, .int .i64 n4, .str n5, .str n6, .sl .ro 8 (eTrs ks)]] = eTrs b := by
 subst h
 rw [eTrs_map, eTrs_map (a ++ _), List.map_append]; simp [cTr]
theorem cutTree_ans {xa xb : Option (List D → Option D)} (o : Std) (ho : o = std) (l : List Nd) (dead : List Int) (hT : OkT l) (hd : dead.length ≤ 1048576) : ∀ (m : Nat) (i : Int), i.toNat < m → 0 ≤ i → i < l.length →
  Ans (env xa xb) 97 [.sl .ro 7 (o.bx fun _ => eNd l), .sl .ro 1 (o.bx fun _ => eK .i64 dead), .int .i64 i] (dTr o (treeM l dead i))
 | 0, _, h, _, _ => absurd h (by omega)
 | m + 1, i, hm, h0, h1 => by
   have ihc : ∀ x, x ∈ kidsM (rN l i) → Ans (env xa xb) 97 [.sl .ro 7 (o.bx fun _ => eNd l), .sl .ro 1 (o.bx fun _ => eK .i64 dead), .int .i64 x] (dTr o (treeM l dead x)) := fun x hx => by
    have := hT.kid h0 h1 hx
    exact cutTree_ans o ho l dead hT hd m x (by omega) this.1 (by omega)
   refine Ans.mkA ho _ rfl rfl ?_
   repeat' (first
    | (refine Den.id ?_
       (try (conv => arg 2; cbv))
       first
        | refine Den.testT ?_
        | refine Den.testF ?_
        | refine Den.test1 (by with_reducible assumption) ?_
        | refine Den.test0 (by with_reducible assumption) ?_
        | (refine Den.test (fun hr => ?_) (fun hr => ?_) <;> (have hb := hr) <;> (try simp (disch := omega) only [ho, std, wI, lenE, nrm] at hb) <;> (try (exfalso; first | contradiction | omega | exact hb rfl)))
        | (refine Den.pcallE (β := Bool) (fun v => .bool v) (as' := [.sl .ro 1 (o.bx fun _ => eK .i64 _), .int .i64 _]) (by first | with_reducible rfl | (subst ho; rfl)) (impl_hasInt.ans o ho _ _ hd) ?_; rintro (_ | _) hv <;> (try simp only [decide_eq_true_eq, decide_eq_false_iff_not] at hv))
        | (refine Den.pcallE (β := List Int) (fun v => .sl .ro 1 (o.bx fun _ => eK .i64 v)) (as' := [.agg [.int .i64 _, .int .i64 _, .int .i64 _, .int .i64 _, .int .i64 _, .str _, .str _]]) (by first | with_reducible rfl | (subst ho; rfl)) (impl_Kids.ans o ho _ _ _ _ _ _ _) ?_; rintro ks hks; rw [← hyn] at hks; have hk3 : ks.length ≤ 3 := (by rw [← hks, len_kidsM]; exact arityM_le _))
        | (refine Den.fetchYNd ho ?_ ?_ (by with_reducible assumption) ?_)
        | (refine Den.fetchXNd ho ?_ ?_ (fun y hy => ?_); rotate_left 2; rcases y with ⟨y0, y1, y2, y3, y4, y5, y6⟩; (first | (have _h := hyn) | (have hyn := hy)))
        | (refine Den.need ?_ ?_)
        | (refine Den.indF (fun m_ s_ => ∃ (et : Box) (a25 a26 : Int) (tt : Tok) (tk : List Nat), s_ = ⟨[.sl .ro 7 (o.bx fun _ => eNd l), .sl .ro 1 (o.bx fun _ => eK .i64 dead), .junk, .junk, .junk, .junk, .pbx (.loc 0) 0, .pbx (.loc 1) 0, .junk, .junk, .junk, .junk, .junk, .junk, .junk, .junk, .junk, .junk, .junk, .junk, .junk, .junk, .junk, .junk, .sl .ro 1 (o.bx fun _ => eK .i64 ks), .int .i64 a25, .int .i64 a26] ++ List.replicate 14 .junk, [[[.int .i64 0, .int .i64 0, .int .i64 0, .int .i64 0, .int .i64 0, .str ⟨#[]⟩, .str ⟨#[]⟩, .sl .nil 8 []]], [[.int .i64 y0, .int .i64 y1, .int .i64 y2, .int .i64 y3, .int .i64 y4, .str y5, .str y6, .sl tt 8 et]]], [], tk⟩ ∧ Lw tk tt et.length ∧ et = (o.bx fun _ => eTrs ((ks.take a26.toNat).map (treeM l dead))) ∧ (a25 = ks.length ∧ 0 ≤ a26 ∧ a26 ≤ ks.length) ∧ (ks.length - a26).toNat ≤ m_) _ _ ⟨_, _, _, _, _, by subst ho; rfl, ?_, ?_, ?_, Nat.le_refl _⟩ ?_
           rotate_right
           rintro m_ _ ⟨et, a25, a26, tt, tk, rfl, hla, rfl, ⟨i0, i1, i2⟩, hka⟩ iha
           rcases hla.tok with rfl | ⟨it, rfl⟩ <;> refine Den.unloopA ho ?_
           all_goals repeat' (first
            | (refine Den.id ?_
               (try (conv => arg 2; cbv))
               first
                | refine Den.testT ?_
                | refine Den.testF ?_
                | (refine Den.test (fun hr => ?_) (fun hr => ?_) <;> (have hb := hr) <;> (try simp (disch := omega) only [ho, std, wI, lenE, nrm] at hb) <;> (try (exfalso; first | contradiction | omega | exact hb rfl)))
                | (refine Den.pcallE (β := Tr) (fun v => dTr o v) (as' := [.sl .ro 7 (o.bx fun _ => eNd l), .sl .ro 1 (o.bx fun _ => eK .i64 dead), .int .i64 _]) (by first | with_reducible rfl | (subst ho; rfl)) (ihc _ (by rw [hks, ← hyk]; exact rdG_mem (z := 0) i1 (by omega))) ?_; rintro ⟨⟨v0, v1, v2, v3, v4, v5, v6⟩, vk⟩ hv)
                | (refine Den.fetchXK ho ?_ ?_ (fun y hyk => ?_); rotate_left 2)
                | (refine Den.needD ho (by kernel_rfl) ?_)
                | (refine Den.need ?_ ?_)
                | (refine Den.app1w ?_ (fun t' tk' hl' => ?_))
                | (refine iha _ _ ?_ ⟨_, _, _, _, _, by subst ho; rfl, ?_, ?_, ?_, Nat.le_refl _⟩)
                | (refine Den.done ⟨by first | exact Or.inl rfl | exact Or.inr rfl, ?_⟩; (conv => lhs; cbv) <;> refine congrArg some ?_))
            | ((fail_if_success (refine Den.id ?_))
               first
                | (subst ho; exact hla)
                | (subst ho; simpa [std] using hl')
                | (subst ho; simp [std, len_eTrs]; omega)
                | ((try clear iha); subst ho; simp (disch := omega) only [std, wI]; exact push_eTrs (by rw [take_succG 0 i1 (by omega), show rdG 0 ks a26 = y from hyk, List.map_append, ← hv]; rfl))
                | (rw [treeM_live hT h0 h1 (by assumption), hyn, show kidsM _ = ks from hyn ▸ hks, List.take_of_length_le (by omega)]; rfl)
                | assumption
                | omega
                | rfl
                | (subst ho; simp (disch := omega) only [std, wI, lenE] <;> first | done | rfl | omega))))
        | (refine Den.done ⟨by first | exact Or.inl rfl | exact Or.inr rfl, ?_⟩; (conv => lhs; cbv) <;> refine congrArg some ?_))
    | ((fail_if_success (refine Den.id ?_))
       first
        | (subst ho; exact ⟨by simp [std, len_eK], Int.le_refl _, by omega⟩)
        | (subst ho; rfl)
        | (rw [treeM_dead (by assumption)]; subst ho; simp only [dTr, zNint, std, eTrs]; done)
        | assumption
        | omega
        | rfl
        | (exact Lw.nil)
        | (subst ho; simp (disch := omega) only [std, wI, lenE] <;> first | done | rfl | omega)))
theorem push_eNdT {a b : List Nd} {x : Nd} (h : b = a ++ [x]) : std.app (eNd a) [cNd x] = eNd b := by subst h; simp [std, eNd]
theorem setK_ge {n : Nd} {k : Nat} {v : Int} (h : 3 ≤ k) : setK n k v = n := by
 unfold setK
 split <;> first | omega | rfl
theorem flat_gns {xa xb : Option (List D → Option D)} (o : Std) (ho : o = std) : ∀ (m : Nat) (n : Nd) (ks : List Tr), sizeK ks < m → ∀ (out : List Nd) (t0 : Tok) (tk : List Nat), out.length + sizeK ks + 1 ≤ 1048576 → Lw tk t0 (o.bx fun _ => eNd out).length →
  Gns (env xa xb) 96 [.sl t0 7 (o.bx fun _ => eNd out), .agg [.int .i64 n.f0, .int .i64 n.f1, .int .i64 n.f2, .int .i64 n.f3, .int .i64 n.f4, .str n.f5, .str n.f6, .sl .ro 8 (o.bx fun _ => eTrs ks)]] [] tk
   (fun ds out' tk' loc => ∃ t', ds = [.sl t' 7 (o.bx fun _ => eNd (flatT (.mk n ks) out))] ∧ Lw tk' t' (o.bx fun _ => eNd (flatT (.mk n ks) out)).length)
 | 0, _, _, h, _, _, _, _, _ => absurd h (by omega)
 | m + 1, ⟨n0, n1, n2, n3, n4, n5, n6⟩, ks, hm, out, t0, tk, hb, hl => by
   have ihf := flat_gns (xa := xa) (xb := xb) o ho m
   have hlk := len_sizeK ks
   refine Gns.mkA (E := env xa xb) (f := 96) ho _ (by rfl) (by rfl) ?_
   obtain ⟨R, hR⟩ : ∃ R, flatT (.mk ⟨n0, n1, n2, n3, n4, n5, n6⟩ ks) out = R := ⟨_, rfl⟩
   have hR0 : flatK ks 0 ⟨n0, n1, n2, n3, n4, n5, n6⟩ out = R := by rw [← hR, flatT]
   rw [hR]
   repeat' (first
    | (refine Den.id ?_
       (try (conv => arg 2; cbv))
       first
        | refine Den.testT ?_
        | refine Den.testF ?_
        | (refine Den.test (fun hr => ?_) (fun hr => ?_) <;> (have hb := hr) <;> (try simp (disch := omega) only [ho, std, wI, lenE, nrm] at hb) <;> (try (exfalso; first | contradiction | omega | exact hb rfl)))
        | (refine Den.need ?_ ?_)
        | (refine Den.app1w ?_ (fun t' tk' hl' => ?_))
        | (refine Den.indF (fun m_ s_ => ∃ (a12 a13 : Int) (o' : List Nd) (q1 q2 q3 : Int) (tt : Tok) (tk : List Nat), s_ = ⟨[.sl tt 7 (o.bx fun _ => eNd o'), .junk, .junk, .junk, .junk, .pbx (.loc 1) 0, .junk, .junk, .junk, .junk, .junk, .sl .ro 8 (o.bx fun _ => eTrs ks), .int .i64 a12, .int .i64 a13] ++ List.replicate 31 .junk, [[[.int .i64 n0, .int .i64 n1, .int .i64 n2, .int .i64 n3, .int .i64 n4, .str n5, .str n6, .sl .ro 8 (o.bx fun _ => eTrs ks)]], [[.int .i64 n0, .int .i64 q1, .int .i64 q2, .int .i64 q3, .int .i64 n4, .str n5, .str n6]]], [], tk⟩ ∧ Lw tk tt (o.bx fun _ => eNd o').length ∧ (a12 = ks.length ∧ 0 ≤ a13 ∧ a13 ≤ ks.length ∧ flatK (ks.drop a13.toNat) a13.toNat ⟨n0, q1, q2, q3, n4, n5, n6⟩ o' = R ∧ o'.length + sizeK (ks.drop a13.toNat) + 1 ≤ 1048576) ∧ (ks.length - a13).toNat ≤ m_) _ _ ⟨_, _, _, _, _, _, _, _, by subst ho; rfl, ?_, ?_, Nat.le_refl _⟩ ?_
           rotate_right
           rintro m_ _ ⟨a12, a13, o', q1, q2, q3, tt, tk, rfl, hla, ⟨i0, i1, i2, i3, i4⟩, hka⟩ iha
           refine Den.unloopA ho ?_
           repeat' (first
            | (refine Den.id ?_
               (try (conv => arg 2; cbv))
               first
                | refine Den.testT ?_
                | refine Den.testF ?_
                | (refine Den.test (fun hr => ?_) (fun hr => ?_) <;> (have hb := hr) <;> (try simp (disch := omega) only [ho, std, wI, lenE, nrm] at hb) <;> (try (exfalso; first | contradiction | omega | exact hb rfl)))
                | (refine Den.oc1 ho (e' := o.bx fun _ => eNd (flatT (.mk ⟨y0, y1, y2, y3, y4, y5, y6⟩ kk) o')) (x := .agg [.int .i64 y0, .int .i64 y1, .int .i64 y2, .int .i64 y3, .int .i64 y4, .str y5, .str y6, .sl .ro 8 (o.bx fun _ => eTrs kk)]) (by rfl) (fun _ => by rfl) (by rfl) (by rfl) (fun t0 tk0 hl0 => ihf ⟨y0, y1, y2, y3, y4, y5, y6⟩ kk ?_ o' t0 tk0 ?_ hl0) ?_ (fun t' tk' hl' => ?_))
                | (refine Den.fetchTr ho ?_ ?_ (fun n kk hy => ?_); rotate_left 2; rcases n with ⟨y0, y1, y2, y3, y4, y5, y6⟩; have hz := size_kid (ks := ks) (i := a13) i1 (by omega); rw [hy, sizeT] at hz; have hz2 := size_sub (ks := ks) a13.toNat; have hfk := flat_kid (ks := ks) (n := ⟨n0, q1, q2, q3, n4, n5, n6⟩) (out := o') i1 (by omega); rw [hy, i3] at hfk; have hfl := flatT_len (.mk ⟨y0, y1, y2, y3, y4, y5, y6⟩ kk) o'; rw [sizeT] at hfl)
                | (refine Den.need ?_ ?_)
                | (refine Den.app1w ?_ (fun t' tk' hl' => ?_))
                | (refine iha _ _ ?_ ⟨_, _, _, _, _, _, _, _, by subst ho; rfl, ?_, ?_, Nat.le_refl _⟩)
                | (refine Den.done ⟨by first | exact Or.inl rfl | exact Or.inr rfl, ?_⟩; refine ⟨_, by (conv => lhs; cbv) <;> rfl, _, by subst ho; rw [flat_end (by omega)] at i3; exact congrArg (fun x => [D.sl _ 7 x]) (push_eNdT i3.symm), ?_⟩))
            | ((fail_if_success (refine Den.id ?_))
               first
                | assumption
                | omega
                | rfl
                | (subst ho; exact hl')
                | (subst ho; simp (disch := omega) only [std, wI, lenE]; refine ⟨i0, by omega, by omega, ?_, by omega⟩; first | (rw [hfk, show a13.toNat = 0 by omega, setK]; done) | (rw [hfk, show a13.toNat = 1 by omega, setK]; done) | (rw [hfk, show a13.toNat = 2 by omega, setK]; done) | (rw [hfk, setK_ge (by omega)]; done))
                | (subst ho; exact hla)
                | (subst ho; simp [std, lenE]; omega)
                | (subst ho; rw [flat_end (by omega)] at i3; rw [← i3]; simpa [std, lenE] using hl')
                | (subst ho; simp (disch := omega) only [std, wI, lenE] <;> first | done | rfl | omega))))
        | (refine Den.done ⟨by first | exact Or.inl rfl | exact Or.inr rfl, ?_⟩; refine ⟨_, by (conv => lhs; cbv) <;> rfl, _, ?_, ?_⟩))
    | ((fail_if_success (refine Den.id ?_))
       first
        | assumption
        | omega
        | rfl
        | (subst ho; exact ⟨by simp [std, len_eTrs], Int.le_refl _, by omega, hR0, by simpa using hb⟩)
        | (subst ho; simp (disch := omega) only [std, wI, lenE] <;> first | done | rfl | omega)))
theorem spec_l22Part.ansM {xa xb : Option (List D → Option D)} (o : Std) (ho : o = std) (l : List Nd) (dead : List Int) (h0 : OkT l) (h1 : Sz l) (h3 : dead.length ≤ 1048576) : ∀ (m : Nat) (i : Int), i.toNat < m → 0 ≤ i ∧ i < l.length →
  Ans (env xa xb) 94 [rNd o l, iX i, rK o dead] (rNd o (partM l dead i))
 | 0, _, h, _ => absurd h (by omega)
 | m + 1, i, hm, h2 => spec_l22Part_ih.ans o ho l i dead h0 h1 h2 h3 fun x hx => by
   have := h0.kid h2.1 h2.2 hx
   exact spec_l22Part.ansM o ho l dead h0 h1 h3 m x (by omega) ⟨this.1, by omega⟩
theorem spec_l22Part.ans {xa xb : Option (List D → Option D)} (o : Std) (ho : o = std) (l : List Nd) (i : Int) (dead : List Int) (h0 : OkT l) (h1 : Sz l) (h2 : 0 ≤ i ∧ i < l.length) (h3 : dead.length ≤ 1048576) :
 Ans (env xa xb) 94 [rNd o l, iX i, rK o dead] (rNd o (partM l dead i)) := spec_l22Part.ansM o ho l dead h0 h1 h3 (i.toNat + 1) i (by omega) h2
theorem impl_cutTree.ans {xa xb : Option (List D → Option D)} (o : Std) (ho : o = std) (l : List Nd) (dead : List Int) (i : Int) (h0 : OkT l) (h2 : 0 ≤ i ∧ i < l.length) (h3 : dead.length ≤ 1048576) :
 Ans (env xa xb) 97 [rNd o l, rK o dead, iX i] (dTr o (treeM l dead i)) := cutTree_ans o ho l dead h0 h3 (i.toNat + 1) i (by omega) h2.1 h2.2
theorem shiftN_zero (n : Nd) : shiftN 0 n = n := by
 cases n; simp [shiftN]
theorem flat_treeM {l : List Nd} {dead : List Int} (hT : OkT l) {i : Int} (h0 : 0 ≤ i) (h1 : i < l.length) : flatT (treeM l dead i) [] = partM l dead i := by
 rw [flatT_part _ (wf_tree hT (i.toNat + 1) i h0 h1 (by omega))]
 show shiftL 0 (partM l dead i) = _
 unfold shiftL
 rw [show (shiftN 0) = id from funext shiftN_zero, List.map_id]
def pruneM (l : List Nd) (dead : List Int) : List Nd := if okM l = true then partM l dead (l.length - 1) else []
theorem prune_no {l : List Nd} {dead : List Int} (h : okM l = false) : pruneM l dead = [] := by rw [pruneM, h]; rfl
theorem prune_yes {l : List Nd} {dead : List Int} (h : okM l = true) : pruneM l dead = partM l dead (l.length - 1) := by rw [pruneM, if_pos h]
theorem prune_len (l : List Nd) (dead : List Int) : (pruneM l dead).length ≤ 1000 := by
 by_cases h : okM l = true
 · have hT := okM_iff.1 h
   have := hT.size
   rw [prune_yes h]; exact (part_bd hT (by omega) (by omega)).1
 · rw [pruneM, if_neg h]; simp
theorem treeM_size {l : List Nd} {dead : List Int} (hT : OkT l) {i : Int} (h0 : 0 ≤ i) (h1 : i < l.length) {n : Nd} {ks : List Tr} (h : treeM l dead i = .mk n ks) : sizeK ks + 1 ≤ 1000 := by
 have h2 := flatT_len (treeM l dead i) []
 rw [flat_treeM hT h0 h1, h, sizeT] at h2
 have := (part_bd (dead := dead) hT h0 h1).1
 simp only [List.length_nil] at h2
 omega
theorem flat_nil {xa xb : Option (List D → Option D)} {o : Std} (ho : o = std) {n0 n1 n2 n3 n4 : Int} {n5 n6 : ByteArray} {ks : List Tr} {t0 : Tok} {tk : List Nat} (hl : Lw tk t0 ([] : Box).length) (hb : sizeK ks + 1 ≤ 1000) :
  Gns (env xa xb) 96 [.sl t0 7 [], .agg [iX n0, iX n1, iX n2, iX n3, iX n4, .str n5, .str n6, .sl .ro 8 (o.bx fun _ => eTrs ks)]] [] tk
   (fun ds out' tk' loc => ∃ t', ds = [.sl t' 7 (o.bx fun _ => eNd (flatT (.mk ⟨n0, n1, n2, n3, n4, n5, n6⟩ ks) []))] ∧ Lw tk' t' (o.bx fun _ => eNd (flatT (.mk ⟨n0, n1, n2, n3, n4, n5, n6⟩ ks) [])).length) := by
 subst ho
 exact flat_gns std rfl (sizeK ks + 1) ⟨n0, n1, n2, n3, n4, n5, n6⟩ ks (by omega) [] t0 tk (by simp only [List.length_nil]; omega) hl
theorem spec_PruneTo.ans {xa xb : Option (List D → Option D)} (o : Std) (ho : o = std) (l : List Nd) (dead : List Int) (h0 : Sz l) (h1 : l.length ≤ 1048576) (h2 : dead.length ≤ 1048576) : Ans (env xa xb) 72 [rNd o l, rK o dead] (rNd o (pruneM l dead)) := by
 refine Ans.mkA ho _ rfl rfl ?_
 repeat' (first
  | (refine .id ?_
     (try (conv => arg 2; cbv))
     first
      | refine .tN1 ho ?_
      | refine .tN0 ho ?_
      | (refine .pE2 (β := Bool) .bool (as' := [rNd o _]) (spec_NodesOk.ans o ho _ ?_ ?_) ?_; rotate_left 2; rintro (_ | _) hv <;> (try simp only [dE] at hv) <;> (try first | contradiction | exact bX hv))
      | (refine .pE2 (β := List Nd) (rNd o) (as' := [rNd o _, iX _, rK o _]) (spec_l22Part.ans o ho _ _ _ ?_ ?_ ?_ ?_) ?_; rotate_left 4; rintro v hv)
      | (refine .fin ?_; (conv => lhs; cbv) <;> refine congrArg some ?_))
  | ((fail_if_success (refine .id ?_))
     first
      | (exact okM_iff.1 (by assumption))
      | (have hq := (okM_iff.1 (by assumption)).size; subst ho; simp (disch := omega) only [std, wI, len_eNd]; omega)
      | (subst ho; rw [prune_no (by assumption)]; rfl)
      | (have hq := (okM_iff.1 (by assumption)).size; subst ho; simp (disch := omega) only [std, wI, len_eNd] at hv; rw [prune_yes (by assumption), hv] <;> rfl)
      | assumption))
theorem spec_Prune.ans {xa xb : Option (List D → Option D)} (o : Std) (ho : o = std) (l : List Nd) (dp : Int) (h0 : Sz l) (h1 : l.length ≤ 1048576) : Ans (env xa xb) 41 [rNd o l, iX dp] (rNd o (pruneM l (deadM l dp))) := by
 refine Ans.mkA ho _ rfl rfl ?_
 repeat' (first
  | (refine .id ?_
     (try (conv => arg 2; cbv))
     first
      | (refine .pE2 (β := List Int) (rK o) (as' := [rNd o _, iX _]) (spec_DeadNodes.ans o ho _ _ ?_ ?_) ?_; rotate_left 2; rintro v hv; (subst hv))
      | (refine .pE2 (β := List Nd) (rNd o) (as' := [rNd o _, rK o _]) (spec_PruneTo.ans o ho _ _ ?_ ?_ ?_) ?_; rotate_left 3; rintro v hv)
      | (refine .fin ?_; (conv => lhs; cbv) <;> refine congrArg some ?_))
  | ((fail_if_success (refine .id ?_))
     first
      | (have := dead_len l dp; omega)
      | (subst hv; rfl)))
theorem impl_PruneTo.ans {xa xb : Option (List D → Option D)} (o : Std) (ho : o = std) (l : List Nd) (dead : List Int) (h0 : Sz l) (h1 : l.length ≤ 1048576) (h2 : dead.length ≤ 1048576) : Ans (env xa xb) 73 [rNd o l, .sl .nw 1 (o.bx fun _ => eK .i64 dead)] (.sl .nw 7 (o.bx fun _ => eNd (pruneM l dead))) := by
 refine Ans.mkA ho _ rfl rfl ?_
 repeat' (first
  | (refine .id ?_
     (try (conv => arg 2; cbv))
     first
      | refine .tN1 ho ?_
      | refine .tN0 ho ?_
      | (refine .pE2 (β := Tr) (fun v => dTr o v) (as' := [rNd o _, rK o _, iX _]) (impl_cutTree.ans o ho _ _ _ ?_ ?_ ?_) ?_; rotate_left 3; rintro ⟨⟨v0, v1, v2, v3, v4, v5, v6⟩, vk⟩ hv)
      | (refine .oc1 ho (e' := o.bx fun _ => eNd (flatT (.mk ⟨v0, v1, v2, v3, v4, v5, v6⟩ vk) [])) (x := .agg [iX v0, iX v1, iX v2, iX v3, iX v4, .str v5, .str v6, .sl .ro 8 (o.bx fun _ => eTrs vk)]) (by rfl) (fun _ => by rfl) (by rfl) (by rfl) (fun t0 tk0 hl0 => flat_nil ho hl0 ?_) Lw.nil (fun t' tk' hl' => ?_); rotate_left; rcases hl'.tok with rfl | ⟨it, rfl⟩)
      | (refine .pE2 (β := Bool) .bool (as' := [rNd o _]) (impl_NodesOk.ans o ho _ ?_ ?_) ?_; rotate_left 2; rintro (_ | _) hv <;> (try simp only [dE] at hv) <;> (try first | contradiction | exact bX hv))
      | (refine .fin ?_; (conv => lhs; cbv) <;> refine congrArg some ?_))
  | ((fail_if_success (refine .id ?_))
     first
      | (exact okM_iff.1 (by assumption))
      | (have hq := (okM_iff.1 (by assumption)).size; subst ho; simp (disch := omega) only [std, wI, len_eNd]; omega)
      | (subst ho; rw [prune_no (by assumption)]; rfl)
      | (have hT := okM_iff.1 (by assumption); have hq := hT.size; subst ho; simp (disch := omega) only [std, wI, len_eNd] at hv; exact treeM_size hT (by omega) (by omega) hv)
      | (have hT := okM_iff.1 (by assumption); have hq := hT.size; subst ho; simp (disch := omega) only [std, wI, len_eNd] at hv; rw [prune_yes (by assumption), ← flat_treeM hT (by omega) (by omega), hv] <;> rfl)
      | assumption))
theorem impl_Prune.ans {ga gb : List D → Option D} (o : Std) (ho : o = std) (l : List Nd) (dp : Int) (h0 : PassSpec ga) (h1 : FreeSpec gb) (h2 : Sz l) (h3 : l.length ≤ 1048576) : Ans (env (some ga) (some gb)) 42 [rNd o l, iX dp] (.sl .nw 7 (o.bx fun _ => eNd (pruneM l (deadM l dp)))) := by
 refine Ans.mkA ho _ rfl rfl ?_
 repeat' (first
  | (refine .id ?_
     (try (conv => arg 2; cbv))
     first
      | (refine .pE2 (β := List Int) (fun v => .sl .nw 1 (o.bx fun _ => eK .i64 v)) (as' := [rNd o _, iX _]) (impl_DeadNodes.ans o ho _ _ ?_ ?_ ?_ ?_) ?_; rotate_left 4; rintro v hv; (subst hv))
      | (refine .pE2 (β := List Nd) (fun v => .sl .nw 7 (o.bx fun _ => eNd v)) (as' := [rNd o _, .sl .nw 1 (o.bx fun _ => eK .i64 _)]) (impl_PruneTo.ans o ho _ _ ?_ ?_ ?_) ?_; rotate_left 3; rintro v hv)
      | (refine .fin ?_; (conv => lhs; cbv) <;> refine congrArg some ?_))
  | ((fail_if_success (refine .id ?_))
     first
      | (have := dead_len l dp; omega)
      | (subst hv; rfl)))
theorem laws_markNodeS_t.mark {xa xb : Option (List D → Option D)} (o : Std) (ho : o = std) (k : Int) (l : List Nd) (n : Nat) (h0 : n = l.length) (h1 : l.length ≤ 1048576) (h2 : 0 ≤ k ∧ k ≤ 1) : Gns (env xa xb) 23 [.asl (.out 0) 7 n, iX k] [(o.bx fun _ => eNd l)] [] (fun ds_ out_ _ _ => ds_ = [iX (k + 7 * n)] ∧ ∃ bx_, out_ = [bx_] ∧ (bx_ = (o.bx fun _ => eNd (rowN xa xb k n)))) := by
 refine Gns.mkA (E := env xa xb) (f := 23) ho _ (by rfl) (by rfl) ?_
 repeat' (first
  | (refine .id ?_
     (try (conv => arg 2; cbv))
     first
      | (refine .indF (fun m_ s_ => ∃ (a1 : Int) (a5 : Int) (tk : List Nat) (bq : Box), s_ = ⟨[.asl (.out 0) 7 n, iX a1, Jk, Jk, Jk, iX a5] ++ List.replicate 58 Jk, [], [bq], tk⟩ ∧ (bq = (o.bx fun _ => eNd (markG (fN xa xb k) l a5)) ∧ 0 ≤ a5 ∧ a5 ≤ n ∧ a1 = k + 7 * a5) ∧ (n - a5).toNat ≤ m_) _ _ ⟨_, _, _, _, by subst ho; rfl, ?_, Nat.le_refl _⟩ ?_
         rotate_right
         rintro m_ _ ⟨a1, a5, tk, bq, rfl, hIa, hka⟩ iha
         obtain ⟨rfl, i1, i2, i3⟩ := hIa; have hml := markG_len (f := fN xa xb k) (l := l) i1 (by omega); refine .unloopA ho ?_
         repeat' (first
          | (refine .id ?_
             (try (conv => arg 2; cbv))
             first
              | (refine .test (fun hr => ?_) (fun hr => ?_) <;> (have hb := hr) <;> (try simp (disch := omega) only [ho, std, wI, lenE, len_eNN, Int.ofNat_eq_natCast, nrm] at hb) <;> (try (exfalso; first | contradiction | omega | exact hb rfl)))
              | (refine .fetchS ho ?_ ?_ ?_)
              | (refine .pE2 (β := ByteArray) (fun v => .str v) (as' := [iX _]) (laws_markText_t.ans o ho _ ?_) ?_; rotate_left 1; rintro v hv; (first | (have _h := ht1; have ht2 := hv) | (have ht1 := hv)))
              | (refine .fetchYNd ho ?_ ?_ (by with_reducible assumption) ?_)
              | (refine .fetchXNd ho ?_ ?_ (fun y hy => ?_); rotate_left 2; rcases y with ⟨y0, y1, y2, y3, y4, y5, y6⟩)
              | (refine iha _ _ ?_ ⟨_, _, _, _, by subst ho; rfl, ?_, Nat.le_refl _⟩)
              | (refine .fin ?_; refine ⟨_, by (conv => lhs; cbv) <;> rfl, ?_, _, by rfl, ?_⟩))
          | ((fail_if_success (refine .id ?_))
             first
              | (subst ho; exact ⟨congrArg eNd (markG_zero _ l).symm, Int.le_refl _, by omega, by omega⟩)
              | (refine congrArg (fun x => [D.int .i64 x]) ?_; omega)
              | (subst ho; refine congrArg eNd ?_; rw [h0]; exact markG_end (by omega) (by omega))
              | (subst ho; simp only [len_setAt]; simp only [std, len_eNd]; omega)
              | ((try clear iha); subst ho; simp (disch := omega) only [std, wI, List.set_set] at *; exact ⟨markN_set i1 (by omega) (by omega) (by omega) (by omega) (by omega) (by omega) ht1 ht2 (by omega) (by omega), by omega, by omega, by omega⟩)
              | assumption
              | omega
              | (subst ho; simp [std, lenE]; omega)
              | (subst ho; simp (disch := omega) only [std, wI, tdiv2, tdivN, lenE] <;> first | done | rfl | omega)))))
  | ((fail_if_success (refine .id ?_))
     first
      | fail))
theorem laws_heldNodeS.ans {xa xb : Option (List D → Option D)} (o : Std) (ho : o = std) (a : List Nd) (k : Int) (h0 : a = rowN xa xb k a.length) (h1 : a.length ≤ 1048576) (h2 : 0 ≤ k ∧ k ≤ 1) : Ans (env xa xb) 43 [rNd o a, iX k] (iX (k + 7 * a.length)) := by
 refine Ans.mkA ho _ rfl rfl ?_
 repeat' (first
  | (refine .id ?_
     (try (conv => arg 2; cbv))
     first
      | (refine .indF (fun m_ s_ => ∃ (a1 : Int) (a5 : Int) (tk : List Nat), s_ = ⟨[rNd o a, iX a1, Jk, Jk, Jk, iX a5] ++ List.replicate 72 Jk, [], [], tk⟩ ∧ (0 ≤ a5 ∧ a5 ≤ a.length ∧ a1 = k + 7 * a5) ∧ (a.length - a5).toNat ≤ m_) _ _ ⟨_, _, _, by subst ho; rfl, ?_, Nat.le_refl _⟩ ?_
         rotate_right
         rintro m_ _ ⟨a1, a5, tk, rfl, hIa, hka⟩ iha
         obtain ⟨i1, i2, i3⟩ := hIa; refine .unloopA ho ?_
         repeat' (first
          | (refine .id ?_
             (try (conv => arg 2; cbv))
             first
              | (refine .test (fun hr => ?_) (fun hr => ?_) <;> (have hb := hr) <;> (try simp (disch := omega) only [ho, std, wI, lenE, len_eNN, Int.ofNat_eq_natCast, nrm] at hb) <;> (try (exfalso; first | contradiction | omega | exact hb rfl)))
              | (refine .pE2 (β := ByteArray) (fun v => .str v) (as' := [iX _]) (laws_markText_t.ans o ho _ ?_) ?_; rotate_left 1; rintro v hv; (first | (have _h := ht1; obtain rfl : y6 = v := (by rw [q6, ← hv]; subst ho; simp (disch := omega) only [std, wI]; congr 1; omega)) | (have ht1 := hv; obtain rfl : y5 = v := (by rw [q5, ← hv]; subst ho; simp (disch := omega) only [std, wI]; congr 1; omega))))
              | (refine .fetchYNd ho ?_ ?_ (by with_reducible assumption) ?_)
              | (refine .fetchXNd ho ?_ ?_ (fun y hy => ?_); rotate_left 2; rcases y with ⟨y0, y1, y2, y3, y4, y5, y6⟩; (first | (have _h := hyq) | (have hyn := hy; have hyq := rowN_at i1 (by omega) (h0 ▸ hy); obtain ⟨q0, q1, q2, q3, q4, q5, q6⟩ := hyq)))
              | (refine .needD ho (by kernel_rfl) ?_)
              | (refine iha _ _ ?_ ⟨_, _, _, by subst ho; rfl, ?_, Nat.le_refl _⟩)
              | (refine .fin ?_; (conv => lhs; cbv) <;> refine congrArg some ?_))
          | ((fail_if_success (refine .id ?_))
             first
              | (subst ho; exact ⟨Int.le_refl _, by omega, by omega⟩)
              | ((try clear iha); simp (disch := omega) only [ho, std, wI]; exact ⟨by omega, by omega, by omega⟩)
              | (refine dI ?_; omega)
              | assumption
              | (subst ho; simp (disch := omega) only [std, wI, tdiv2, tdivN, lenE] <;> first | done | rfl | omega)))))
  | ((fail_if_success (refine .id ?_))
     first
      | fail))
section
variable {w : World} {lo hi lo' hi' : Nat} {v v' : Value} {l : List Nd}
noncomputable abbrev rowNg (n : Nat) : List Nd := rowN (some gPass) (some gFree) 1 n
theorem k_eqN2 (hl : l.length ≤ 1048576) (hv : Row lo hi w 7 (eNd l) v) (hh : hi ≤ w.heap.size) (hv' : Row lo' hi' w 7 (eNd l) v') (hh' : hi' ≤ w.heap.size) : Calls Tryz.prog 19 #[v, v'] w fun e w' => e = .returned (.bool true) ∧ Stay w w' :=
 bool_calls env_okA (laws_eqNodeS.ans (xa := some gPass) (xb := some gFree) std rfl l l rfl hl) rfl (args2 (.row hv hh (flt_eNd l)) (.row hv' hh' (flt_eNd l)))
theorem k_markN2 (hl : l.length ≤ 1048576) (hv : Row lo hi w 7 (eNd l) v) (hu : Unf w 7 (eNd l) v) (hh : hi ≤ w.heap.size) : Calls Tryz.prog 23 #[v, .int .i64 1] w fun e w' => ∃ k, e = .returned (.int .i64 k) ∧ k = 1 + 7 * l.length ∧ Row lo hi w' 7 (eNd (rowNg l.length)) v ∧ Mark lo hi w w' := by
 have hlk : (eNd l).length = l.length := len_eNd l
 refine (mark_calls env_okA (k := 1) (kr := 1 + 7 * l.length) (R := fun bx => bx = eNd (rowNg l.length)) (laws_markNodeS_0.ans (xa := some gPass) (xb := some gFree) std rfl [] 1 rfl) (fun he => ?_) (fun _ => ?_) (flt_eNd l) ?_ hv hu hh).mono ?_
 · have : l.length = 0 := by rw [← hlk, he]; rfl
   exact ⟨by omega, by rw [this]; rfl⟩
 · rw [hlk]
   exact laws_markNodeS_t.mark (xa := some gPass) (xb := some gFree) std rfl 1 l l.length rfl (by omega) (by decide)
 · rintro bx rfl
   exact ⟨flt_eNd _, by rw [len_eNd, hlk, rowN_len]⟩
 · rintro e w' ⟨bx, rfl, rfl, hr, hm⟩
   exact ⟨_, rfl, rfl, hr, hm⟩
theorem k_heldN {n : Nat} (hn : n ≤ 1048576) (hv : Row lo hi w 7 (eNd (rowNg n)) v) (hh : hi ≤ w.heap.size) : Calls Tryz.prog 43 #[v, .int .i64 1] w fun e w' => ∃ k, e = .returned (.int .i64 k) ∧ k = 1 + 7 * n ∧ Stay w w' := by
 have hl := rowN_len (some gPass) (some gFree) 1 n
 refine (int_calls env_okA (laws_heldNodeS.ans (xa := some gPass) (xb := some gFree) std rfl (rowNg n) 1 (by rw [show (rowNg n).length = n from hl]) (by rw [show (rowNg n).length = n from hl]; exact hn) (by decide)) rfl (args2 (.row hv hh (flt_eNd _)) .int)).mono ?_
 rintro e w' ⟨rfl, hs⟩
 exact ⟨_, rfl, by rw [show (rowNg n).length = n from hl], hs⟩
end
theorem k11_spec {w : World} {lo hi : Nat} {v : Value} {a : List Nd} {dp : Int} (hz : SzL a) (hh : hi ≤ w.heap.size) (hv : Row lo hi w 7 (eNd a) v) : Calls Tryz.prog 41 #[v, .int .i64 dp] w fun e w' => ∃ v', e = .returned v' ∧ Row 0 w'.heap.size w' 7 (eNd (pruneM a (deadM a dp))) v' ∧ Stay w w' :=
 row_calls env_okA (spec_Prune.ans (xa := some gPass) (xb := some gFree) std rfl a dp hz.sz (by have := hz.1; omega)) (flt_eNd _) rfl (args2 (.row hv hh (flt_eNd a)) .int)
theorem k11_impl {w : World} {lo hi : Nat} {v : Value} {a : List Nd} {dp : Int} (hz : SzL a) (hh : hi ≤ w.heap.size) (hv : Row lo hi w 7 (eNd a) v) : Calls Tryz.prog 42 #[v, .int .i64 dp] w fun e w' => ∃ v', e = .returned v' ∧ Row w.heap.size w'.heap.size w' 7 (eNd (pruneM a (deadM a dp))) v' ∧ Unf w' 7 (eNd (pruneM a (deadM a dp))) v' ∧ Stay w w' :=
 new_calls env_okA (impl_Prune.ans std rfl a dp pass_spec free_spec hz.sz (by have := hz.1; omega)) (flt_eNd _) rfl (args2 (.row hv hh (flt_eNd a)) .int)
theorem law11_calls {W : World} {a : List Nd} {dp : Int} {v : Value} (hB : Bg a) (h0 : Row 0 W.heap.size W 7 (eNd a) v) : Calls Tryz.prog 11 #[v, .int .i64 dp] W fun e w => e = .returned (.bool true) ∧ Below W.heap.size W w := by
 have hn : Tryz.f11.ntmps = 74 := by kernel_rfl
 have e15 : ∀ args w, (callFunc 15 args).run Tryz.prog w = .ok (.enter 15 args) w := enters_of Tryz.func15 (by kernel_rfl) rfl
 have e17 : ∀ args w, (callFunc 17 args).run Tryz.prog w = .ok (.enter 17 args) w := enters_of Tryz.func17 (by kernel_rfl) rfl
 have e19 : ∀ args w, (callFunc 19 args).run Tryz.prog w = .ok (.enter 19 args) w := enters_of Tryz.func19 (by kernel_rfl) rfl
 have e23 : ∀ args w, (callFunc 23 args).run Tryz.prog w = .ok (.enter 23 args) w := enters_of Tryz.func23 (by kernel_rfl) rfl
 have e41 : ∀ args w, (callFunc 41 args).run Tryz.prog w = .ok (.enter 41 args) w := enters_of Tryz.func41 (by kernel_rfl) rfl
 have e42 : ∀ args w, (callFunc 42 args).run Tryz.prog w = .ok (.enter 42 args) w := enters_of Tryz.func42 (by kernel_rfl) rfl
 have e43 : ∀ args w, (callFunc 43 args).run Tryz.prog w = .ok (.enter 43 args) w := enters_of Tryz.func43 (by kernel_rfl) rfl
 have t3 := Tryz.underlying3; have t4 := Tryz.underlying4
 go_enter Tryz.func11, hn
 go_wp2_with (go_at_fn 15; refine (k_sz hB h0 (Nat.le_refl _)).mono ?_; rintro e w1 ⟨r, rfl, hsz, s1⟩)
 · go_ret
   exact ⟨rfl, s1.1⟩
 have hz : SzL a := hsz (by omega)
 have hlen : (pruneM a (deadM a dp)).length ≤ 1048576 := (by have := prune_len a (deadM a dp); omega)
 have b1 : Below W.heap.size W w1 := s1.1
 have h1 := h0.stay (Nat.le_refl _) s1
 go_wp2_with (go_at_fn 17; refine (k_to hz h1 b1.size).mono ?_; rintro e w2 ⟨u1, rfl, hu1, _, s2⟩)
 have h2 := h1.stay b1.size s2; have b2 := b1.trans (s2.1.mono b1.size)
 go_wp2_with (go_at_fn 41; refine (k11_spec hz (Nat.le_refl _) hu1).mono ?_; rintro e w3 ⟨u2, rfl, hw3, s3⟩)
 have h3 := h2.stay b2.size s3; have b3 := b2.trans (s3.1.mono b2.size)
 go_wp2_with (go_at_fn 17; refine (k_to hz h3 b3.size).mono ?_; rintro e w4 ⟨u3, rfl, hx4, ux4, s4⟩)
 have q4 := s4.1.size; have h4 := h3.stay b3.size s4; have b4 := b3.trans (s4.1.mono b3.size); have hw4 := hw3.stay (Nat.le_refl _) s4
 go_wp2_with (go_at_fn 42; refine (k11_impl hz (Nat.le_refl _) hx4).mono ?_; rintro e w5 ⟨u4, rfl, hg5, ug5, s5⟩)
 have q5 := s5.1.size; have h5 := h4.stay b4.size s5; have b5 := b4.trans (s5.1.mono b4.size); have hw5 := hw4.stay q4 s5; have hx5 := hx4.stay (Nat.le_refl _) s5; have ux5 := ux4.stay hx4 (Nat.le_refl _) s5
 go_wp2_with (go_at_fn 19; refine (k_eqN2 hlen hg5 (Nat.le_refl _) hw5 (by omega)).mono ?_; rintro e w6 ⟨rfl, s6⟩)
 have q6 := s6.1.size; have h6 := h5.stay b5.size s6; have b6 := b5.trans (s6.1.mono b5.size); have hw6 := hw5.stay (by omega) s6; have hx6 := hx5.stay q5 s6; have ux6 := ux5.stay hx5 q5 s6; have hg6 := hg5.stay (Nat.le_refl _) s6; have ug6 := ug5.stay hg5 (Nat.le_refl _) s6
 go_wp2_with (go_at_fn 17; refine (k_to hz h6 b6.size).mono ?_; rintro e w7 ⟨u5, rfl, hy7, _, s7⟩)
 have q7 := s7.1.size; have h7 := h6.stay b6.size s7; have b7 := b6.trans (s7.1.mono b6.size); have hw7 := hw6.stay (by omega) s7; have hx7 := hx6.stay (by omega) s7; have ux7 := ux6.stay hx6 (by omega) s7; have hg7 := hg6.stay (by omega) s7; have ug7 := ug6.stay hg6 (by omega) s7
 go_wp2_with (go_at_fn 19; refine (k_eqN hz hx7 (by omega) hy7 (Nat.le_refl _)).mono ?_; rintro e w8 ⟨rfl, s8⟩)
 have q8 := s8.1.size; have h8 := h7.stay b7.size s8; have b8 := b7.trans (s8.1.mono b7.size); have hw8 := hw7.stay (by omega) s8; have hx8 := hx7.stay (by omega) s8; have ux8 := ux7.stay hx7 (by omega) s8; have hg8 := hg7.stay (by omega) s8; have ug8 := ug7.stay hg7 (by omega) s8
 have b3s := b3.size; have b8s := b8.size
 go_wp2_with (go_at_fn 23; refine (k_markN hz hx8 ux8 (by omega)).mono ?_; rintro e w9 ⟨k1, rfl, hk1, m9⟩)
 have q9 := m9.2.2.2.1; have h9 := h8.mark b8s m9 (.inl b3s); have b9 := b8.trans (m9.below b3s b8s); have hw9 := hw8.mark (by omega) m9 (.inl (Nat.le_refl _)); have hg9 := hg8.mark (by omega) m9 (.inr (Nat.le_refl _)); have ug9 := ug8.mark hg8 (by omega) m9 (.inr (Nat.le_refl _))
 have hk1n : ¬ k1 < 0 := by omega
 have hk1d : decide (k1 < 0) = false := decide_eq_false hk1n
 go_wp2_with (go_at_fn 19; refine (k_eqN2 hlen hg9 (by omega) hw9 (by omega)).mono ?_; rintro e w10 ⟨rfl, s10⟩)
 have q10 := s10.1.size; have h10 := h9.stay b9.size s10; have b10 := b9.trans (s10.1.mono b9.size); have hw10 := hw9.stay (by omega) s10; have hg10 := hg9.stay (by omega) s10; have ug10 := ug9.stay hg9 (by omega) s10; have b10s := b10.size
 go_wp2_with (go_at_fn 23; refine (k_markN2 hlen hg10 ug10 (by omega)).mono ?_; rintro e w11 ⟨k2, rfl, hk2, hg11, m11⟩)
 have q11 := m11.2.2.2.1; have h11 := h10.mark b10s m11 (.inl (by omega)); have b11 := b10.trans (m11.below (by omega) b10s); have hw11 := hw10.mark (by omega) m11 (.inl (by omega))
 have hk2n : ¬ k2 < 0 := by omega
 have hk2d : decide (k2 < 0) = false := decide_eq_false hk2n
 go_wp2_with (go_at_fn 43; refine (k_heldN hlen hg11 (by omega)).mono ?_; rintro e w12 ⟨k3, rfl, hk3, s12⟩)
 obtain rfl : k3 = k2 := hk3.trans hk2.symm
 have q12 := s12.1.size; have h12 := h11.stay b11.size s12; have b12 := b11.trans (s12.1.mono b11.size); have hw12 := hw11.stay (by omega) s12; have hg12 := hg11.stay (by omega) s12
 go_wp2_with (go_at_fn 17; refine (k_to hz h12 b12.size).mono ?_; rintro e w13 ⟨u6, rfl, hu13, _, s13⟩)
 have q13 := s13.1.size; have b13 := b12.trans (s13.1.mono b12.size); have hw13 := hw12.stay (by omega) s13; have hg13 := hg12.stay (by omega) s13
 go_wp2_with (go_at_fn 42; refine (k11_impl hz (Nat.le_refl _) hu13).mono ?_; rintro e w14 ⟨u7, rfl, hh14, _, s14⟩)
 have q14 := s14.1.size; have b14 := b13.trans (s14.1.mono b13.size); have hw14 := hw13.stay (by omega) s14; have hg14 := hg13.stay (by omega) s14
 go_wp2_with (go_at_fn 19; refine (k_eqN2 hlen hh14 (Nat.le_refl _) hw14 (by omega)).mono ?_; rintro e w15 ⟨rfl, s15⟩)
 have q15 := s15.1.size; have b15 := b14.trans (s15.1.mono b14.size); have hg15 := hg14.stay (by omega) s15
 go_wp2_with (go_at_fn 43; refine (k_heldN hlen hg15 (by omega)).mono ?_; rintro e w16 ⟨k4, rfl, hk4, s16⟩)
 obtain rfl : k4 = k3 := hk4.trans hk2.symm
 have b16 := b15.trans (s16.1.mono b15.size)
 go_ret
 exact ⟨rfl, b16⟩
end Go.Mach
