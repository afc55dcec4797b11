/- What the statements share: part 17 of a proof by an executable machine over the program's code. -/
import Derived.Test.YtbkpkchegopmiaaGreatDoorMc16
set_option linter.unusedVariables false
set_option linter.unusedSimpArgs false
set_option maxRecDepth 100000
set_option maxHeartbeats 6000000
namespace Go.Mach
open Go Go.RowKit
theorem raise_hit {l : List Nd} {y : Fc} {nd : Nd} (h1 : y.k = 7) (h2 : rN l y.n = nd) (h3 : nd.f0 = 18) : raiseP l y = true := by unfold raiseP; rw [h2]; simp [h1, h3]
theorem raise_no1 {l : List Nd} {y : Fc} (h1 : ¬ y.k = 7) : raiseP l y = false := by unfold raiseP; simp [h1]
theorem raise_no2 {l : List Nd} {y : Fc} {nd : Nd} (h2 : rN l y.n = nd) (h3 : ¬ nd.f0 = 18) : raiseP l y = false := by unfold raiseP; rw [h2]; simp [h3]
theorem kind_hit {n : Int} {y : Fc} (h1 : y.k = 0) (h2 : y.n = n) : kindP n y = true := by unfold kindP; simp [h1, h2]
theorem kind_no1 {n : Int} {y : Fc} (h1 : ¬ y.k = 0) : kindP n y = false := by unfold kindP; simp [h1]
theorem kind_no2 {n : Int} {y : Fc} (h1 : ¬ y.n = n) : kindP n y = false := by unfold kindP; simp [h1]
theorem caught_hit {l : List Nd} {s : List Int} {i : Int} {nd : Nd} (h : rN l i = nd) (h1 : nd.f0 = 19) (h2 : decide (nd.f2 ∈ s) = true) : caughtP l s i = true := by unfold caughtP; rw [h, h2]; simp [h1]
theorem caught_no1 {l : List Nd} {s : List Int} {i : Int} {nd : Nd} (h : rN l i = nd) (h1 : ¬ nd.f0 = 19) : caughtP l s i = false := by unfold caughtP; rw [h]; simp [h1]
theorem caught_no2 {l : List Nd} {s : List Int} {i : Int} {nd : Nd} (h : rN l i = nd) (h2 : decide (nd.f2 ∈ s) = false) : caughtP l s i = false := by unfold caughtP; rw [h, h2]; simp
theorem dead_hit {s : List Int} {i : Int} (h : decide (i ∈ s) = false) : deadP s i = true := by unfold deadP; rw [h]; rfl
theorem dead_no {s : List Int} {i : Int} (h : decide (i ∈ s) = true) : deadP s i = false := by unfold deadP; rw [h]; rfl
theorem filtN_all {p : Int → Bool} {n : Nat} {i : Int} (h : (n : Int) ≤ i) (h1 : i ≤ n) : filtN p i.toNat = filtN p n := by rw [show i.toNat = n by omega]
theorem filtN_lenI (p : Int → Bool) {i : Int} {n : Nat} (h : i ≤ n) : (filtN p i.toNat).length ≤ n := by have := filtN_len p i.toNat; omega
theorem seen_len (l : List Nd) (dp : Int) : (seenM l dp).length ≤ 2500 := Nat.le_trans (coll_len _ _ _) (solveR_all l dp).1
theorem dead_len (l : List Nd) (dp : Int) : (deadM l dp).length ≤ l.length := by
 unfold deadM; split
 · simp
 · exact filtN_len _ _
theorem deadM_no {l : List Nd} {dp : Int} (h : ((seenM l dp).length : Int) = 0) : deadM l dp = [] := by
 unfold deadM; rw [if_pos (List.length_eq_zero_iff.1 (by omega))]
theorem deadM_yes {l : List Nd} {dp : Int} (h : 0 < ((seenM l dp).length : Int)) : deadM l dp = filtN (deadP (seenM l dp)) l.length := by
 unfold deadM; rw [if_neg (fun e => by rw [e] at h; simp at h)]
theorem deadM_z {l : List Nd} {dp i : Int} (h : ((seenM l dp).length : Int) ≤ 0) (hi : i = 0) : filtN (deadP (seenM l dp)) i.toNat = deadM l dp := by
 subst hi; rw [deadM_no (by omega)]; rfl
theorem dead_fin {l : List Nd} {dp i : Int} (h0 : 0 ≤ i) (h1 : i ≤ l.length) (hp : 0 < i → 0 < ((seenM l dp).length : Int)) (h : l.length ≤ i ∨ ((seenM l dp).length : Int) ≤ 0) : filtN (deadP (seenM l dp)) i.toNat = deadM l dp := by
 by_cases hs : 0 < ((seenM l dp).length : Int)
 · rw [filtN_all (by omega) h1, deadM_yes hs]
 · exact deadM_z (by omega) (by omega)
theorem lams_mem {l : List Nd} {x : Int} (h : x ∈ lamsM l) : okM l = true ∧ 0 ≤ x ∧ x < l.length ∧ lamB (rN l x) = true := by
 unfold lamsM at h
 split at h
 · rename_i hk; obtain ⟨h1, h2, h3⟩ := filtN_mem h; exact ⟨hk, h1, h2, h3⟩
 · simp at h
theorem lams_len (l : List Nd) : (lamsM l).length ≤ l.length := by
 unfold lamsM; split
 · exact filtN_len _ _
 · simp
theorem lams_no {l : List Nd} (h : okM l = false) : lamsM l = [] := by unfold lamsM; rw [h]; rfl
theorem lams_yes {l : List Nd} (h : okM l = true) : lamsM l = filtN (fun i => lamB (rN l i)) l.length := by unfold lamsM; rw [h]; rfl
theorem lam_fin {l : List Nd} {i : Int} (h0 : 0 ≤ i) (h1 : i ≤ l.length) (hp : 0 < i → okM l = true) (h : l.length ≤ i ∨ okM l = false) : filtN (fun i => lamB (rN l i)) i.toNat = lamsM l := by
 cases hk : okM l with
 | true => rw [lams_yes hk, filtN_all (by rcases h with h | h; exact h; rw [hk] at h; cases h) h1]
 | false =>
   have : i = 0 := by
    rcases Int.lt_or_eq_of_le h0 with h2 | h2
    · have := hp h2; rw [hk] at this; cases this
    · exact h2.symm
   subst this
   rw [lams_no hk]; rfl
theorem dfun_at {l : List Nd} {i x : Int} (h0 : 0 ≤ i) (h1 : i < (lamsM l).length) (hx : rI (lamsM l) i = x) : 0 ≤ x ∧ x < l.length := by
 subst hx; have := lams_mem (rdG_mem (z := 0) h0 h1); exact ⟨this.2.1, this.2.2.1⟩
def dfP (l : List Nd) (dp f : Int) : Bool := decide ((rN l f).f1 ∈ deadM l dp)
theorem dfun_hit {l : List Nd} {dp f : Int} {nd : Nd} (h : rN l f = nd) (hm : nd.f1 ∈ deadM l dp) : dfP l dp f = true := by unfold dfP; rw [h]; exact decide_eq_true hm
theorem dfun_no {l : List Nd} {dp f : Int} {nd : Nd} (h : rN l f = nd) (hm : ¬ nd.f1 ∈ deadM l dp) : dfP l dp f = false := by unfold dfP; rw [h]; exact decide_eq_false hm
theorem dfun_all {l : List Nd} {dp i : Int} (h : (lamsM l).length ≤ i) : ((lamsM l).take i.toNat).filter (dfP l dp) = dfunsM l dp := by rw [take_allG h]; rfl
theorem filt_yes {p : Int → Bool} {l : List Int} {i x : Int} (h0 : 0 ≤ i) (h1 : i < l.length) (hx : rI l i = x) (hp : p x = true) : (l.take (i + 1).toNat).filter p = (l.take i.toNat).filter p ++ [x] := by
 rw [take_succG 0 h0 h1, List.filter_append, show rdG 0 l i = x from hx]; simp [hp]
theorem filt_no {p : Int → Bool} {l : List Int} {i x : Int} (h0 : 0 ≤ i) (h1 : i < l.length) (hx : rI l i = x) (hp : p x = false) : (l.take (i + 1).toNat).filter p = (l.take i.toNat).filter p := by
 rw [take_succG 0 h0 h1, List.filter_append, show rdG 0 l i = x from hx]; simp [hp]
theorem filt_len (p : Int → Bool) (l : List Int) (n : Nat) : ((l.take n).filter p).length ≤ l.length := Nat.le_trans (List.length_filter_le _ _) (List.length_take_le' _ _)
def rowI (k : Int) (n : Nat) : List Int := (List.range n).map fun j : Nat => k + (j : Int)
theorem rowI_len (k : Int) (n : Nat) : (rowI k n).length = n := by simp [rowI]
theorem rowI_at {k : Int} {n : Nat} {i : Int} (h0 : 0 ≤ i) (h1 : i < n) : rI (rowI k n) i = k + i := by
 have h2 : i.toNat < n := by omega
 simp only [rI, rdG, rowI, List.getD_eq_getElem?_getD, List.getElem?_map, List.getElem?_range h2, Option.map_some, Option.getD_some]
 omega
def rawN (l : List Nd) : Nat → List ByteArray
 | 0 => []
 | n + 1 => if freeB l n then rawN l n ++ [(rN l n).f5] else rawN l n
theorem len_rawN (l : List Nd) (n : Nat) : (rawN l n).length ≤ n ∧ (1 ≤ (rawN l n).length ↔ ∃ i, i < n ∧ freeB l i = true) := by
 induction n with
 | zero => exact ⟨Nat.le_refl _, by simp [rawN]⟩
 | succ n ih =>
   rw [rawN]
   split
   · rename_i h
     rw [List.length_append, List.length_singleton]
     exact ⟨by omega, fun _ => ⟨n, by omega, h⟩, fun _ => by omega⟩
   · rename_i h
     refine ⟨by omega, ih.2.trans ⟨fun ⟨i, h1, h2⟩ => ⟨i, by omega, h2⟩, fun ⟨i, h1, h2⟩ => ⟨i, ?_, h2⟩⟩⟩
     by_cases e : i = n
     · subst e; exact absurd h2 h
     · omega
theorem raw_len {l : List Nd} (hk : okM l = true) : (rawN l l.length).length = 0 ↔ (freeR l).length = 0 := by
 have h1 := (len_rawN l l.length).2
 have h2 := (len_freeN l l.length).2
 unfold freeR; rw [if_pos hk]
 have := h1.trans h2.symm
 omega
theorem rB_binds {l : List Nd} {i : Int} (h0 : 0 ≤ i) (h1 : i < l.length) : rB (bindsM l) i = bindS l i := by
 have h2 : i.toNat < l.length := by omega
 unfold rB rdG bindsM
 rw [List.getD_eq_getElem?_getD, List.getElem?_map, List.getElem?_range h2]
 simp only [Option.map_some, Option.getD_some, Int.toNat_of_nonneg h0]
theorem raw_yes {l : List Nd} {i : Int} {y : Nd} {b : Bd} (h0 : 0 ≤ i) (h1 : i < l.length) (hy : rN l i = y) (h2 : y.f0 = 1) (hb : rB (bindsM l) i = b) (h3 : b.f0 < 0) : rawN l (i + 1).toNat = rawN l i.toNat ++ [y.f5] := by
 rw [rB_binds h0 h1] at hb
 rw [show (i + 1).toNat = i.toNat + 1 by omega, rawN, Int.toNat_of_nonneg h0, if_pos (by unfold freeB; rw [hy, hb, decide_eq_true h2, decide_eq_true h3]; rfl), hy]
theorem raw_no1 {l : List Nd} {i : Int} {y : Nd} (h0 : 0 ≤ i) (hy : rN l i = y) (h2 : ¬ y.f0 = 1) : rawN l (i + 1).toNat = rawN l i.toNat := by
 rw [show (i + 1).toNat = i.toNat + 1 by omega, rawN, Int.toNat_of_nonneg h0, if_neg (by unfold freeB; rw [hy, decide_eq_false h2]; exact Bool.false_ne_true)]
theorem raw_no2 {l : List Nd} {i : Int} {b : Bd} (h0 : 0 ≤ i) (h1 : i < l.length) (hb : rB (bindsM l) i = b) (h3 : ¬ b.f0 < 0) : rawN l (i + 1).toNat = rawN l i.toNat := by
 rw [rB_binds h0 h1] at hb
 rw [show (i + 1).toNat = i.toNat + 1 by omega, rawN, Int.toNat_of_nonneg h0, if_neg (by unfold freeB; rw [hb, decide_eq_false h3, Bool.and_false]; exact Bool.false_ne_true)]
def dedN (l : List ByteArray) : Nat → List ByteArray
 | 0 => []
 | n + 1 => if n = 0 ∨ ¬ (rS l ((n : Int) - 1)).toList = (rS l n).toList then dedN l n ++ [rS l n] else dedN l n
theorem len_dedN (l : List ByteArray) (n : Nat) : (dedN l n).length ≤ n ∧ (1 ≤ n → 1 ≤ (dedN l n).length) := by
 induction n with
 | zero => exact ⟨Nat.le_refl _, fun h => by omega⟩
 | succ n ih =>
   rw [dedN]
   split
   · rw [List.length_append, List.length_singleton]; exact ⟨by omega, fun _ => by omega⟩
   · rename_i h
     refine ⟨by omega, fun _ => ih.2 ?_⟩
     refine Decidable.byContradiction fun h0 => h (.inl (by omega))
theorem ded_first {l : List ByteArray} {i : Int} {y : ByteArray} (h : i = 0) (hy : rS l i = y) : dedN l (i + 1).toNat = dedN l i.toNat ++ [y] := by
 subst h; subst hy; show dedN l 1 = _; rw [dedN, if_pos (.inl rfl)]; rfl
theorem ded_new {l : List ByteArray} {i : Int} {x y : ByteArray} (h0 : 0 ≤ i) (hy : rS l i = y) (hx : rS l (i - 1) = x) (h : ¬ x.toList = y.toList) : dedN l (i + 1).toNat = dedN l i.toNat ++ [y] := by
 rw [show (i + 1).toNat = i.toNat + 1 by omega, dedN, Int.toNat_of_nonneg h0, if_pos (.inr (by rw [hx, hy]; exact h)), hy]
theorem ded_old {l : List ByteArray} {i : Int} {x y : ByteArray} (h0 : 0 ≤ i) (hi : ¬ i = 0) (hy : rS l i = y) (hx : rS l (i - 1) = x) (h : x.toList = y.toList) : dedN l (i + 1).toNat = dedN l i.toNat := by
 rw [show (i + 1).toNat = i.toNat + 1 by omega, dedN, Int.toNat_of_nonneg h0, if_neg]
 rintro (h1 | h1)
 · omega
 · rw [hx, hy] at h1; exact h1 h
theorem ded_len {l : List ByteArray} : (dedN l l.length).length = 0 ↔ l.length = 0 := by
 have := len_dedN l l.length
 omega
def markO (l : List Int) (k i : Int) : List Int := rowI k i.toNat ++ l.drop i.toNat
theorem markO_len {l : List Int} {k i : Int} (h0 : 0 ≤ i) (h1 : i ≤ l.length) : (markO l k i).length = l.length := by
 unfold markO; rw [List.length_append, rowI_len, List.length_drop]; omega
theorem rowI_succ (k : Int) (n : Nat) : rowI k (n + 1) = rowI k n ++ [k + (n : Int)] := by simp [rowI, List.range_succ]
theorem markO_set {l : List Int} {k i x : Int} (h0 : 0 ≤ i) (h1 : i < l.length) (hx : x = k + i) : (eK .i64 (markO l k i)).set i.toNat [.int .i64 x] = eK .i64 (markO l k (i + 1)) := by
 subst hx
 have h2 : i.toNat < l.length := by omega
 have h3 : eK .i64 (markO l k i) = eK .i64 (rowI k i.toNat) ++ eK .i64 (l.drop i.toNat) := by simp [markO, eK]
 rw [h3, List.set_append, if_neg (by simp [eK, rowI_len]), List.drop_eq_getElem_cons h2]
 have h4 : (eK .i64 (rowI k i.toNat)).length = i.toNat := by simp [eK, rowI_len]
 rw [h4, Nat.sub_self]
 simp only [markO, show (i + 1).toNat = i.toNat + 1 by omega, rowI_succ, Int.toNat_of_nonneg h0]
 have h5 : ∀ (x : Int) (t : List Int), (eK .i64 (x :: t)).set 0 [.int .i64 (k + i)] = [.int .i64 (k + i)] :: eK .i64 t := fun _ _ => rfl
 have h6 : ∀ (a c : List Int) (b : Int), eK .i64 (a ++ [b] ++ c) = eK .i64 a ++ ([.int .i64 b] :: eK .i64 c) := fun a c b => by simp [eK]
 rw [h5, h6]
theorem markO_end {l : List Int} {k i : Int} (h : l.length ≤ i) (h1 : i ≤ l.length) : markO l k i = rowI k l.length := by
 unfold markO; rw [List.drop_of_length_le (by omega), List.append_nil, show i.toNat = l.length by omega]
theorem markO_zero (l : List Int) (k : Int) : markO l k 0 = l := by simp [markO, rowI]
theorem setNd {mm : List Nd} {i : Nat} {a b c d e : Int} {f g : ByteArray} : (eNd mm).set i [.int .i64 a, .int .i64 b, .int .i64 c, .int .i64 d, .int .i64 e, .str f, .str g] = eNd (mm.set i ⟨a, b, c, d, e, f, g⟩) := by
 simp [eNd, List.map_set]; rfl
theorem Den.fetchS {E : Env} {Q : X → S → Prop} {o : Std} (ho : o = std) {B : Box} {i : Int} {cs : List D} {k : List D → T} (h0 : 0 ≤ i) (h1 : i < o.len B) (h : Den E (k cs) Q) : Den E (.fetch (o.setAt B i cs) i k) Q := by
 subst ho
 refine Den.fetch h0 ?_ h
 have h1' : i < (B.length : Int) := h1
 show (B.set i.toNat cs)[i.toNat]? = some cs
 rw [List.getElem?_set_self (by omega)]
theorem len_setAt {B : Box} {i : Int} {cs : List D} : std.len (std.setAt B i cs) = std.len B := by simp [std]
theorem size_ofB1 (x : Int) : (ofBytes [[D.int .u8 x]]).size = 1 := by simp [ofBytes, byteN]
theorem mt_ok {o : Std} (ho : o = std) {x : Int} {b : ByteArray} {n : Int} (h : (b.size : Int) ≤ n) (hn : n ≤ 100000000) : o.catOk (o.ofB [[D.int .u8 x]]) b = true := by
 subst ho
 show decide ((ofBytes [[D.int .u8 x]]).size + b.size ≤ 2 ^ 62) = true
 rw [size_ofB1]; exact decide_eq_true (by omega)
theorem mt_ok1 {o : Std} (ho : o = std) {b : ByteArray} {n : Int} (h : (b.size : Int) ≤ n) (hn : n ≤ 100000000) : o.catOk ⟨⟨[109]⟩⟩ b = true := by
 subst ho
 show decide ((⟨⟨[109]⟩⟩ : ByteArray).size + b.size ≤ 2 ^ 62) = true
 have : (⟨⟨[109]⟩⟩ : ByteArray).size = 1 := rfl
 rw [this]; exact decide_eq_true (by omega)
theorem mt_step {x a k : Int} {b : ByteArray} (h0 : 0 < a) (hk : (b.size : Int) + a ≤ k) (hn : k ≤ 100000000) : 0 ≤ std.quo .i64 a 10 ∧ ((std.cat (std.ofB [[D.int .u8 x]]) b).size : Int) + std.quo .i64 a 10 ≤ k ∧ (std.quo .i64 a 10).toNat < a.toNat := by
 have e0 : a.tdiv 10 = a / 10 := tdivN (by omega)
 have e : std.quo .i64 a 10 = a / 10 := by
  show IntKind.wrap .i64 (a.tdiv 10) = _
  rw [e0]; exact wI (by omega) (by omega)
 have e2 : (std.cat (std.ofB [[D.int .u8 x]]) b).size = 1 + b.size := by
  show (ofBytes [[D.int .u8 x]] ++ b).size = _
  rw [ByteArray.size_append, size_ofB1]
 rw [e, e2]
 omega
theorem ans_calls {P : Program} {E : Env} (hE : EnvOk P E) {f : FuncId} {as_ : List D} {d : D} (h : Ans E f as_ d) {W : World} {vs : Array Value} {σ : Nat → Nat} (hl : vs.size = as_.length)
  (hr : ∀ i, i < as_.length → ArgR σ W (as_.getD i .junk) (vs.getD i undef)) (hbig : ∀ b, W.heap.size ≤ b → σ b = 0) :
  Calls P f vs W fun e w' => ∃ v σ', e = .returned v ∧ RD σ' w' d v ∧ NwD W.heap.size σ' w' d v ∧ (Below W.heap.size W w' ∧ W.drawn ≤ w'.drawn) ∧ (∀ b, b < W.heap.size → σ' b = σ b) ∧ ∀ b, w'.heap.size ≤ b → σ' b = 0 := by
 obtain ⟨fi, hf, hn, n, x, s, hrun, hx, hd⟩ := h
 refine (pcall_calls (G := ⟨[], [], σ⟩) hE (sound hE n) hf hn hx hrun (run_done n) hd hl (fun i hi => .inl (hr i hi)) (Nat.le_refl _) hbig).mono ?_
 rintro e w' ⟨v, G', h1, h2, ⟨_, h3⟩, hfr, h4⟩
 exact ⟨v, G'.ice, h1, h2, h3, ⟨⟨hfr.os, hfr.tape, hfr.output.1, hfr.size, fun b hb => hfr.same b hb (fun p hp => by cases hp) (fun hh => by cases hh)⟩, hfr.output.2⟩, fun b hb => hfr.ice b hb (fun hh => by cases hh), h4⟩
def takeC : Nat → Code → Code
 | 0, .seq a _ => a
 | n + 1, .seq a b => .seq a (takeC n b)
 | _, _ => .exit 0
def dropC : Nat → Code → Code
 | 0, .seq _ b => b
 | n + 1, .seq _ b => dropC n b
 | _, _ => .skip
def AnsI (E : Env) (fi : FnI) (x0 : X) (out : S → Option D) (as_ : List D) (P : D → List Nat → Prop) : Prop :=
 Nat.ble as_.length fi.ntmps = true ∧ Den E (tree E fi.keep fi.body (enterS fi as_ [] []) .done) fun x s => x = x0 ∧ ∃ d, out s = some d ∧ P d s.tk
section
variable {P : Program} {E : Env} {F : Fx} {G : Gh} {s : S} {a : Act} {w : World} {o : Std}
theorem AnsI.mkA (ho : o = std) {fi : FnI} {x0 : X} {out : S → Option D} {xs : List D} {P : D → List Nat → Prop} (hn : Nat.ble xs.length fi.ntmps = true)
  (h : Den E (treeA o E fi.keep fi.body (enterS fi xs [] []) .done) fun x s => x = x0 ∧ ∃ d, out s = some d ∧ P d s.tk) : AnsI E fi x0 out xs P :=
 ⟨hn, by subst ho; rwa [treeA_std] at h⟩
theorem wp_take (hE : EnvOk P E) {m : Nat} {Q : Exit → Act → World → Prop} {kp : Nat → List Nat} {s1 : S} : ∀ (n : Nat) (c : Code) (s : S) (F : Fx) (G : Gh) (a : Act) (w : World),
  run E m (tree E kp (takeC n c) s .done) = some (.normal, s1) → Sim F G s a w → (∀ G' a' w', Sim F G' s1 a' w' → (dropC n c).wp P Q a' w') → c.wp P Q a w
 | n, c, s, F, G, a, w, h, hs, hk => by
   induction n generalizing c s F G a w with
   | zero =>
     cases c
     case seq x y =>
      refine wp_seq (wp_mono (sound hE m x kp s .done _ F G a w h hs) ?_)
      rintro e a' w' ⟨x0, hm, G', s', hs', hsim'⟩
      have hs'' := run_done _ _ _ _ hs'
      injection hs'' with q1 q2
      subst q1 q2
      cases e <;> first | exact hm.elim | exact hk _ _ _ hsim'
     all_goals
      have := run_done _ _ _ _ h
      injection this with q1 q2
      cases q1
   | succ n ih =>
     cases c
     case seq x y =>
      refine wp_seq (wp_mono (sound hE m x kp s _ _ F G a w h hs) ?_)
      rintro e a' w' ⟨x0, hm, G', s', hs', hsim'⟩
      cases x0
      case normal => cases e <;> first | exact hm.elim | exact ih y s' F G' a' w' hs' hsim' hk
      all_goals
       have hs'' := run_done _ _ _ _ hs'
       injection hs'' with q1 q2
       cases q1
     all_goals
      have := run_done _ _ _ _ h
      injection this with q1 q2
      cases q1
theorem calls_pre (hE : EnvOk P E) {f : FuncId} {fn : Func} {c : Code} {n : Nat} {fi : FnI} {out : S → Option D} {as_ : List D} {PP : D → List Nat → Prop} (h : AnsI E fi .normal out as_ PP) (hb : fi.body = takeC n c) (hf : P.funcs[f]? = some fn) (hbody : fn.body = some c) (hnt : fn.ntmps = fi.ntmps)
  {σ : Nat → Nat} {vs : Array Value} (hl : vs.size = as_.length) (hr : ∀ i, i < as_.length → ArgR σ w (as_.getD i .junk) (vs.getD i undef)) (hbig : ∀ b, w.heap.size ≤ b → σ b = 0) {R : Ending → World → Prop}
  (hk : ∀ d s1 G' a' w', out s1 = some d → PP d s1.tk → Sim ⟨w, [], [], [], σ, fun _ => 0, w.heap.size⟩ G' s1 a' w' → (dropC n c).wp P (bodyPost P fn R) a' w') : Calls P f vs w R := by
 obtain ⟨hn, hd⟩ := h
 obtain ⟨m, x, s1, hrun, rfl, d, ho, hp⟩ := hd
 have hsim := sim_enter (lm := w.heap.size) (fi := fi) (G := ⟨[], [], σ⟩) hl (fun i hi => .inl (hr i hi)) (Nat.le_of_ble_eq_true hn) hbig
 refine calls_of_wp hf hbody ?_
 rw [hnt]
 rw [hb] at hrun
 exact wp_take hE n c _ _ _ _ _ hrun hsim fun G' a' w' h => hk d s1 G' a' w' ho hp h
theorem sim_at {fi : FnI} {as_ : List D} {σ : Nat → Nat} (hd : a.defers = []) (hsz : a.tmps.size = fi.ntmps) (hr : ∀ i, i < as_.length → as_.getD i .junk = .junk ∨ ArgR σ w (as_.getD i .junk) (a.tmps.getD i undef)) (hn : as_.length ≤ fi.ntmps) (hbig : ∀ b, w.heap.size ≤ b → σ b = 0) :
  Sim ⟨w, [], [], [], σ, fun _ => 0, w.heap.size⟩ ⟨[], [], σ⟩ (enterS fi as_ [] []) a w := by
 refine ⟨⟨rfl, rfl, fun i es p h => by simp [enterS] at h, fun i es p h => by simp [enterS] at h, by simp [blocks], fun b hb => by simp [blocks] at hb, fun p hp => by simp at hp, rfl, fun i b _ h => by simp at h, fun i b _ h => by simp at h, fun p hp => by simp at hp, hbig,
  ⟨rfl, rfl, ⟨rfl, Nat.le_refl _⟩, Nat.le_refl _, fun _ _ _ _ => rfl, Ext.refl _ _ _, fun _ _ _ => rfl⟩⟩, ⟨by simp [enterS, hsz]; omega, fun i hi => ?_⟩, hd⟩
 by_cases hia : i < as_.length
 · have h1 : (as_ ++ List.replicate (fi.ntmps - as_.length) D.junk).getD i .junk = as_.getD i .junk := by
     simp only [List.getD_eq_getElem?_getD]; rw [List.getElem?_append_left hia]
   simp only [enterS]
   rw [h1]
   rcases hr i hia with h | h
   · rw [h]; exact .junk _
   · exact ArgR.rep (G := ⟨[], [], σ⟩) h
 · have h1 : (as_ ++ List.replicate (fi.ntmps - as_.length) D.junk).getD i .junk = .junk := by
     simp only [List.getD_eq_getElem?_getD]; rw [List.getElem?_append_right (by omega)]
     simp only [List.getElem?_replicate]; split <;> rfl
   simp only [enterS]; rw [h1]; exact .junk _
theorem wp_rest (hE : EnvOk P E) {fn : Func} {fi : FnI} {as_ : List D} {d0 : D → List Nat → Prop} {x0 : X} (hx : x0 = .normal ∨ x0 = .ret) (h : AnsI E fi x0 (fun s => outD E fi.nw s fi.res) as_ d0) (hres : fn.results = fi.res.toArray) {σ : Nat → Nat}
  (hd : a.defers = []) (hsz : a.tmps.size = fi.ntmps) (hr : ∀ i, i < as_.length → as_.getD i .junk = .junk ∨ ArgR σ w (as_.getD i .junk) (a.tmps.getD i undef)) (hbig : ∀ b, w.heap.size ≤ b → σ b = 0) {R : Ending → World → Prop}
  (hk : ∀ v d tk σ' w', d0 d tk → RD σ' w' d v → NwD w.heap.size σ' w' d v → Below w.heap.size w w' → w.drawn ≤ w'.drawn → (∀ b, b < w.heap.size → σ' b = σ b) → (∀ b, w'.heap.size ≤ b → σ' b = 0) → R (.returned v) w') : fi.body.wp P (bodyPost P fn R) a w := by
 obtain ⟨hn, hden⟩ := h
 obtain ⟨m, x, s1, hrun, rfl, d, hout, hp⟩ := hden
 have hsim := sim_at (fi := fi) (as_ := as_) (σ := σ) hd hsz hr (Nat.le_of_ble_eq_true hn) hbig
 refine wp_mono (sound hE m fi.body fi.keep _ _ _ _ _ _ w hrun hsim) ?_
 rintro e a' w' ⟨x', hm, G', s', hs', hsim'⟩
 have hs'' := run_done _ _ _ _ hs'
 injection hs'' with q1 q2
 subst q1 q2
 obtain ⟨vs', e1, hrd, hfin, hnw⟩ := out_calls hE hsim' hres hout
 obtain ⟨_, hz2, hz3⟩ := hsim'.freeze
 have hlim : (⟨w, [], [], [], σ, fun _ => 0, w.heap.size⟩ : Fx).lim = w.heap.size := Nat.min_self _
 rw [hlim] at hnw
 have hfr := hz2 rfl
 have hpost : R (.returned (if h : vs'.toArray.size = 1 then vs'.toArray[0] else .tuple vs'.toArray)) w' :=
  hk _ d s1.tk G'.freeze.ice w' hp hrd hnw ⟨hfr.os, hfr.tape, hfr.output.1, hfr.size, fun b hb => hfr.same b hb (fun p hp => by cases hp) (fun hh => by cases hh)⟩ hfr.output.2 (fun b hb => hfr.ice b hb (fun hh => by cases hh)) hz3
 rcases hx with rfl | rfl <;> cases e <;> first | exact hm.elim | exact ⟨hsim'.def0, _, e1, hpost⟩
end
section
def valD : D → Value
 | .int k n => .int k n
 | .bool b => .bool b
 | .str s => .string s
 | _ => undef
def D.flt : D → Bool
 | .int .. | .bool _ | .str _ => true
 | _ => false
def Flt (z : Nat) (es : Box) : Prop := 0 < z ∧ ∀ e ∈ es, e.length = z ∧ ∀ c ∈ e, D.flt c = true
theorem flt_rd {σ w d v} (hd : D.flt d = true) (h : RD σ w d v) : v = valD d := by
 cases d <;> first | (simp [D.flt] at hd; done) | (cases h; rfl)
theorem flt_mk {σ w d} (hd : D.flt d = true) : RD σ w d (valD d) := by
 cases d <;> first | (simp [D.flt] at hd; done) | exact .int _ _ | exact .bool _ | exact .str _
theorem flt_cell {d} (hd : D.flt d = true) : D.cell d = true := by
 cases d <;> first | (simp [D.flt] at hd; done) | rfl
inductive Row (lo hi : Nat) (w : World) (z : Nat) (es : Box) : Value → Prop
 | nil0 (h : es = []) : Row lo hi w z es (.slice none 0 0)
 | empty (b o c : Nat) (h : es = []) : Row lo hi w z es (.slice (some ⟨b, o, none⟩) 0 c)
 | row (b o c : Nat) (h : es ≠ []) (h1 : lo ≤ b) (h2 : b < hi) (hc : es.length ≤ c) (hw : ∀ i j, i < es.length → j < z → w.cell? ⟨b, o + i * z + j, none⟩ = some (valD ((es.getD i []).getD j .junk))) : Row lo hi w z es (.slice (some ⟨b, o, none⟩) es.length c)
def Unf (w : World) (z : Nat) (es : Box) (v : Value) : Prop := ∀ b o l c, v = .slice (some ⟨b, o, none⟩) l c → ∀ j, j < es.length * z → w.frozen? ⟨b, o + j, none⟩ = false
variable {lo hi : Nat} {w w' : World} {z : Nat} {es : Box} {v : Value} {σ : Nat → Nat}
theorem Row.keep (h : Row lo hi w z es v) (hs : ∀ b, lo ≤ b → b < hi → w'.heap[b]? = w.heap[b]?) : Row lo hi w' z es v := by
 cases h with
 | nil0 h => exact .nil0 h
 | empty b o c h => exact .empty b o c h
 | row b o c h h1 h2 hc hw => exact .row b o c h h1 h2 hc fun i j hi hj => (World.cell?_of_block (a := ⟨b, _, none⟩) (hs b h1 h2)).trans (hw i j hi hj)
theorem Row.wide {lo' hi' : Nat} (h : Row lo hi w z es v) (hl : lo' ≤ lo) (hh : hi ≤ hi') : Row lo' hi' w z es v := by
 cases h with
 | nil0 h => exact .nil0 h
 | empty b o c h => exact .empty b o c h
 | row b o c h h1 h2 hc hw => exact .row b o c h (by omega) (by omega) hc hw
theorem Row.rd (h : Row lo hi w z es v) (hf : Flt z es) : ∃ σ, RD σ w (.sl .ro z es) v ∧ ∀ b, hi ≤ b → σ b = 0 := by
 cases h with
 | nil0 h => subst h; exact ⟨fun _ => 0, .slN _ _, fun _ _ => rfl⟩
 | empty b o c h => subst h; exact ⟨fun _ => 0, .sl .ro z [] b o c (fun _ _ => undef) (by simp) hf.1 (by simp) (by simp) (Nat.zero_le _) (fun h => absurd rfl h) (fun i j hi => by simp at hi) (fun i j hi => by simp at hi), fun _ _ => rfl⟩
 | row b o c h h1 h2 hc hw =>
   refine ⟨fun k => if k = b then o + es.length * z else 0, .sl .ro z es b o c (fun i j => valD ((es.getD i []).getD j .junk)) (by simp) hf.1 (fun e he => (hf.2 e he).1) (fun e he c hc => flt_cell ((hf.2 e he).2 c hc)) hc (fun _ => ?_) hw (fun i j hi hj => ?_), fun k hk => by show (if _ then _ else _) = _; rw [if_neg (by omega)]⟩
   · show _ ≤ (if b = b then _ else _); rw [if_pos rfl]; exact Nat.le_refl _
   · refine flt_mk ?_
     have hm : es.getD i [] ∈ es := by rw [List.getD_eq_getElem?_getD, List.getElem?_eq_getElem hi]; exact List.getElem_mem hi
     exact (hf.2 _ hm).2 _ (mem_getD (by rw [(hf.2 _ hm).1]; exact hj))
theorem Row.of_rd {t : Tok} (h : RD σ w (.sl t z es) v) (hf : Flt z es) (hbig : ∀ b, hi ≤ b → σ b = 0) (hlo : ∀ b o l c, v = .slice (some ⟨b, o, none⟩) l c → lo ≤ b) : Row lo hi w z es v := by
 cases h with
 | slN => exact .nil0 rfl
 | sl _ _ _ b o c f ht hz hl hc hcap hs hw h =>
   by_cases he : es = []
   · subst he; exact .empty b o c rfl
   · have h1 := hs he
     have h2 : 0 < es.length := List.length_pos_iff.2 he
     have h3 : 0 < es.length * z := Nat.mul_pos h2 hf.1
     refine .row b o c he (hlo b o _ c rfl) (Nat.lt_of_not_le fun hb => by rw [hbig b hb] at h1; omega) hcap fun i j hi hj => ?_
     rw [hw i j hi hj]
     have hm : es.getD i [] ∈ es := by rw [List.getD_eq_getElem?_getD, List.getElem?_eq_getElem hi]; exact List.getElem_mem hi
     rw [flt_rd ((hf.2 _ hm).2 _ (mem_getD (by rw [(hf.2 _ hm).1]; exact hj))) (h i j hi hj)]
theorem Row.shape (h : Row lo hi w z es v) : ∃ a c, v = .slice a es.length c := by
 cases h with
 | nil0 h => subst h; exact ⟨_, _, rfl⟩
 | empty b o c h => subst h; exact ⟨_, _, rfl⟩
 | row b o c => exact ⟨_, _, rfl⟩
def Stay (w w' : World) : Prop := Below w.heap.size w w' ∧ w.drawn ≤ w'.drawn
theorem Stay.refl (w : World) : Stay w w := ⟨Below.refl _ _, Nat.le_refl _⟩
theorem Stay.trans {w1 w2 w3 : World} (h : Stay w1 w2) (k : Stay w2 w3) : Stay w1 w3 := ⟨h.1.trans (k.1.mono h.1.size), Nat.le_trans h.2 k.2⟩
theorem Row.stay (h : Row lo hi w z es v) (hh : hi ≤ w.heap.size) (hs : Stay w w') : Row lo hi w' z es v := h.keep fun b _ hb => hs.1.block b (by omega)
theorem Unf.stay (h : Unf w z es v) (hr : Row lo hi w z es v) (hh : hi ≤ w.heap.size) (hs : Stay w w') : Unf w' z es v := by
 intro b o l c hv j hj
 have h0 := h b o l c hv j hj
 cases hr with
 | nil0 h => cases hv
 | empty b' o' c' he => subst he; simp at hj
 | row b' o' c' he h1 h2 =>
   injection hv with hv _ _
   injection hv with hv
   injection hv with q1 q2 _
   subst q1
   rw [World.frozen?_of_block (a := ⟨b', _, none⟩) (hs.1.block b' (by omega))]
   exact h0
theorem common {n : Nat} {B : Nat} {p : Nat → (Nat → Nat) → Prop} (hm : ∀ i σ σ', (∀ b, σ b ≤ σ' b) → p i σ → p i σ') : (∀ i, i < n → ∃ σ : Nat → Nat, p i σ ∧ ∀ b, B ≤ b → σ b = 0) → ∃ σ : Nat → Nat, (∀ i, i < n → p i σ) ∧ ∀ b, B ≤ b → σ b = 0 := by
 induction n with
 | zero => exact fun _ => ⟨fun _ => 0, fun i hi => by omega, fun _ _ => rfl⟩
 | succ n ih =>
   intro h
   obtain ⟨σ1, h1, z1⟩ := ih fun i hi => h i (by omega)
   obtain ⟨σ2, h2, z2⟩ := h n (by omega)
   refine ⟨fun b => max (σ1 b) (σ2 b), fun i hi => ?_, fun b hb => by show max (σ1 b) (σ2 b) = 0; rw [z1 b hb, z2 b hb]; rfl⟩
   by_cases he : i < n
   · exact hm i σ1 _ (fun b => Nat.le_max_left _ _) (h1 i he)
   · have : i = n := by omega
     subst this
     exact hm i σ2 _ (fun b => Nat.le_max_right _ _) h2
def Arg (w : World) (d : D) (v : Value) : Prop := d.free = true ∧ ∃ σ, RD σ w d v ∧ ∀ b, w.heap.size ≤ b → σ b = 0
theorem Arg.int {k n} : Arg w (.int k n) (.int k n) := ⟨rfl, fun _ => 0, .int _ _, fun _ _ => rfl⟩
theorem Arg.row (h : Row lo hi w z es v) (hh : hi ≤ w.heap.size) (hf : Flt z es) : Arg w (.sl .ro z es) v := by
 obtain ⟨σ, h1, h2⟩ := h.rd hf
 exact ⟨rfl, σ, h1, fun b hb => h2 b (by omega)⟩
theorem data_calls {P : Program} {E : Env} (hE : EnvOk P E) {f : FuncId} {as_ : List D} {d : D} (h : Ans E f as_ d) {vs : Array Value} (hl : vs.size = as_.length) (hr : ∀ i, i < as_.length → Arg w (as_.getD i .junk) (vs.getD i undef)) :
  Calls P f vs w fun e w' => ∃ v σ', e = .returned v ∧ RD σ' w' d v ∧ NwD w.heap.size σ' w' d v ∧ Stay w w' ∧ ∀ b, w'.heap.size ≤ b → σ' b = 0 := by
 obtain ⟨σ, h1, h2⟩ := common (n := as_.length) (B := w.heap.size) (p := fun i σ => RD σ w (as_.getD i .junk) (vs.getD i undef)) (fun i σ σ' hs hr => hr.mono hs fun _ _ _ => rfl) (fun i hi => (hr i hi).2)
 refine (ans_calls hE h hl (fun i hi => .inl ⟨(hr i hi).1, h1 i hi⟩) h2).mono ?_
 rintro e w' ⟨v, σ', rfl, a, b, c, _, d⟩
 exact ⟨v, σ', rfl, a, b, c, d⟩
theorem new_calls {P : Program} {E : Env} (hE : EnvOk P E) {f : FuncId} {as_ : List D} (h : Ans E f as_ (.sl .nw z es)) (hf : Flt z es) {vs : Array Value} (hl : vs.size = as_.length) (hr : ∀ i, i < as_.length → Arg w (as_.getD i .junk) (vs.getD i undef)) :
  Calls P f vs w fun e w' => ∃ v, e = .returned v ∧ Row w.heap.size w'.heap.size w' z es v ∧ Unf w' z es v ∧ Stay w w' := by
 refine (data_calls hE h hl hr).mono ?_
 rintro e w' ⟨v, σ', rfl, h1, h2, h3, h4⟩
 exact ⟨v, rfl, .of_rd h1 hf h4 (fun b o l c hv => (h2 b o l c hv).1), fun b o l c hv j hj => ((h2 b o l c hv).2 j hj).2, h3⟩
theorem row_calls {P : Program} {E : Env} (hE : EnvOk P E) {f : FuncId} {as_ : List D} {t : Tok} (h : Ans E f as_ (.sl t z es)) (hf : Flt z es) {vs : Array Value} (hl : vs.size = as_.length) (hr : ∀ i, i < as_.length → Arg w (as_.getD i .junk) (vs.getD i undef)) :
  Calls P f vs w fun e w' => ∃ v, e = .returned v ∧ Row 0 w'.heap.size w' z es v ∧ Stay w w' := by
 refine (data_calls hE h hl hr).mono ?_
 rintro e w' ⟨v, σ', rfl, h1, _, h3, h4⟩
 exact ⟨v, rfl, .of_rd h1 hf h4 (fun _ _ _ _ _ => Nat.zero_le _), h3⟩
theorem int_calls {P : Program} {E : Env} (hE : EnvOk P E) {f : FuncId} {as_ : List D} {k n} (h : Ans E f as_ (.int k n)) {vs : Array Value} (hl : vs.size = as_.length) (hr : ∀ i, i < as_.length → Arg w (as_.getD i .junk) (vs.getD i undef)) :
  Calls P f vs w fun e w' => e = .returned (.int k n) ∧ Stay w w' := by
 refine (data_calls hE h hl hr).mono ?_
 rintro e w' ⟨v, σ', rfl, h1, _, h3, _⟩
 cases h1; exact ⟨rfl, h3⟩
theorem bool_calls {P : Program} {E : Env} (hE : EnvOk P E) {f : FuncId} {as_ : List D} {b} (h : Ans E f as_ (.bool b)) {vs : Array Value} (hl : vs.size = as_.length) (hr : ∀ i, i < as_.length → Arg w (as_.getD i .junk) (vs.getD i undef)) :
  Calls P f vs w fun e w' => e = .returned (.bool b) ∧ Stay w w' := by
 refine (data_calls hE h hl hr).mono ?_
 rintro e w' ⟨v, σ', rfl, h1, _, h3, _⟩
 cases h1; exact ⟨rfl, h3⟩
def Mark (lo hi : Nat) (w w' : World) : Prop := w'.os = w.os ∧ w'.tape = w.tape ∧ (w'.output = w.output ∧ w.drawn ≤ w'.drawn) ∧ w.heap.size ≤ w'.heap.size ∧ ∀ b, b < w.heap.size → (b < lo ∨ hi ≤ b) → w'.heap[b]? = w.heap[b]?
theorem Row.mark {a b : Nat} (h : Row lo hi w z es v) (hh : hi ≤ w.heap.size) (hs : Mark a b w w') (hd : hi ≤ a ∨ b ≤ lo) : Row lo hi w' z es v := h.keep fun k h1 h2 => hs.2.2.2.2 k (by omega) (by omega)
theorem Unf.mark {a b : Nat} (h : Unf w z es v) (hr : Row lo hi w z es v) (hh : hi ≤ w.heap.size) (hs : Mark a b w w') (hd : hi ≤ a ∨ b ≤ lo) : Unf w' z es v := by
 intro b' o l c hv j hj
 have h0 := h b' o l c hv j hj
 cases hr with
 | nil0 h => cases hv
 | empty b1 o' c' he => subst he; simp at hj
 | row b1 o' c' he h1 h2 =>
   injection hv with hv _ _
   injection hv with hv
   injection hv with q1 q2 _
   subst q1
   rw [World.frozen?_of_block (a := ⟨b1, _, none⟩) (hs.2.2.2.2 b1 (by omega) (by omega))]
   exact h0
theorem Mark.below {B a b : Nat} (hs : Mark a b w w') (hB : B ≤ a) (hw : B ≤ w.heap.size) : Below B w w' := ⟨hs.1, hs.2.1, hs.2.2.1.1, hs.2.2.2.1, fun k hk => hs.2.2.2.2 k (by omega) (.inl (by omega))⟩
theorem mark_calls {P : Program} {E : Env} (hE : EnvOk P E) {f : FuncId} {k : Int} {kr : Int} {R : Box → Prop} (h0 : Ans E f [.sl .ro z [], .int .i64 k] (.int .i64 k)) (hk0 : es = [] → kr = k ∧ R [])
  (h : es ≠ [] → Gns E f [.asl (.out 0) z es.length, .int .i64 k] [es] [] fun ds out tk loc => ds = [.int .i64 kr] ∧ ∃ bx, out = [bx] ∧ R bx) (hf : Flt z es) (hRf : ∀ bx, R bx → Flt z bx ∧ bx.length = es.length)
  (hrow : Row lo hi w z es v) (hun : Unf w z es v) (hh : hi ≤ w.heap.size) :
  Calls P f #[v, .int .i64 k] w fun e w' => ∃ bx, R bx ∧ e = .returned (.int .i64 kr) ∧ Row lo hi w' z bx v ∧ Mark lo hi w w' := by
 have hnil : es = [] → Calls P f #[v, .int .i64 k] w fun e w' => ∃ bx, R bx ∧ e = .returned (.int .i64 kr) ∧ Row lo hi w' z bx v ∧ Mark lo hi w w' := fun he => by
  obtain ⟨rfl, hR⟩ := hk0 he
  refine (int_calls hE h0 (vs := #[v, .int .i64 kr]) rfl ?_).mono ?_
  · intro i hi'
    match i, hi' with
    | 0, _ => subst he; exact .row hrow hh hf
    | 1, _ => exact .int
  · rintro e w' ⟨rfl, hs⟩
    refine ⟨[], hR, rfl, ?_, hs.1.os, hs.1.tape, ⟨hs.1.output, hs.2⟩, hs.1.size, fun b hb _ => hs.1.block b hb⟩
    subst he; exact hrow.stay hh hs
 cases hrow with
 | nil0 he => exact hnil he
 | empty b o c he => exact hnil he
 | row b o c he h1 h2 hc hw =>
   obtain ⟨fi, hfi, hn, hden⟩ := h he
   obtain ⟨n, x, s1, hrun, hx, ds, hds, rfl, bx, hout, hR⟩ := hden
   have hsz : b < w.heap.size := by omega
   let F : Fx := ⟨w, [⟨b, o, z, es.length⟩], [], [], fun _ => 0, fun _ => 0, 0⟩
   let G : Gh := ⟨[], [], fun _ => 0⟩
   have hbox : BoxR F G [] w es ⟨b, o, z, es.length⟩ := ⟨rfl, hf.1, fun e he => (hf.2 e he).1, fun e he c hc => cell_atom (flt_cell ((hf.2 e he).2 c hc)), fun i j hi hj => by
    have hm : es.getD i [] ∈ es := by rw [List.getD_eq_getElem?_getD, List.getElem?_eq_getElem hi]; exact List.getElem_mem hi
    have hfl := (hf.2 _ hm).2 _ (mem_getD (by rw [(hf.2 _ hm).1]; exact hj))
    refine ⟨_, hw i j hi hj, ?_, .dat (flt_mk hfl) (.of_free (free_cell (flt_cell hfl)))⟩
    have hlt : i * z + j < es.length * z := by
     have : (i + 1) * z ≤ es.length * z := Nat.mul_le_mul_right _ hi
     rw [Nat.succ_mul] at this
     have hj' : j < z := hj
     omega
    have := hun b o _ c rfl (i * z + j) hlt
    rwa [← Nat.add_assoc] at this⟩
   have hsim : Sim F G (enterS fi [.asl (.out 0) z es.length, .int .i64 k] [es] []) { tmps := #[.slice (some ⟨b, o, none⟩) es.length c, .int .i64 k] ++ Array.replicate (fi.ntmps - 2) undef, defers := [] } w := by
    refine ⟨⟨rfl, rfl, fun i es p h => by simp [enterS] at h, fun i es' p e1 e2 => ?_, by simp [blocks, F, G], fun b' hb => ?_, fun p hp => by simp [G] at hp, rfl, fun i b _ h => by simp [G] at h, fun i b _ h => by simp [G] at h, fun p hp => rfl, fun _ _ => rfl,
     ⟨rfl, rfl, ⟨rfl, Nat.le_refl _⟩, Nat.le_refl _, fun _ _ _ _ => rfl, Ext.refl _ _ _, fun _ _ _ => rfl⟩⟩, ⟨by simp [enterS]; simp only [List.length_cons, List.length_nil] at hn; omega, fun i hi => ?_⟩, rfl⟩
    · match i, e1, e2 with
      | 0, e1, e2 =>
        simp only [enterS, List.getElem?_cons_zero, Option.some.injEq] at e1
        simp only [F, List.getElem?_cons_zero, Option.some.injEq] at e2
        subst e1 e2
        exact hbox
      | i + 1, e1, e2 => simp [enterS] at e1
    · simp only [blocks, F, G, List.map_cons, List.map_nil, List.append_nil, List.mem_singleton] at hb
      subst hb; exact hsz
    · by_cases hi2 : i < 2
      · match i, hi2 with
        | 0, _ =>
          have e1 : (enterS fi [.asl (.out 0) z es.length, .int .i64 k] [es] []).t.getD 0 .junk = .asl (.out 0) z es.length := rfl
          have e2 : (#[Value.slice (some ⟨b, o, none⟩) es.length c, .int .i64 k] ++ Array.replicate (fi.ntmps - 2) undef).getD 0 undef = .slice (some ⟨b, o, none⟩) es.length c := by rw [Array.getD_eq_getD_getElem?, Array.getElem?_append_left (by simp)]; rfl
          show Rep F G _ w _ ((#[Value.slice (some ⟨b, o, none⟩) es.length c, .int .i64 k] ++ Array.replicate (fi.ntmps - 2) undef).getD 0 undef)
          rw [e1, e2]
          exact .asl (.out 0) z es.length c b o rfl hc
        | 1, _ =>
          have e1 : (enterS fi [.asl (.out 0) z es.length, .int .i64 k] [es] []).t.getD 1 .junk = .int .i64 k := rfl
          have e2 : (#[Value.slice (some ⟨b, o, none⟩) es.length c, .int .i64 k] ++ Array.replicate (fi.ntmps - 2) undef).getD 1 undef = .int .i64 k := by rw [Array.getD_eq_getD_getElem?, Array.getElem?_append_left (by simp)]; rfl
          show Rep F G _ w _ ((#[Value.slice (some ⟨b, o, none⟩) es.length c, .int .i64 k] ++ Array.replicate (fi.ntmps - 2) undef).getD 1 undef)
          rw [e1, e2]
          exact .dat (.int _ _) (.of_free rfl)
      · have e1 : (enterS fi [.asl (.out 0) z es.length, .int .i64 k] [es] []).t.getD i .junk = .junk := by
          simp only [enterS, List.getD_eq_getElem?_getD]
          rw [List.getElem?_append_right (by simp; omega), List.getElem?_replicate]
          split <;> rfl
        rw [e1]; exact .junk _
   refine (gcall_calls hE (sound hE n) hfi (as_ := [.asl (.out 0) z es.length, .int .i64 k]) hn hx hrun (run_done n) hds (vs := #[.slice (some ⟨b, o, none⟩) es.length c, .int .i64 k]) hsim).mono ?_
   rintro e w' ⟨vs', G', rfl, hinv, hvl, hvr⟩
   have hfr := hinv.fr
   match vs', hvl, hvr with
   | [v1], _, hvr =>
   have hv := hvr 0 (by simp)
   simp only [List.getD_cons_zero] at hv
   have hv := hv.int_inv
   subst hv
   obtain ⟨hbf, hbl⟩ := hRf bx hR
   refine ⟨bx, hR, rfl, ?_, hfr.os, hfr.tape, hfr.output, hfr.size, fun b' hb' hd => hfr.same b' hb' (fun p hp => ?_) (by simp [F])⟩
   · have hb1 := hinv.boxO 0 bx ⟨b, o, z, es.length⟩ (by rw [hout]; rfl) rfl
     obtain ⟨_, _, _, _, hb5⟩ := hb1
     rw [← hbl]
     refine .row b o c (fun e => he (by rw [e] at hbl; exact List.length_eq_zero_iff.1 hbl.symm)) h1 h2 (by omega) fun i j hi hj => ?_
     obtain ⟨v, k1, _, k3⟩ := hb5 i j hi hj
     have hm : bx.getD i [] ∈ bx := by rw [List.getD_eq_getElem?_getD, List.getElem?_eq_getElem hi]; exact List.getElem_mem hi
     have hfl := (hbf.2 _ hm).2 _ (mem_getD (by rw [(hbf.2 _ hm).1]; exact hj))
     rw [k1, flt_rd hfl (k3.atom_inv (cell_atom (flt_cell hfl))).1]
   · simp only [F, List.mem_singleton] at hp
     subst hp
     show b ≠ b'
     rcases hd with hd | hd <;> omega
end
end Go.Mach
namespace Go.Mach
open Go Go.RowKit Go.Proofs
theorem spec_l6Sort.ans {xa xb : Option (List D → Option D)} (o : Std) (ho : o = std) (l : List ByteArray) (s : ByteArray) (h0 : l.length ≤ 1048576) : Ans (env xa xb) 174 [rTx o l, .str s] (rTx o (sortM l s)) := by
 refine Ans.mkA ho _ rfl rfl ?_
 repeat' (first
  | (refine .id ?_
     (try (conv => arg 2; cbv))
     first
      | (refine .indF (fun m_ s_ => ∃ (ea5 : Box) (a6 : Bool) (a7 : Int) (ta5 : Tok) (tk : List Nat), s_ = ⟨[rTx o l, .str s, Jk, Jk, Jk, .sl ta5 1 ea5, .bool a6, iX a7] ++ List.replicate 42 Jk, [], [], tk⟩ ∧ Lv tk ta5 ea5.length ∧ ea5 = (o.bx fun _ => eB ((l6S s (l.take a7.toNat)).1)) ∧ (a6 = (l6S s (l.take a7.toNat)).2 ∧ 0 ≤ a7 ∧ a7 ≤ l.length ∧ anyS s (l.take a7.toNat) = false) ∧ (l.length - a7).toNat ≤ m_) _ _ ⟨_, _, _, _, _, by subst ho; rfl, ?_, ?_, ?_, Nat.le_refl _⟩ ?_
         rotate_right
         rintro m_ _ ⟨ea5, a6, a7, ta5, tk, rfl, hla0, rfl, hIa, hka⟩ iha
         obtain ⟨i0, i1, i2, i3⟩ := hIa; have hw := len_l6S s (l.take a7.toNat); have hw2 := List.length_take_le a7.toNat l; have hw3 := Bool.toNat_le (l6S s (l.take a7.toNat)).2; refine .unloopA ho ?_
         repeat' (first
          | (refine .id ?_
             (try (conv => arg 2; cbv))
             first
              | refine .testF ?_
              | refine .t1 ?_
              | refine .t0 ?_
              | (refine .test (fun hr => ?_) (fun hr => ?_) <;> (have hb := hr) <;> (try simp (disch := omega) only [ho, std, wI, lenE, nrm] at hb) <;> (try (exfalso; first | contradiction | omega | exact hb rfl)))
              | (refine .fetchYB ho ?_ ?_ (by with_reducible assumption) ?_)
              | (refine .fetchXB ho ?_ ?_ (fun y hy => ?_); rotate_left 2; (have hyn := hy))
              | (refine .need ?_ ?_)
              | (refine .app1 ?_ (fun t' tk' hl' => ?_))
              | (refine iha _ _ ?_ ⟨_, _, _, _, _, by subst ho; rfl, ?_, ?_, ?_, Nat.le_refl _⟩)
              | (refine .fin ?_; (conv => lhs; cbv); refine congrArg some ?_))
          | ((fail_if_success (refine .id ?_))
             first
              | (exact Lv.cap _)
              | (subst ho; exact hla0)
              | (subst ho; exact ⟨rfl, Int.le_refl _, by omega, rfl⟩)
              | (exact congrArg (fun z => D.sl Tok.ro 1 (o.bx fun _ => eB z)) (anyS_hit i1 (by omega) hyn (by assumption)))
              | (subst ho; refine congrArg (D.sl Tok.ro 1) ?_; first | exact congrArg eB (sortM_t (by omega) i3 i0 (by assumption)) | exact push_eB (sortM_f (by omega) i3 i0 (by assumption)))
              | ((try clear iha); subst ho; simp (disch := omega) only [std, wI] at *; first | (rw [l6S_succ i1 (by omega) hyn, l6_ins i0 (by assumption) (by assumption)]; exact ⟨rfl, by omega, by omega, anyS_succ i1 (by omega) hyn i3 (by assumption)⟩) | (rw [l6S_succ i1 (by omega) hyn, l6_keep i0 (by first | exact .inl (by assumption) | exact .inr ⟨by assumption, by assumption⟩)]; exact ⟨rfl, by omega, by omega, anyS_succ i1 (by omega) hyn i3 (by assumption)⟩))
              | ((try clear iha); subst ho; simp (disch := omega) only [std, wI] at *; first | (rw [l6S_succ i1 (by omega) hyn, l6_ins i0 (by assumption) (by assumption)]; simp [eB]; done) | (rw [l6S_succ i1 (by omega) hyn, l6_keep i0 (by first | exact .inl (by assumption) | exact .inr ⟨by assumption, by assumption⟩)]; simp [eB]; done))
              | assumption
              | (subst ho; rfl)
              | (subst ho; simpa [std, lenE] using hl')
              | (subst ho; simp [std, lenE]; omega)
              | (subst ho; simp (disch := omega) only [std, wI, tdiv2, tdivN, lenE] <;> first | done | rfl | omega)))))
  | ((fail_if_success (refine .id ?_))
     first
      | fail))
end Go.Mach
