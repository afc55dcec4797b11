/- What the statements share: part 29 of a proof by an executable machine over the program's code. -/
import Derived.Test.YtljpfhpcbfpooaaGreatDoorMc28
set_option linter.unusedVariables false
set_option linter.unusedSimpArgs false
set_option maxRecDepth 100000
set_option maxHeartbeats 6000000
namespace Go.Mach
open Go Go.RowKit Go.Proofs Go.Lib
open Go.Sort hiding Below
theorem len_eFc' (l : List Fc) : (eFc l).length = l.length := by simp [eFc]
theorem get_eFc {l : List Fc} {i : Nat} (h : i < l.length) : (eFc l).getD i [] = cFc l[i] := by simp [eFc, h]
theorem cell_F {σ : Nat → Nat} {w : World} {x : Fc} {j : Nat} (hj : j < 6) {y : Value} (h : RD σ w ((cFc x).getD j .junk) y) : y = (encF x)[j]! := by
 match j, hj with
 | 0, _ => cases h; rfl
 | 1, _ => cases h; rfl
 | 2, _ => cases h; rfl
 | 3, _ => cases h; rfl
 | 4, _ => cases h; rfl
 | 5, _ => cases h; rfl
theorem rd_F {σ : Nat → Nat} {w : World} {x : Fc} {j : Nat} (hj : j < 6) : RD σ w ((cFc x).getD j .junk) ((encF x)[j]!) := by
 match j, hj with
 | 0, _ => exact .int _ _
 | 1, _ => exact .int _ _
 | 2, _ => exact .int _ _
 | 3, _ => exact .int _ _
 | 4, _ => exact .int _ _
 | 5, _ => exact .int _ _
theorem own_of_rd {σ : Nat → Nat} {w : World} {L : List Fc} {v : Value} {B : Nat} {t : Tok} (hr : RD σ w (.sl t 6 (eFc L)) v) (hown : ∀ b o l c, v = .slice (some ⟨b, o, none⟩) l c → B ≤ b ∧ ∃ c e, w.heap[b]? = some (.cells c e (0, 0))) : OwnF w B L v := by
 generalize hes : eFc L = es at hr
 cases hr with
 | slN =>
   have hl : L = [] := by cases L with
    | nil => rfl
    | cons x l => simp [eFc] at hes
   exact .inl ⟨hl, rfl⟩
 | sl _ _ _ b o cap f ht hz hl hc hcap hs hw h =>
   subst hes
   obtain ⟨hb, c, e, hblk⟩ := hown b o _ _ rfl
   have hbs : b < w.heap.size := by
    rcases Nat.lt_or_ge b w.heap.size with h | h
    · exact h
    · rw [Array.getElem?_eq_none h] at hblk; cases hblk
   rw [len_eFc'] at hcap
   refine .inr ⟨b, o, cap, by rw [len_eFc'], hb, hbs, hcap, fun t ht' => ?_⟩
   have h2 : t < L.length * 6 := by simpa using ht'
   have h3 : t / 6 < L.length := by omega
   have h4 : t % 6 < 6 := by omega
   have h5 := hw (t / 6) (t % 6) (by rw [len_eFc']; exact h3) h4
   have h6 := h (t / 6) (t % 6) (by rw [len_eFc']; exact h3) h4
   rw [get_eFc h3] at h6
   have h7 := cell_F h4 h6
   refine ⟨?_, by simp [World.frozen?, hblk]⟩
   rw [show o + t = o + t / 6 * 6 + t % 6 by omega, h5, h7, get_flatK _ _ _ _ (by simpa using h2), get_toArray _ h3]
   rfl
theorem rd_of_own {σ : Nat → Nat} {w : World} {L : List Fc} {v : Value} {B : Nat} (h : OwnF w B L v) (hB : B ≤ w.heap.size) (hbig : ∀ b, w.heap.size ≤ b → σ b = 0) :
  ∃ σ', (∀ b, b < B → σ' b = σ b) ∧ (RD σ' w (.sl .ro 6 (eFc L)) v ∧ NewR B σ' w 6 (eFc L) v) ∧ ∀ b, w.heap.size ≤ b → σ' b = 0 := by
 rcases h with ⟨rfl, rfl⟩ | ⟨b, o, cap, rfl, hb, hbs, hcap, hH⟩
 · exact ⟨σ, fun _ _ => rfl, ⟨.slN _ _, fun b o l c h => by injection h with h; cases h⟩, hbig⟩
 · refine ⟨fun k => if k = b then o + L.length * 6 else if k < B then σ k else 0, fun k hk => by show (if _ then _ else _) = _; rw [if_neg (by omega), if_pos hk], ⟨?_, fun b1 o1 l1 c1 h => ?_⟩, fun k hk => by show (if _ then _ else _) = _; rw [if_neg (by omega), if_neg (by omega)]⟩
   rw [← len_eFc' L]
   refine .sl _ _ (eFc L) b o cap (fun i j => (encF (L.getD i zF))[j]!) (by decide) (by decide) ?_ ?_ (by rw [len_eFc']; exact hcap) (fun _ => by show _ ≤ (if b = b then _ else _); rw [if_pos rfl]; omega) (fun i j hi hj => ?_) (fun i j hi hj => ?_)
   · intro e he; simp only [eFc, List.mem_map] at he; obtain ⟨x, _, rfl⟩ := he; rfl
   · intro e he; simp only [eFc, List.mem_map] at he; obtain ⟨x, _, rfl⟩ := he
     intro c hc; simp only [cFc, List.mem_cons, List.not_mem_nil, or_false] at hc
     rcases hc with rfl | rfl | rfl | rfl | rfl | rfl <;> rfl
   · rw [len_eFc'] at hi
     have h1 := (hH (i * 6 + j) (by simp; omega)).1
     rw [Nat.add_assoc, h1, get_flatK _ _ _ _ (by simp; omega), show (i * 6 + j) / 6 = i by omega, show (i * 6 + j) % 6 = j by omega, get_toArray _ hi]
     simp [hi]
   · rw [len_eFc'] at hi
     rw [get_eFc hi]
     have : L.getD i zF = L[i] := by simp [hi]
     rw [this]; exact rd_F hj
   · injection h with h _ _
     injection h with h
     injection h with q1 q2 _
     subst q1
     subst q2
     refine ⟨hb, fun j hj => ?_⟩
     rw [len_eFc'] at hj
     exact ⟨by show _ < (if b = b then _ else _); rw [if_pos rfl]; omega, (hH j (by simpa using hj)).2⟩
theorem cFc_inj {x y : Fc} (h : cFc x = cFc y) : x = y := by
 obtain ⟨a, b, c, ⟨d, e, f⟩⟩ := x
 obtain ⟨a', b', c', ⟨d', e', f'⟩⟩ := y
 simp only [cFc, List.cons.injEq, D.int.injEq] at h; simp [h]
theorem eFc_inj : ∀ {l m : List Fc}, eFc l = eFc m → l = m
 | [], [], _ => rfl
 | [], _ :: _, h => by simp [eFc] at h
 | _ :: _, [], h => by simp [eFc] at h
 | x :: l, y :: m, h => by
   simp only [eFc, List.map_cons, List.cons.injEq] at h
   rw [cFc_inj h.1, eFc_inj (l := l) (m := m) h.2]
theorem own_shape {w : World} {B : Nat} {L : List Fc} {v : Value} (h : OwnF w B L v) : ∃ a c, v = .slice a L.length c := by
 rcases h with ⟨rfl, rfl⟩ | ⟨b, o, cap, rfl, _⟩
 · exact ⟨none, 0, rfl⟩
 · exact ⟨_, _, rfl⟩
abbrev argsP (p : List Nd × Int × List Fc) : List D := [.sl .ro 7 (eNd p.1), .sl .ro 2 (eBd (bindsM p.1)), .int .i64 p.2.1, .sl .ro 6 (eFc p.2.2)]
abbrev resP (p : List Nd × Int × List Fc) : D := .tup [.sl .nw 6 (eFc (passM p.1 p.2.1 p.2.2)), .bool (decide ((passM p.1 p.2.1 p.2.2).length ≤ 2500))]
abbrev preP (p : List Nd × Int × List Fc) : Prop := Clo p.1 ∧ Fit p.1 p.2.2 ∧ p.2.2.length ≤ 2500
open Classical in
noncomputable def gPass : List D → Option D := fun ar => if h : ∃ p, preP p ∧ ar = argsP p then some (resP h.choose) else none
theorem gPass_eq {p : List Nd × Int × List Fc} (hp : preP p) : gPass (argsP p) = some (resP p) := by
 have h : ∃ q, preP q ∧ argsP p = argsP q := ⟨p, hp, rfl⟩
 unfold gPass
 rw [dif_pos h]
 have h1 : p = h.choose := by
  have h2 := h.choose_spec.2
  generalize h.choose = q at h2
  obtain ⟨a, b, c⟩ := p
  obtain ⟨a', b', c'⟩ := q
  injection h2 with h3 h2
  injection h2 with h4 h2
  injection h2 with h5 h2
  injection h2 with h6 h2
  injection h3 with _ _ h3
  injection h5 with _ h5
  injection h6 with _ _ h6
  have q1 : a = a' := eNd_inj h3
  have q2 : c = c' := eFc_inj h6
  have q3 : b = b' := h5
  rw [q1, q2, q3]
 exact congrArg (fun q => some (resP q)) h1.symm
theorem pass_spec : PassSpec gPass := fun l dp fs hC hF hl => gPass_eq (p := (l, dp, fs)) ⟨hC, hF, hl⟩
theorem pass_ok : ExtOk Tryz.prog 133 gPass := by
 refine ⟨⟨_, Tryz.func133, by decide, by kernel_rfl⟩, ?_⟩
 intro σ w args vs d hl hr hbig hg
 obtain ⟨⟨l, dp, fs⟩, ⟨hC, hF, hfl⟩, rfl⟩ : ∃ p, preP p ∧ args = argsP p := by
  refine Classical.byContradiction fun h => ?_
  unfold gPass at hg
  rw [dif_neg h] at hg
  cases hg
 rw [gPass_eq ⟨hC, hF, hfl⟩] at hg
 obtain rfl := Option.some.inj hg
 dsimp only at hC hF hfl
 have hFok := hF.fok hfl
 have hmore := len_moreT2 hFok hC.lok dp fs.length
 rw [List.take_length, moreT_all] at hmore
 have hLl : (moreI l (bindsM l) dp fs ++ fs).length ≤ 2425000002500 := by rw [List.length_append]; omega
 refine calls_pre env_ok0 (n := 3) (c := bodyOf Tryz.f133) (impl_pass_pre.part std rfl l (bindsM l) dp fs hFok hC.lok) rfl Tryz.func133 (by kernel_rfl) (by kernel_rfl) hl hr hbig ?_
 rintro d1 s1 G' a' w' hout ⟨tq, rfl, hlw⟩ hsim
 split at hout
 · rename_i hlen
   have hsz50 : a'.tmps.size = 50 := by rw [hsim.tmp.1, hlen]
   have hrep := hsim.tmp.2 13 (by rw [hlen]; decide)
   have h3 : s1.t.getD 13 .junk = .sl tq 6 (eFc (moreI l (bindsM l) dp fs ++ fs)) := by rw [List.getD_eq_getElem?_getD, hout]; rfl
   rw [h3] at hrep
   have hlw' : Lw s1.tk tq (eFc (moreI l (bindsM l) dp fs ++ fs)).length := by rw [len_eFc']; exact hlw
   have hown := own_block rfl hrep hlw'
   have hO := own_of_rd hrep.sl_inv.1 hown
   have hfr := hsim.inv.fr
   have hice := hsim.inv.iceBig
   change OwnF w' w.heap.size _ _ at hO
   obtain ⟨tm, df⟩ := a'
   obtain rfl : df = [] := hsim.def0
   dsimp only at hsz50 hO
   have htm := arr_fn hsz50
   generalize hf : (fun i => tm.getD i undef) = f at htm
   have hf3 : tm.getD 13 undef = f 13 := by rw [← hf]
   rw [hf3] at hO
   have htm2 : tm = #[f 0, f 1, f 2, f 3, f 4, f 5, f 6, f 7, f 8, f 9, f 10, f 11, f 12, f 13, f 14, f 15, f 16, f 17, f 18, f 19, f 20, f 21, f 22, f 23, f 24, f 25, f 26, f 27, f 28, f 29, f 30, f 31, f 32, f 33, f 34, f 35, f 36, f 37, f 38, f 39, f 40, f 41, f 42, f 43, f 44, f 45, f 46, f 47, f 48, f 49] := htm
   rw [htm2]
   simp only [dropC, bodyOf, Tryz.f133, Option.getD]
   have e146 : ∀ args w, (callFunc 156 args).run Tryz.prog w = .ok (.enter 156 args) w := enters_of Tryz.func156 (by kernel_rfl) rfl
   have e147 : ∀ args w, (callFunc 158 args).run Tryz.prog w = .ok (.enter 158 args) w := enters_of Tryz.func158 (by kernel_rfl) rfl
   have c146 := sortF_calls hO (by omega)
   have c147 := fun w1 (h1 : OwnF w1 w.heap.size (srtF (moreI l (bindsM l) dp fs ++ fs)) (f 13)) => compactF_calls h1 (by rw [len_srtF]; omega)
   rw [cmpF_pass hC hF dp] at c147
   have t3 := Tryz.underlying3; have t36 := Tryz.underlying28; have t4 := Tryz.underlying4
   clear hsim hrep hown hr htm htm2 hout h3 hf hf3
   go_wp2_with (first | (go_at_fn 156; refine c146.mono ?_; rintro e w1 ⟨rfl, ⟨hb1, hd1⟩, ho1⟩) | (go_at_fn 158; refine (c147 _ ho1).mono ?_; rintro e w2 ⟨v2, rfl, ⟨hb2, hd2⟩, ho2⟩; obtain ⟨a2, k2, hv2⟩ := own_shape ho2; subst hv2))
   go_ret2
   have hw0 : Below w.heap.size w w' := ⟨hfr.os, hfr.tape, hfr.output.1, hfr.size, fun b hb => hfr.same b hb (fun p hp => by cases hp) (fun hh => by cases hh)⟩
   have hw2 := (hw0.trans hb1).trans hb2
   have hd : w'.drawn ≤ w2.drawn := Nat.le_trans hd1 hd2
   have hsz : w'.heap.size ≤ w2.heap.size := Nat.le_trans hb1.size hb2.size
   obtain ⟨σ', hσ, ⟨hrd, hnr⟩, hbg⟩ := rd_of_own (σ := G'.ice) ho2 hw2.size (fun b hb => hice b (Nat.le_trans hsz hb))
   refine ⟨_, σ', rfl, .tup _ _ rfl (by intro c hc; simp only [List.mem_cons, List.not_mem_nil, or_false] at hc; rcases hc with rfl | rfl <;> rfl) (fun i hi => ?_), ⟨rfl, fun i z es he => ?_⟩, ⟨hw2, Nat.le_trans hfr.output.2 hd⟩, fun b hb => ?_, hbg⟩
   · match i, hi with
     | 0, _ => exact hrd.tok _ (by simp)
     | 1, _ =>
       have : (decide (((passM l dp fs).length : Int) ≤ 2500)) = decide ((passM l dp fs).length ≤ 2500) := decide_eq_decide.2 (by omega)
       show RD σ' w2 (.bool (decide ((passM l dp fs).length ≤ 2500))) (.bool (decide (((passM l dp fs).length : Int) ≤ 2500)))
       rw [this]; exact .bool _
   · match i, he with
     | 0, he =>
       simp only [List.getElem?_cons_zero, Option.some.injEq, D.sl.injEq, true_and] at he
       obtain ⟨rfl, rfl⟩ := he
       exact hnr
     | 1, he => simp at he
     | i + 2, he => simp at he
   · rw [hσ b hb]; exact hfr.ice b hb (fun hh => by cases hh)
 · cases hout
end Go.Mach
namespace Go.Mach
open Go Go.RowKit Go.Proofs
theorem laws_szNode.ans {xa xb : Option (List D → Option D)} (o : Std) (ho : o = std) (a_f0 : Int) (a_f1 : Int) (a_f2 : Int) (a_f3 : Int) (a_f4 : Int) (a_f5 : ByteArray) (a_f6 : ByteArray) (left : Int) (h0 : 0 ≤ left ∧ left ≤ 1048576) (h1 : a_f5.size ≤ 9223372036854775807 ∧ a_f6.size ≤ 9223372036854775807) : AnsP (env xa xb) 84 [.agg [iX a_f0, iX a_f1, iX a_f2, iX a_f3, iX a_f4, .str a_f5, .str a_f6], iX left] (fun d_ => ∃ (r : Int), d_ = iX (r) ∧ (-1 ≤ r ∧ r ≤ left ∧ (0 ≤ r → a_f5.size ≤ 1048576 ∧ a_f6.size ≤ 1048576))) := by
 refine AnsP.mkA ho _ rfl rfl ?_
 repeat' (first
  | (refine .id ?_
     (try (conv => arg 2; cbv))
     first
      | (refine .test (fun hr => ?_) (fun hr => ?_) <;> (have hb := hr) <;> (try simp (disch := omega) only [ho, std, wI, lenE, nrm] at hb) <;> (try (exfalso; first | contradiction | omega | exact hb rfl)))
      | (refine .fin ?_; refine ⟨_, by (conv => lhs; cbv) <;> rfl, ?_⟩))
  | ((fail_if_success (refine .id ?_))
     first
      | (exact ⟨_, rfl, by subst ho; simp (disch := omega) only [std, wI] at *; omega⟩)))
theorem laws_toNode.ans {xa xb : Option (List D → Option D)} (o : Std) (ho : o = std) (x_f0 : Int) (x_f1 : Int) (x_f2 : Int) (x_f3 : Int) (x_f4 : Int) (x_f5 : ByteArray) (x_f6 : ByteArray) : Ans (env xa xb) 87 [.agg [iX x_f0, iX x_f1, iX x_f2, iX x_f3, iX x_f4, .str x_f5, .str x_f6]] (.agg ([iX ((⟨x_f0, x_f1, x_f2, x_f3, x_f4, x_f5, x_f6⟩ : Nd)).f0, iX ((⟨x_f0, x_f1, x_f2, x_f3, x_f4, x_f5, x_f6⟩ : Nd)).f1, iX ((⟨x_f0, x_f1, x_f2, x_f3, x_f4, x_f5, x_f6⟩ : Nd)).f2, iX ((⟨x_f0, x_f1, x_f2, x_f3, x_f4, x_f5, x_f6⟩ : Nd)).f3, iX ((⟨x_f0, x_f1, x_f2, x_f3, x_f4, x_f5, x_f6⟩ : Nd)).f4, .str ((⟨x_f0, x_f1, x_f2, x_f3, x_f4, x_f5, x_f6⟩ : Nd)).f5, .str ((⟨x_f0, x_f1, x_f2, x_f3, x_f4, x_f5, x_f6⟩ : Nd)).f6])) := by
 refine Ans.mkA ho _ rfl rfl ?_
 repeat' (first
  | (refine .id ?_
     (try (conv => arg 2; cbv))
     first
      | (refine .fin ?_; (conv => lhs; cbv) <;> refine congrArg some ?_))
  | ((fail_if_success (refine .id ?_))
     first
      | fail))
theorem laws_eqNode.ans {xa xb : Option (List D → Option D)} (o : Std) (ho : o = std) (a_f0 : Int) (a_f1 : Int) (a_f2 : Int) (a_f3 : Int) (a_f4 : Int) (a_f5 : ByteArray) (a_f6 : ByteArray) (b_f0 : Int) (b_f1 : Int) (b_f2 : Int) (b_f3 : Int) (b_f4 : Int) (b_f5 : ByteArray) (b_f6 : ByteArray) (h0 : b_f0 = a_f0 ∧ b_f1 = a_f1 ∧ b_f2 = a_f2 ∧ b_f3 = a_f3 ∧ b_f4 = a_f4 ∧ b_f5 = a_f5 ∧ b_f6 = a_f6) : Ans (env xa xb) 89 [.agg [iX a_f0, iX a_f1, iX a_f2, iX a_f3, iX a_f4, .str a_f5, .str a_f6], .agg [iX b_f0, iX b_f1, iX b_f2, iX b_f3, iX b_f4, .str b_f5, .str b_f6]] (.bool (true)) := by
 refine Ans.mkA ho _ rfl rfl ?_
 obtain ⟨rfl, rfl, rfl, rfl, rfl, rfl, rfl⟩ := h0
 repeat' (first
  | (refine .id ?_
     (try (conv => arg 2; cbv))
     first
      | (refine .test (fun hr => ?_) (fun hr => ?_) <;> (have hb := hr) <;> (try simp (disch := omega) only [ho, std, wI, lenE, nrm] at hb) <;> (try (exfalso; first | contradiction | omega | exact hb rfl)))
      | (refine .fin ?_; (conv => lhs; cbv) <;> refine congrArg some ?_))
  | ((fail_if_success (refine .id ?_))
     first
      | fail))
theorem laws_szNodeS.ans {xa xb : Option (List D → Option D)} (o : Std) (ho : o = std) (a : List Nd) (left : Int) (h0 : left = 1048576) (h1 : Bg a) : AnsP (env xa xb) 38 [rNd o a, iX left] (fun d_ => ∃ (r : Int), d_ = iX (r) ∧ (0 ≤ r → SzL a)) := by
 refine AnsP.mkA ho _ rfl rfl ?_
 have hbg := h1.1
 repeat' (first
  | (refine .id ?_
     (try (conv => arg 2; cbv))
     first
      | (refine .test (fun hr => ?_) (fun hr => ?_) <;> (have hb := hr) <;> (try simp (disch := omega) only [ho, std, wI, lenE, nrm] at hb) <;> (try (exfalso; first | contradiction | omega | exact hb rfl)))
      | (refine .indF (fun m_ s_ => ∃ (a1 : Int) (a5 : Int) (tk : List Nat), s_ = ⟨[rNd o a, iX a1, Jk, Jk, Jk, iX a5] ++ List.replicate 21 Jk, [], [], tk⟩ ∧ ((a.length : Int) ≤ 1048576 ∧ 0 ≤ a1 ∧ a1 ≤ 1048576 ∧ 0 ≤ a5 ∧ a5 ≤ a.length ∧ (∀ x ∈ a.take a5.toNat, x.f5.size ≤ 1048576 ∧ x.f6.size ≤ 1048576)) ∧ (a.length - a5).toNat ≤ m_) _ _ ⟨_, _, _, by subst ho; rfl, ?_, Nat.le_refl _⟩ ?_
         rotate_right
         rintro m_ _ ⟨a1, a5, tk, rfl, hIa, hka⟩ iha
         obtain ⟨i0, i3, i4, i1, i2, i5⟩ := hIa; refine .unloopA ho ?_
         repeat' (first
          | (refine .id ?_
             (try (conv => arg 2; cbv))
             first
              | (refine .test (fun hr => ?_) (fun hr => ?_) <;> (have hb := hr) <;> (try simp (disch := omega) only [ho, std, wI, lenE, nrm] at hb) <;> (try (exfalso; first | contradiction | omega | exact hb rfl)))
              | (refine .pP (as' := [.agg [iX _, iX _, iX _, iX _, iX _, .str _, .str _], iX _]) (laws_szNode.ans o ho _ _ _ _ _ _ _ _ ?_ ?_) ?_; rotate_left 2; rintro _ ⟨r, rfl, hv⟩)
              | (refine .fetchXNd ho ?_ ?_ (fun y hy => ?_); rotate_left 2; rcases y with ⟨y0, y1, y2, y3, y4, y5, y6⟩; (have hbs := h1.at i1 (by omega) hy; dsimp only at hbs; have hyl := hy))
              | (refine iha _ _ ?_ ⟨_, _, _, by subst ho; rfl, ?_, Nat.le_refl _⟩)
              | (refine .fin ?_; refine ⟨_, by (conv => lhs; cbv) <;> rfl, ?_⟩))
          | ((fail_if_success (refine .id ?_))
             first
              | (exact ⟨_, rfl, fun h => absurd h (by decide)⟩)
              | (exact ⟨_, rfl, fun _ => sz_end (r := 0) (by omega) i0 i5⟩)
              | (subst ho; simp (disch := omega) only [std, wI, len_eNd] at *; exact ⟨by omega, by omega, by omega, Int.le_refl _, by omega, by simp⟩)
              | (simp (disch := omega) only [ho, std, wI]; exact ⟨i0, by omega, by omega, by omega, by omega, sz_step i1 (by omega) i5 hyl (hv.2.2 (by omega))⟩)
              | assumption
              | omega
              | (subst ho; simp (disch := omega) only [std, wI, tdiv2, tdivN, lenE] <;> first | done | rfl | omega))))
      | (refine .fin ?_; refine ⟨_, by (conv => lhs; cbv) <;> rfl, ?_⟩))
  | ((fail_if_success (refine .id ?_))
     first
      | (exact ⟨_, rfl, fun h => absurd h (by decide)⟩)))
theorem laws_eqNodeS.ans {xa xb : Option (List D → Option D)} (o : Std) (ho : o = std) (a : List Nd) (b : List Nd) (h0 : a = b) (h1 : a.length ≤ 1048576) : Ans (env xa xb) 43 [rNd o a, rNd o b] (.bool (true)) := by
 refine Ans.mkA ho _ rfl rfl ?_
 subst h0
 repeat' (first
  | (refine .id ?_
     (try (conv => arg 2; cbv))
     first
      | (refine .test (fun hr => ?_) (fun hr => ?_) <;> (have hb := hr) <;> (try simp (disch := omega) only [ho, std, wI, lenE, nrm] at hb) <;> (try (exfalso; first | contradiction | omega | exact hb rfl)))
      | (refine .indF (fun m_ s_ => ∃ (a5 : Int) (tk : List Nat), s_ = ⟨[rNd o a, rNd o a, Jk, Jk, Jk, iX a5] ++ List.replicate 21 Jk, [], [], tk⟩ ∧ (0 ≤ a5 ∧ a5 ≤ a.length) ∧ (a.length - a5).toNat ≤ m_) _ _ ⟨_, _, by subst ho; rfl, ?_, Nat.le_refl _⟩ ?_
         rotate_right
         rintro m_ _ ⟨a5, tk, rfl, hIa, hka⟩ iha
         obtain ⟨i1, i2⟩ := hIa; refine .unloopA ho ?_
         repeat' (first
          | (refine .id ?_
             (try (conv => arg 2; cbv))
             first
              | refine .tN0 ho ?_
              | (refine .test (fun hr => ?_) (fun hr => ?_) <;> (have hb := hr) <;> (try simp (disch := omega) only [ho, std, wI, lenE, nrm] at hb) <;> (try (exfalso; first | contradiction | omega | exact hb rfl)))
              | (refine .pE (β := Bool) .bool (as' := [.agg [iX _, iX _, iX _, iX _, iX _, .str _, .str _], .agg [iX _, iX _, iX _, iX _, iX _, .str _, .str _]]) (laws_eqNode.ans o ho _ _ _ _ _ _ _ _ _ _ _ _ _ _ ?_) ?_; rotate_left 1; rintro (_ | _) hv <;> (try simp only [dE] at hv) <;> (try first | contradiction | exact bX hv))
              | (refine .fetchYNd ho ?_ ?_ (by with_reducible assumption) ?_)
              | (refine .fetchXNd ho ?_ ?_ (fun y hy => ?_); rotate_left 2; rcases y with ⟨y0, y1, y2, y3, y4, y5, y6⟩)
              | (refine .needD ho (by kernel_rfl) ?_)
              | (refine iha _ _ ?_ ⟨_, _, by subst ho; rfl, ?_, Nat.le_refl _⟩)
              | (refine .fin ?_; (conv => lhs; cbv) <;> refine congrArg some ?_))
          | ((fail_if_success (refine .id ?_))
             first
              | (exact ⟨rfl, rfl, rfl, rfl, rfl, rfl, rfl⟩)
              | (simp (disch := omega) only [ho, std, wI]; exact ⟨by omega, by omega⟩)
              | assumption
              | omega
              | (subst ho; simp (disch := omega) only [std, wI, tdiv2, tdivN, lenE] <;> first | done | rfl | omega)))))
  | ((fail_if_success (refine .id ?_))
     first
      | fail))
theorem laws_toNodeS.ans {xa xb : Option (List D → Option D)} (o : Std) (ho : o = std) (a : List Nd) (h0 : SzL a) : Ans (env xa xb) 40 [rNd o a] (.sl .nw 7 (o.bx fun _ => eNd (a))) := by
 refine Ans.mkA ho _ rfl rfl ?_
 have hbg := h0.1
 repeat' (first
  | (refine .id ?_
     (try (conv => arg 2; cbv))
     first
      | (refine .need ?_ ?_)
      | (refine .indF (fun m_ s_ => ∃ (a4 : Int) (tk : List Nat) (bx0 : Box) (nn : Nat), s_ = ⟨[rNd o a, Jk, Jk, .asl (.loc 0) 7 nn, iX a4] ++ List.replicate 18 Jk, [bx0], [], tk⟩ ∧ (bx0 = (o.bx fun _ => eNd (cpB a a4)) ∧ 0 ≤ a4 ∧ a4 ≤ a.length) ∧ (a.length - a4).toNat ≤ m_) _ _ ⟨_, _, _, _, by subst ho; rfl, ?_, Nat.le_refl _⟩ ?_
         rotate_right
         rintro m_ _ ⟨a4, tk, bx0, nn, rfl, hIa, hka⟩ iha
         obtain ⟨rfl, i1, i2⟩ := hIa; have hbl := cpB_len i1 i2; refine .unloopA ho ?_
         repeat' (first
          | (refine .id ?_
             (try (conv => arg 2; cbv))
             first
              | (refine .test (fun hr => ?_) (fun hr => ?_) <;> (have hb := hr) <;> (try simp (disch := omega) only [ho, std, wI, lenE, nrm] at hb) <;> (try (exfalso; first | contradiction | omega | exact hb rfl)))
              | (refine .fin ?_; refine (outD_aslN (t := 2) (i := 0) (z := 7) (by rfl) (by rfl) ?_).trans ?_)
              | (refine .pE (β := Nd) (fun v => .agg ([iX v.f0, iX v.f1, iX v.f2, iX v.f3, iX v.f4, .str v.f5, .str v.f6])) (as' := [.agg [iX _, iX _, iX _, iX _, iX _, .str _, .str _]]) (laws_toNode.ans o ho _ _ _ _ _ _ _) ?_; rintro ⟨v0, v1, v2, v3, v4, v5, v6⟩ hv)
              | (refine .fetchYNd ho ?_ ?_ (by with_reducible assumption) ?_)
              | (refine .fetchXNd ho ?_ ?_ (fun y hy => ?_); rotate_left 2; rcases y with ⟨y0, y1, y2, y3, y4, y5, y6⟩; (first | (have _h := hyl) | (have hyl := hy)))
              | (refine iha _ _ ?_ ⟨_, _, _, _, by subst ho; rfl, ?_, Nat.le_refl _⟩))
          | ((fail_if_success (refine .id ?_))
             first
              | (subst ho; exact cells_eNd _)
              | (rw [cpB_end (by omega)] <;> (subst ho; rfl))
              | (subst ho; refine ⟨?_, Int.le_refl _, by omega⟩; simp only [std, len_eNd, Int.toNat_natCast]; rw [cpB_zero, ← rep_eNd]; rfl)
              | (subst ho; refine ⟨?_, ?_⟩ <;> simp (disch := omega) only [std, wI] <;> first | omega | (rw [← cpB_set i1 (by omega) (hyl.trans hv), ← set_eNd]; rfl))
              | assumption
              | omega
              | (subst ho; simp (disch := omega) only [std, wI, tdiv2, tdivN, lenE] <;> first | done | rfl | omega)))))
  | ((fail_if_success (refine .id ?_))
     first
      | (subst ho; simp [std, lenE]; omega)))
theorem impl_factsFit.ans {xa xb : Option (List D → Option D)} (o : Std) (ho : o = std) (l : List Nd) (fs : List Fc) (h0 : okM l = true) (h1 : fs = seedM l) : Ans (env xa xb) 132 [rNd o l, rFc o fs] (.bool (true)) := by
 refine Ans.mkA ho _ rfl rfl ?_
 have hs := (okM_iff.1 h0).size; have hfl : fs.length = 1 := (by rw [h1]; rfl)
 repeat' (first
  | (refine .id ?_
     (try (conv => arg 2; cbv))
     first
      | (refine .indF (fun m_ s_ => ∃ (a5 : Int) (a13 : Int) (a14 : Int) (tk : List Nat), s_ = ⟨[rNd o l, rFc o fs, Jk, Jk, Jk, iX a5, Jk, Jk, Jk, Jk, Jk, Jk, rFc o fs, iX a13, iX a14] ++ List.replicate 54 Jk, [], [], tk⟩ ∧ (a5 = l.length - 1 ∧ a13 = fs.length ∧ 0 ≤ a14 ∧ a14 ≤ 1) ∧ (1 - a14).toNat ≤ m_) _ _ ⟨_, _, _, _, by subst ho; rfl, ?_, Nat.le_refl _⟩ ?_
         rotate_right
         rintro m_ _ ⟨a5, a13, a14, tk, rfl, hIa, hka⟩ iha
         obtain ⟨i5, i6, i1, i2⟩ := hIa; refine .unloopA ho ?_
         repeat' (first
          | (refine .id ?_
             (try (conv => arg 2; cbv))
             first
              | refine .testF ?_
              | refine .t1 ?_
              | refine .t0 ?_
              | refine .tN1 ho ?_
              | refine .tN0 ho ?_
              | (refine .test (fun hr => ?_) (fun hr => ?_) <;> (have hb := hr) <;> (try simp (disch := omega) only [ho, std, wI, lenE, nrm] at hb) <;> (try (exfalso; first | contradiction | omega | exact hb rfl)))
              | (refine .pE (β := Bool) .bool (as' := [iX _, iX _, iX _]) (impl_in.ans o ho _ _ _) ?_; rintro (_ | _) hv <;> (try simp only [dE] at hv) <;> (try first | contradiction | exact bX hv) <;> (try (exfalso; simp (disch := omega) only [ho, std, wI, len_eNd] at hv; omega)))
              | (refine .pE (β := Bool) .bool (as' := [rFc o _]) (impl_FactsOk.ans o ho _ ?_) ?_; rotate_left 1; rintro (_ | _) hv <;> (try simp only [dE] at hv) <;> (try first | contradiction | exact bX hv) <;> (try exact absurd (hv.symm.trans (by rw [h1, seed_ok])) Bool.false_ne_true))
              | (refine .fetchXFc ho ?_ ?_ (fun y hy => ?_); rotate_left 2; rcases y with ⟨yk, yn, yc, yvk, yvn, yvc⟩; have hsd := seed_at h1 i1 (by omega) hy)
              | (refine iha _ _ ?_ ⟨_, _, _, _, by subst ho; rfl, ?_, Nat.le_refl _⟩)
              | (refine .fin ?_; (conv => lhs; cbv) <;> refine congrArg some ?_))
          | ((fail_if_success (refine .id ?_))
             first
              | (simp (disch := omega) only [ho, std, wI]; exact ⟨i5, i6, by omega, by omega⟩)
              | (subst ho; refine ⟨?_, ?_, by omega, by omega⟩ <;> simp (disch := omega) only [std, wI, len_eNd, len_eFc])
              | assumption
              | omega
              | (subst ho; simp (disch := omega) only [std, wI, tdiv2, tdivN, lenE] <;> first | done | rfl | omega)))))
  | ((fail_if_success (refine .id ?_))
     first
      | fail))
theorem impl_Closed.ans {ga gb : List D → Option D} (o : Std) (ho : o = std) (l : List Nd) (h0 : FreeSpec gb) (h1 : Sz l) (h2 : l.length ≤ 1048576) : Ans (env (some ga) (some gb)) 20 [rNd o l] (.bool (cloB l)) := by
 refine Ans.mkA ho _ rfl rfl ?_
 repeat' (first
  | (refine .id ?_
     (try (conv => arg 2; cbv))
     first
      | refine .testT ?_
      | refine .testF ?_
      | (obtain ⟨rf, hr1, hr2⟩ := h0 l (by assumption) h1; refine .extE (r := rf) (rTx o) (g := gb) (as' := [.sl .ro 7 (eNd l)]) (by rfl) (by subst ho; rfl) (by subst ho; exact hr1) ?_; rintro v hv)
      | (refine .pE (β := Bool) .bool (as' := [rNd o _]) (impl_NodesOk.ans o ho _ ?_ ?_) ?_; rotate_left 2; rintro (_ | _) hv <;> (try simp only [dE] at hv) <;> (try first | contradiction | exact bX hv))
      | (refine .fin ?_; (conv => lhs; cbv) <;> refine congrArg some ?_))
  | ((fail_if_success (refine .id ?_))
     first
      | (subst ho; refine dB ?_; exact clo_no (by assumption))
      | (subst ho; refine dB ?_; subst hv; exact clo_len2 (by assumption) hr2 (by simp only [std, len_eB]; rfl))
      | assumption))
theorem impl_FlowOk.ans {ga gb : List D → Option D} (o : Std) (ho : o = std) (l : List Nd) (dp : Int) (h0 : FreeSpec gb) (h1 : Sz l) (h2 : l.length ≤ 1048576) : Ans (env (some ga) (some gb)) 128 [rNd o l, iX dp] (.bool (flowB l dp)) := by
 refine Ans.mkA ho _ rfl rfl ?_
 repeat' (first
  | (refine .id ?_
     (try (conv => arg 2; cbv))
     first
      | refine .testT ?_
      | refine .testF ?_
      | (refine .pE (β := Bool) .bool (as' := [rNd o _]) (impl_Closed.ans o ho _ ?_ ?_ ?_) ?_; rotate_left 3; rintro (_ | _) hv <;> (try simp only [dE] at hv) <;> (try first | contradiction | exact bX hv))
      | (refine .pE (β := Bool) .bool (as' := [iX _, iX _, iX _]) (impl_in.ans o ho _ _ _) ?_; rintro (_ | _) hv <;> (try simp only [dE] at hv) <;> (try first | contradiction | exact bX hv))
      | (refine .fin ?_; (conv => lhs; cbv) <;> refine congrArg some ?_))
  | ((fail_if_success (refine .id ?_))
     first
      | (refine dB ?_; exact flow_no (by assumption))
      | (refine dB ?_; first | exact flow_eq (by assumption) (decide_eq_true (by assumption)).symm | exact flow_eq (by assumption) (decide_eq_false (by assumption)).symm)
      | assumption))
theorem impl_Seed.ans {xa xb : Option (List D → Option D)} (o : Std) (ho : o = std) (l : List Nd) (h0 : Sz l) (h1 : l.length ≤ 1048576) : Ans (env xa xb) 130 [rNd o l] (rFc o (seedR l)) := by
 refine Ans.mkA ho _ rfl rfl ?_
 repeat' (first
  | (refine .id ?_
     (try (conv => arg 2; cbv))
     first
      | refine .tN1 ho ?_
      | refine .tN0 ho ?_
      | (refine .pE (β := Bool) .bool (as' := [rNd o _]) (impl_NodesOk.ans o ho _ ?_ ?_) ?_; rotate_left 2; rintro (_ | _) hv <;> (try simp only [dE] at hv) <;> (try first | contradiction | exact bX hv))
      | (refine .fin ?_; (conv => lhs; cbv) <;> refine congrArg some ?_))
  | ((fail_if_success (refine .id ?_))
     first
      | (rw [seedR_no (by assumption)]; subst ho; rfl)
      | (have hq := (okM_iff.1 (by assumption)).size; subst ho; rw [seedR_yes (by assumption)]; simp (disch := omega) only [std, wI, len_eNd]; rfl)
      | assumption))
theorem impl_FactsOk_0.ans {xa xb : Option (List D → Option D)} (o : Std) (ho : o = std) : Ans (env xa xb) 129 [.sl .ro 0 []] (.bool (true)) := by
 refine Ans.mkA ho _ rfl rfl ?_
 repeat' (first
  | (refine .id ?_
     (try (conv => arg 2; cbv))
     first
      | (refine .indF (fun m_ s_ => ∃ (a3 : Int) (tk : List Nat), s_ = ⟨[.sl .ro 0 [], Jk, Jk, iX a3] ++ List.replicate 20 Jk, [], [], tk⟩ ∧ (1 ≤ a3) ∧ 0 ≤ m_) _ _ ⟨_, _, by subst ho; rfl, ?_, Nat.le_refl _⟩ ?_
         rotate_right
         rintro m_ _ ⟨a3, tk, rfl, hIa, hka⟩ iha
         refine .unloopA ho ?_
         repeat' (first
          | (refine .id ?_
             (try (conv => arg 2; cbv))
             first
              | (refine .test (fun hr => ?_) (fun hr => ?_) <;> (have hb := hr) <;> (try simp (disch := omega) only [ho, std, wI, lenE, nrm] at hb) <;> (try (exfalso; first | contradiction | omega | exact hb rfl)))
              | (exfalso; have hz : (([] : Box).length : Int) = 0 := rfl; omega)
              | (refine .fin ?_; (conv => lhs; cbv) <;> refine congrArg some ?_))
          | ((fail_if_success (refine .id ?_))
             first
              | omega
              | (subst ho; rfl)))))
  | ((fail_if_success (refine .id ?_))
     first
      | fail))
theorem impl_FactAdd.ans {xa xb : Option (List D → Option D)} (o : Std) (ho : o = std) (l : List Fc) (f_k : Int) (f_n : Int) (f_c : Int) (f_v_k : Int) (f_v_n : Int) (f_v_c : Int) (h0 : l.length ≤ 1048576) : Ans (env xa xb) 131 [rFc o l, .agg [iX f_k, iX f_n, iX f_c, iX f_v_k, iX f_v_n, iX f_v_c]] (rFc o (faM l (⟨f_k, f_n, f_c, ⟨f_v_k, f_v_n, f_v_c⟩⟩ : Fc))) := by
 refine Ans.mkA ho _ rfl rfl ?_
 have hp := posF_le l (⟨f_k, f_n, f_c, ⟨f_v_k, f_v_n, f_v_c⟩⟩ : Fc)
 repeat' (first
  | (refine .id ?_
     (try (conv => arg 2; cbv))
     first
      | refine .testT ?_
      | refine .testF ?_
      | refine .t1 ?_
      | refine .t0 ?_
      | refine .tN1 ho ?_
      | refine .tN0 ho ?_
      | (refine .test (fun hr => ?_) (fun hr => ?_) <;> (have hb := hr) <;> (try simp (disch := omega) only [ho, std, wI, lenE, nrm] at hb) <;> (try (exfalso; first | contradiction | omega | exact hb rfl)))
      | (refine .pE (β := Bool) .bool (as' := [rFc o _]) (impl_FactsOk.ans o ho _ ?_) ?_; rotate_left 1; rintro (_ | _) hv <;> (try simp only [dE] at hv) <;> (try first | contradiction | exact bX hv) <;> (try have hu : Up l := (of_decide_eq_true hv).1))
      | (refine .pE (β := Bool) .bool (as' := [rFc o _, .agg [iX _, iX _, iX _, iX _, iX _, iX _]]) (impl_has.ans o ho _ _ _ _ _ _ _ ?_ ?_) ?_; rotate_left 2; rintro (_ | _) hv <;> (try simp only [dE] at hv) <;> (try first | contradiction | exact bX hv))
      | (refine .pE (β := Int) (fun v => iX v) (as' := [rFc o _, .agg [iX _, iX _, iX _, iX _, iX _, iX _]]) (impl_factAt.ans o ho _ _ _ _ _ _ _ ?_ ?_) ?_; rotate_left 2; rintro v hv)
      | (refine .needD ho (by kernel_rfl) ?_)
      | (refine .need ?_ ?_)
      | (refine .app1 ?_ (fun t' tk' hl' => ?_))
      | (refine .fin ?_; (conv => lhs; cbv) <;> refine congrArg some ?_))
  | ((fail_if_success (refine .id ?_))
     first
      | (exact Lv.cap _)
      | (subst ho; exact Lv.nil)
      | (subst ho; refine congrArg (D.sl Tok.ro 6) ?_; rw [fa_no (.inl (by assumption))]; simp [std]; done)
      | (subst ho; refine congrArg (D.sl Tok.ro 6) ?_; rw [fa_no (.inr (by assumption))]; simp [std]; done)
      | (subst ho; refine congrArg (D.sl Tok.ro 6) ?_; rw [fa_has (by assumption) (by assumption)]; simp [std]; done)
      | (subst ho; refine congrArg (D.sl Tok.ro 6) ?_; rw [fa_new (by assumption) (by assumption) (by assumption) hv]; simp [std, eFc, cFc, List.map_take, List.map_drop, List.take_of_length_le]; done)
      | (subst ho; simp [std, len_eFc]; omega)
      | assumption
      | omega
      | (subst ho; simpa [std, lenE] using hl')))
theorem impl_solve.ans {ga gb : List D → Option D} (o : Std) (ho : o = std) (l : List Nd) (dp : Int) (h0 : PassSpec ga) (h1 : FreeSpec gb) (h2 : Sz l) (h3 : l.length ≤ 1048576) : AnsP (env (some ga) (some gb)) 101 [rNd o l, iX dp, .sl .nw 0 []] (fun d_ => ∃ (rq : List Fc × Bool) (nq : Int), d_ = .tup [.sl .nw 6 (o.bx fun _ => eFc ((rq.1, nq, rq.2)).1), iX ((rq.1, nq, rq.2)).2.1, .bool ((rq.1, nq, rq.2)).2.2] ∧ (rq = solveR l dp)) := by
 refine AnsP.mkA ho _ rfl rfl ?_
 repeat' (first
  | (refine .id ?_
     (try (conv => arg 2; cbv))
     first
      | refine .testT ?_
      | refine .t1 ?_
      | refine .t0 ?_
      | refine .tN1 ho ?_
      | refine .tN0 ho ?_
      | (refine .test (fun hr => ?_) (fun hr => ?_) <;> (have hb := hr) <;> (try simp (disch := omega) only [ho, std, wI, lenE, nrm] at hb) <;> (try (exfalso; first | contradiction | omega | exact hb rfl)))
      | (refine .emp ho ?_)
      | (refine .pE (β := Bool) .bool (as' := [rNd o _, iX _]) (impl_FlowOk.ans o ho _ _ ?_ ?_ ?_) ?_; rotate_left 3; rintro (_ | _) hv <;> (try simp only [dE] at hv) <;> (try first | contradiction | exact bX hv) <;> (try have hst := solve_start hv; try have hC := flowB_clo hv; try have hk := okM_iff.2 hC.ok))
      | (refine .pE (β := Bool) .bool (as' := [.sl .ro 0 []]) (impl_FactsOk_0.ans o ho) ?_; rintro (_ | _) hv <;> (try simp only [dE] at hv) <;> (try first | contradiction | exact bX hv))
      | (refine .pE (β := List Fc) (rFc o) (as' := [rNd o _]) (impl_Seed.ans o ho _ ?_ ?_) ?_; rotate_left 2; rintro v hv; (rw [seedR_yes hk] at hv; have hsd := hv; have hsl : v.length = 1 := (by rw [← hv]; rfl)))
      | (refine .need ?_ ?_)
      | (refine .app1 ?_ (fun t' tk' hl' => ?_))
      | (refine .indF (fun m_ s_ => ∃ (a28 : List Fc) (a29 : Int) (a30 : Int) (ta28 : Tok) (tk : List Nat) (tq : Tok) (bq : Box), s_ = ⟨[rNd o l, iX dp, Jk, Jk, Jk, Jk, Jk, Jk, Jk, .sl tq 6 bq, Jk, Jk, Jk, Jk, Jk, Jk, Jk, Jk, Jk, Jk, Jk, Jk, Jk, Jk, Jk, Jk, Jk, Jk, .sl ta28 6 (o.bx fun _ => eFc a28), iX a29, iX a30] ++ List.replicate 35 Jk, [], [], tk⟩ ∧ (bq = (o.bx fun _ => eFc ((seedM l).take a30.toNat)) ∧ a28 = seedM l ∧ a29 = 1 ∧ 0 ≤ a30 ∧ a30 ≤ 1) ∧ (1 - a30).toNat ≤ m_) _ _ ⟨_, _, _, _, _, _, _, by subst ho; rfl, ?_, Nat.le_refl _⟩ ?_
         rotate_right
         rintro m_ _ ⟨a28, a29, a30, ta28, tk, tq, bq, rfl, hIa, hka⟩ iha
         obtain ⟨rfl, i0, i5, i1, i2⟩ := hIa; have hal : a28.length = 1 := (by rw [i0]; rfl); have hts := List.length_take_le a30.toNat (seedM l); have hsm : (seedM l).length = 1 := rfl; refine .unloopA ho ?_
         repeat' (first
          | (refine .id ?_
             (try (conv => arg 2; cbv))
             first
              | refine .tN0 ho ?_
              | (refine .test (fun hr => ?_) (fun hr => ?_) <;> (have hb := hr) <;> (try simp (disch := omega) only [ho, std, wI, lenE, nrm] at hb) <;> (try (exfalso; first | contradiction | omega | exact hb rfl)))
              | (refine .pE (β := List Fc) (rFc o) (as' := [rFc o _, .agg [iX _, iX _, iX _, iX _, iX _, iX _]]) (impl_FactAdd.ans o ho _ _ _ _ _ _ _ ?_) ?_; rotate_left 1; rintro v hv)
              | (refine .pE (β := Bool) .bool (as' := [rNd o _, rFc o _]) (impl_factsFit.ans o ho _ _ ?_ ?_) ?_; rotate_left 2; rintro (_ | _) hv <;> (try simp only [dE] at hv) <;> (try first | contradiction | exact bX hv))
              | (refine .pE (β := List Bd) (rBd o) (as' := [rNd o _]) (impl_binders.ans o ho _ ?_) ?_; rotate_left 1; rintro v hv)
              | (refine .fetchXFc ho ?_ ?_ (fun y hy => ?_); rotate_left 2; rcases y with ⟨yk, yn, yc, yvk, yvn, yvc⟩; (have hyf := hy; rw [i0] at hyf))
              | (refine .indF (fun m_ s_ => ∃ (b9 : List Fc) (b12 : List Bd) (b44 : Int) (tb9 tb12 : Tok) (tk : List Nat), s_ = ⟨[rNd o l, iX dp, Jk, Jk, Jk, Jk, Jk, Jk, Jk, .sl tb9 6 (o.bx fun _ => eFc b9), Jk, Jk, .sl tb12 2 (o.bx fun _ => eBd b12), Jk, Jk, Jk, Jk, Jk, Jk, Jk, Jk, Jk, Jk, Jk, Jk, Jk, Jk, Jk, Jk, Jk, Jk, Jk, Jk, Jk, Jk, Jk, Jk, Jk, Jk, Jk, Jk, Jk, Jk, Jk, iX b44] ++ List.replicate 21 Jk, [], [], tk⟩ ∧ (b12 = bindsM l ∧ 0 ≤ b44 ∧ b44 ≤ 400 ∧ Fit l b9 ∧ b9.length ≤ 2500 ∧ solveN l dp (400 - b44).toNat b9 = solveO l dp) ∧ (400 - b44).toNat ≤ m_) _ _ ⟨_, _, _, _, _, _, by subst ho; rfl, ?_, Nat.le_refl _⟩ ?_
                 rotate_right
                 rintro m_ _ ⟨b9, b12, b44, tb9, tb12, tk, rfl, hIb, hkb⟩ ihb
                 obtain ⟨j0, j1, j2, j3, j4, j5⟩ := hIb; refine .unloopA ho ?_
                 repeat' (first
                  | (refine .id ?_
                     (try (conv => arg 2; cbv))
                     first
                      | refine .tN1 ho ?_
                      | refine .tN0 ho ?_
                      | (refine .test (fun hr => ?_) (fun hr => ?_) <;> (have hb := hr) <;> (try simp (disch := omega) only [ho, std, wI, lenE, nrm] at hb) <;> (try (exfalso; first | contradiction | omega | exact hb rfl)))
                      | (refine .extE (r := (passM l dp b9, decide ((passM l dp b9).length ≤ 2500))) (fun v => .tup [.sl .nw 6 (o.bx fun _ => eFc v.1), .bool v.2]) (g := ga) (as' := [.sl .ro 7 (eNd l), .sl .ro 2 (eBd (bindsM l)), iX dp, .sl .ro 6 (eFc b9)]) (by rfl) (by subst ho; rw [← j0]; rfl) (by subst ho; exact h0 l dp b9 hC j3 j4) ?_; rintro ⟨v, (_ | _)⟩ hv <;> simp only [Prod.mk.injEq, decide_eq_true_eq, decide_eq_false_iff_not] at hv <;> obtain ⟨hv1, hv2⟩ := hv <;> rw [hv1] at hv2 <;> have hFv : Fit l v := (by rw [← hv1]; exact passM_fit hC j3 dp))
                      | (refine ihb _ _ ?_ ⟨_, _, _, _, _, _, by subst ho; rfl, ?_, Nat.le_refl _⟩)
                      | (refine .fin ?_; refine ⟨_, by (conv => lhs; cbv) <;> rfl, ?_⟩))
                  | ((fail_if_success (refine .id ?_))
                     first
                      | (exact ⟨([], false), _, by subst ho; rfl, (solveR_no (solve_many (by omega) j5 hv1 (by omega))).symm⟩)
                      | (exact ⟨(v, true), _, by subst ho; rfl, (solveR_yes (solve_same (by omega) j5 hv1 (by omega) (by omega))).symm⟩)
                      | (exact ⟨([], false), _, by subst ho; rfl, (solveR_no (solve_end (by omega) j5)).symm⟩)
                      | (dsimp only; simp (disch := omega) only [ho, std, wI]; exact ⟨j0, by omega, by omega, hFv, by omega, solve_next (by omega) j5 hv1 (by omega) (by omega)⟩)
                      | (have e := take_allG (l := seedM l) (i := a30) (by omega); rw [e]; exact ⟨hv.symm, by omega, by omega, hst.1, hst.2.1, hst.2.2⟩)
                      | (subst ho; simp (disch := omega) only [std, wI, tdiv2, tdivN, lenE] <;> first | done | rfl | omega))))
              | (refine iha _ _ ?_ ⟨_, _, _, _, _, _, _, by subst ho; rfl, ?_, Nat.le_refl _⟩))
          | ((fail_if_success (refine .id ?_))
             first
              | (subst ho; exact ⟨rfl, hsd.symm, by simp [std, len_eFc, hsl], Int.le_refl _, by omega⟩)
              | (exact hC.ok)
              | (exact take_allG (by omega))
              | (have e := fa_seed i1 (by omega) hyf hv; subst ho; refine ⟨?_, i0, i5, ?_⟩ <;> simp (disch := omega) only [std, wI] <;> first | omega | rw [← e])
              | assumption
              | omega
              | (subst ho; simp (disch := omega) only [std, wI, tdiv2, tdivN, lenE] <;> first | done | rfl | omega))))
      | (refine .indF (fun m_ s_ => ∃ (b9 : List Fc) (b12 : List Bd) (b44 : Int) (tb9 tb12 : Tok) (tk : List Nat), s_ = ⟨[rNd o l, iX dp, Jk, Jk, Jk, Jk, Jk, Jk, Jk, .sl tb9 6 (o.bx fun _ => eFc b9), Jk, Jk, .sl tb12 2 (o.bx fun _ => eBd b12), Jk, Jk, Jk, Jk, Jk, Jk, Jk, Jk, Jk, Jk, Jk, Jk, Jk, Jk, Jk, Jk, Jk, Jk, Jk, Jk, Jk, Jk, Jk, Jk, Jk, Jk, Jk, Jk, Jk, Jk, Jk, iX b44] ++ List.replicate 21 Jk, [], [], tk⟩ ∧ (b12 = bindsM l ∧ 0 ≤ b44 ∧ b44 ≤ 400 ∧ Fit l b9 ∧ b9.length ≤ 2500 ∧ solveN l dp (400 - b44).toNat b9 = solveO l dp) ∧ (400 - b44).toNat ≤ m_) _ _ ⟨_, _, _, _, _, _, by subst ho; rfl, ?_, Nat.le_refl _⟩ ?_
         rotate_right
         rintro m_ _ ⟨b9, b12, b44, tb9, tb12, tk, rfl, hIb, hkb⟩ ihb
         obtain ⟨j0, j1, j2, j3, j4, j5⟩ := hIb; refine .unloopA ho ?_
         repeat' (first
          | (refine .id ?_
             (try (conv => arg 2; cbv))
             first
              | (refine .indF (fun m_ s_ => ∃ (a28 : List Fc) (a29 : Int) (a30 : Int) (ta28 : Tok) (tk : List Nat) (tq : Tok) (bq : Box), s_ = ⟨[rNd o l, iX dp, Jk, Jk, Jk, Jk, Jk, Jk, Jk, .sl tq 6 bq, Jk, Jk, Jk, Jk, Jk, Jk, Jk, Jk, Jk, Jk, Jk, Jk, Jk, Jk, Jk, Jk, Jk, Jk, .sl ta28 6 (o.bx fun _ => eFc a28), iX a29, iX a30] ++ List.replicate 35 Jk, [], [], tk⟩ ∧ (bq = (o.bx fun _ => eFc ((seedM l).take a30.toNat)) ∧ a28 = seedM l ∧ a29 = 1 ∧ 0 ≤ a30 ∧ a30 ≤ 1) ∧ (1 - a30).toNat ≤ m_) _ _ ⟨_, _, _, _, _, _, _, by subst ho; rfl, ?_, Nat.le_refl _⟩ ?_
                 rotate_right
                 rintro m_ _ ⟨a28, a29, a30, ta28, tk, tq, bq, rfl, hIa, hka⟩ iha
                 obtain ⟨rfl, i0, i5, i1, i2⟩ := hIa; have hal : a28.length = 1 := (by rw [i0]; rfl); have hts := List.length_take_le a30.toNat (seedM l); have hsm : (seedM l).length = 1 := rfl; refine .unloopA ho ?_
                 repeat' (first
                  | (refine .id ?_
                     (try (conv => arg 2; cbv))
                     first
                      | fail)
                  | ((fail_if_success (refine .id ?_))
                     first
                      | fail))))
          | ((fail_if_success (refine .id ?_))
             first
              | fail)))
      | (refine .fin ?_; refine ⟨_, by (conv => lhs; cbv) <;> rfl, ?_⟩))
  | ((fail_if_success (refine .id ?_))
     first
      | (subst ho; exact Lv.nil)
      | (exact ⟨([], false), _, by subst ho; rfl, (solveR_no (solveO_flow (by assumption))).symm⟩)
      | assumption
      | (subst ho; rfl)))
end Go.Mach
