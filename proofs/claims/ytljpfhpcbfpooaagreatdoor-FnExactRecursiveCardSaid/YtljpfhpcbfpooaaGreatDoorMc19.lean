/- What the statements share: part 19 of a proof by an executable machine over the program's code. -/
import Derived.Test.YtljpfhpcbfpooaaGreatDoorMc18
set_option linter.unusedVariables false
set_option linter.unusedSimpArgs false
set_option maxRecDepth 100000
set_option maxHeartbeats 6000000
namespace Go.Mach
open Go Go.RowKit
section
def valD : D → Value
 | .int k n => .int k n
 | .bool b => .bool b
 | .str s => .string s
 | _ => undef
def D.flt : D → Bool
 | .int .. | .bool _ | .str _ => true
 | _ => false
def Flt (z : Nat) (es : Box) : Prop := 0 < z ∧ ∀ e ∈ es, e.length = z ∧ ∀ c ∈ e, D.flt c = true
theorem flt_rd {σ w d v} (hd : D.flt d = true) (h : RD σ w d v) : v = valD d := by
 cases d <;> first | (simp [D.flt] at hd; done) | (cases h; rfl)
theorem flt_mk {σ w d} (hd : D.flt d = true) : RD σ w d (valD d) := by
 cases d <;> first | (simp [D.flt] at hd; done) | exact .int _ _ | exact .bool _ | exact .str _
theorem flt_cell {d} (hd : D.flt d = true) : D.cell d = true := by
 cases d <;> first | (simp [D.flt] at hd; done) | rfl
inductive Row (lo hi : Nat) (w : World) (z : Nat) (es : Box) : Value → Prop
 | nil0 (h : es = []) : Row lo hi w z es (.slice none 0 0)
 | empty (b o c : Nat) (h : es = []) : Row lo hi w z es (.slice (some ⟨b, o, none⟩) 0 c)
 | row (b o c : Nat) (h : es ≠ []) (h1 : lo ≤ b) (h2 : b < hi) (hc : es.length ≤ c) (hw : ∀ i j, i < es.length → j < z → w.cell? ⟨b, o + i * z + j, none⟩ = some (valD ((es.getD i []).getD j .junk))) : Row lo hi w z es (.slice (some ⟨b, o, none⟩) es.length c)
def Unf (w : World) (z : Nat) (es : Box) (v : Value) : Prop := ∀ b o l c, v = .slice (some ⟨b, o, none⟩) l c → ∀ j, j < es.length * z → w.frozen? ⟨b, o + j, none⟩ = false
variable {lo hi : Nat} {w w' : World} {z : Nat} {es : Box} {v : Value} {σ : Nat → Nat}
theorem Row.keep (h : Row lo hi w z es v) (hs : ∀ b, lo ≤ b → b < hi → w'.heap[b]? = w.heap[b]?) : Row lo hi w' z es v := by
 cases h with
 | nil0 h => exact .nil0 h
 | empty b o c h => exact .empty b o c h
 | row b o c h h1 h2 hc hw => exact .row b o c h h1 h2 hc fun i j hi hj => (World.cell?_of_block (a := ⟨b, _, none⟩) (hs b h1 h2)).trans (hw i j hi hj)
theorem Row.wide {lo' hi' : Nat} (h : Row lo hi w z es v) (hl : lo' ≤ lo) (hh : hi ≤ hi') : Row lo' hi' w z es v := by
 cases h with
 | nil0 h => exact .nil0 h
 | empty b o c h => exact .empty b o c h
 | row b o c h h1 h2 hc hw => exact .row b o c h (by omega) (by omega) hc hw
theorem Row.rd (h : Row lo hi w z es v) (hf : Flt z es) : ∃ σ, RD σ w (.sl .ro z es) v ∧ ∀ b, hi ≤ b → σ b = 0 := by
 cases h with
 | nil0 h => subst h; exact ⟨fun _ => 0, .slN _ _, fun _ _ => rfl⟩
 | empty b o c h => subst h; exact ⟨fun _ => 0, .sl .ro z [] b o c (fun _ _ => undef) (by simp) hf.1 (by simp) (by simp) (Nat.zero_le _) (fun h => absurd rfl h) (fun i j hi => by simp at hi) (fun i j hi => by simp at hi), fun _ _ => rfl⟩
 | row b o c h h1 h2 hc hw =>
   refine ⟨fun k => if k = b then o + es.length * z else 0, .sl .ro z es b o c (fun i j => valD ((es.getD i []).getD j .junk)) (by simp) hf.1 (fun e he => (hf.2 e he).1) (fun e he c hc => flt_cell ((hf.2 e he).2 c hc)) hc (fun _ => ?_) hw (fun i j hi hj => ?_), fun k hk => by show (if _ then _ else _) = _; rw [if_neg (by omega)]⟩
   · show _ ≤ (if b = b then _ else _); rw [if_pos rfl]; exact Nat.le_refl _
   · refine flt_mk ?_
     have hm : es.getD i [] ∈ es := by rw [List.getD_eq_getElem?_getD, List.getElem?_eq_getElem hi]; exact List.getElem_mem hi
     exact (hf.2 _ hm).2 _ (mem_getD (by rw [(hf.2 _ hm).1]; exact hj))
theorem Row.of_rd {t : Tok} (h : RD σ w (.sl t z es) v) (hf : Flt z es) (hbig : ∀ b, hi ≤ b → σ b = 0) (hlo : ∀ b o l c, v = .slice (some ⟨b, o, none⟩) l c → lo ≤ b) : Row lo hi w z es v := by
 cases h with
 | slN => exact .nil0 rfl
 | sl _ _ _ b o c f ht hz hl hc hcap hs hw h =>
   by_cases he : es = []
   · subst he; exact .empty b o c rfl
   · have h1 := hs he
     have h2 : 0 < es.length := List.length_pos_iff.2 he
     have h3 : 0 < es.length * z := Nat.mul_pos h2 hf.1
     refine .row b o c he (hlo b o _ c rfl) (Nat.lt_of_not_le fun hb => by rw [hbig b hb] at h1; omega) hcap fun i j hi hj => ?_
     rw [hw i j hi hj]
     have hm : es.getD i [] ∈ es := by rw [List.getD_eq_getElem?_getD, List.getElem?_eq_getElem hi]; exact List.getElem_mem hi
     rw [flt_rd ((hf.2 _ hm).2 _ (mem_getD (by rw [(hf.2 _ hm).1]; exact hj))) (h i j hi hj)]
theorem Row.shape (h : Row lo hi w z es v) : ∃ a c, v = .slice a es.length c := by
 cases h with
 | nil0 h => subst h; exact ⟨_, _, rfl⟩
 | empty b o c h => subst h; exact ⟨_, _, rfl⟩
 | row b o c => exact ⟨_, _, rfl⟩
def Stay (w w' : World) : Prop := Below w.heap.size w w' ∧ w.drawn ≤ w'.drawn
theorem Stay.refl (w : World) : Stay w w := ⟨Below.refl _ _, Nat.le_refl _⟩
theorem Stay.trans {w1 w2 w3 : World} (h : Stay w1 w2) (k : Stay w2 w3) : Stay w1 w3 := ⟨h.1.trans (k.1.mono h.1.size), Nat.le_trans h.2 k.2⟩
theorem Row.stay (h : Row lo hi w z es v) (hh : hi ≤ w.heap.size) (hs : Stay w w') : Row lo hi w' z es v := h.keep fun b _ hb => hs.1.block b (by omega)
theorem Unf.stay (h : Unf w z es v) (hr : Row lo hi w z es v) (hh : hi ≤ w.heap.size) (hs : Stay w w') : Unf w' z es v := by
 intro b o l c hv j hj
 have h0 := h b o l c hv j hj
 cases hr with
 | nil0 h => cases hv
 | empty b' o' c' he => subst he; simp at hj
 | row b' o' c' he h1 h2 =>
   injection hv with hv _ _
   injection hv with hv
   injection hv with q1 q2 _
   subst q1
   rw [World.frozen?_of_block (a := ⟨b', _, none⟩) (hs.1.block b' (by omega))]
   exact h0
theorem common {n : Nat} {B : Nat} {p : Nat → (Nat → Nat) → Prop} (hm : ∀ i σ σ', (∀ b, σ b ≤ σ' b) → p i σ → p i σ') : (∀ i, i < n → ∃ σ : Nat → Nat, p i σ ∧ ∀ b, B ≤ b → σ b = 0) → ∃ σ : Nat → Nat, (∀ i, i < n → p i σ) ∧ ∀ b, B ≤ b → σ b = 0 := by
 induction n with
 | zero => exact fun _ => ⟨fun _ => 0, fun i hi => by omega, fun _ _ => rfl⟩
 | succ n ih =>
   intro h
   obtain ⟨σ1, h1, z1⟩ := ih fun i hi => h i (by omega)
   obtain ⟨σ2, h2, z2⟩ := h n (by omega)
   refine ⟨fun b => max (σ1 b) (σ2 b), fun i hi => ?_, fun b hb => by show max (σ1 b) (σ2 b) = 0; rw [z1 b hb, z2 b hb]; rfl⟩
   by_cases he : i < n
   · exact hm i σ1 _ (fun b => Nat.le_max_left _ _) (h1 i he)
   · have : i = n := by omega
     subst this
     exact hm i σ2 _ (fun b => Nat.le_max_right _ _) h2
def Arg (w : World) (d : D) (v : Value) : Prop := d.free = true ∧ ∃ σ, RD σ w d v ∧ ∀ b, w.heap.size ≤ b → σ b = 0
theorem Arg.int {k n} : Arg w (.int k n) (.int k n) := ⟨rfl, fun _ => 0, .int _ _, fun _ _ => rfl⟩
theorem Arg.row (h : Row lo hi w z es v) (hh : hi ≤ w.heap.size) (hf : Flt z es) : Arg w (.sl .ro z es) v := by
 obtain ⟨σ, h1, h2⟩ := h.rd hf
 exact ⟨rfl, σ, h1, fun b hb => h2 b (by omega)⟩
theorem data_calls {P : Program} {E : Env} (hE : EnvOk P E) {f : FuncId} {as_ : List D} {d : D} (h : Ans E f as_ d) {vs : Array Value} (hl : vs.size = as_.length) (hr : ∀ i, i < as_.length → Arg w (as_.getD i .junk) (vs.getD i undef)) :
  Calls P f vs w fun e w' => ∃ v σ', e = .returned v ∧ RD σ' w' d v ∧ NwD w.heap.size σ' w' d v ∧ Stay w w' ∧ ∀ b, w'.heap.size ≤ b → σ' b = 0 := by
 obtain ⟨σ, h1, h2⟩ := common (n := as_.length) (B := w.heap.size) (p := fun i σ => RD σ w (as_.getD i .junk) (vs.getD i undef)) (fun i σ σ' hs hr => hr.mono hs fun _ _ _ => rfl) (fun i hi => (hr i hi).2)
 refine (ans_calls hE h hl (fun i hi => .inl ⟨(hr i hi).1, h1 i hi⟩) h2).mono ?_
 rintro e w' ⟨v, σ', rfl, a, b, c, _, d⟩
 exact ⟨v, σ', rfl, a, b, c, d⟩
theorem new_calls {P : Program} {E : Env} (hE : EnvOk P E) {f : FuncId} {as_ : List D} (h : Ans E f as_ (.sl .nw z es)) (hf : Flt z es) {vs : Array Value} (hl : vs.size = as_.length) (hr : ∀ i, i < as_.length → Arg w (as_.getD i .junk) (vs.getD i undef)) :
  Calls P f vs w fun e w' => ∃ v, e = .returned v ∧ Row w.heap.size w'.heap.size w' z es v ∧ Unf w' z es v ∧ Stay w w' := by
 refine (data_calls hE h hl hr).mono ?_
 rintro e w' ⟨v, σ', rfl, h1, h2, h3, h4⟩
 exact ⟨v, rfl, .of_rd h1 hf h4 (fun b o l c hv => (h2 b o l c hv).1), fun b o l c hv j hj => ((h2 b o l c hv).2 j hj).2, h3⟩
theorem row_calls {P : Program} {E : Env} (hE : EnvOk P E) {f : FuncId} {as_ : List D} {t : Tok} (h : Ans E f as_ (.sl t z es)) (hf : Flt z es) {vs : Array Value} (hl : vs.size = as_.length) (hr : ∀ i, i < as_.length → Arg w (as_.getD i .junk) (vs.getD i undef)) :
  Calls P f vs w fun e w' => ∃ v, e = .returned v ∧ Row 0 w'.heap.size w' z es v ∧ Stay w w' := by
 refine (data_calls hE h hl hr).mono ?_
 rintro e w' ⟨v, σ', rfl, h1, _, h3, h4⟩
 exact ⟨v, rfl, .of_rd h1 hf h4 (fun _ _ _ _ _ => Nat.zero_le _), h3⟩
theorem int_calls {P : Program} {E : Env} (hE : EnvOk P E) {f : FuncId} {as_ : List D} {k n} (h : Ans E f as_ (.int k n)) {vs : Array Value} (hl : vs.size = as_.length) (hr : ∀ i, i < as_.length → Arg w (as_.getD i .junk) (vs.getD i undef)) :
  Calls P f vs w fun e w' => e = .returned (.int k n) ∧ Stay w w' := by
 refine (data_calls hE h hl hr).mono ?_
 rintro e w' ⟨v, σ', rfl, h1, _, h3, _⟩
 cases h1; exact ⟨rfl, h3⟩
theorem bool_calls {P : Program} {E : Env} (hE : EnvOk P E) {f : FuncId} {as_ : List D} {b} (h : Ans E f as_ (.bool b)) {vs : Array Value} (hl : vs.size = as_.length) (hr : ∀ i, i < as_.length → Arg w (as_.getD i .junk) (vs.getD i undef)) :
  Calls P f vs w fun e w' => e = .returned (.bool b) ∧ Stay w w' := by
 refine (data_calls hE h hl hr).mono ?_
 rintro e w' ⟨v, σ', rfl, h1, _, h3, _⟩
 cases h1; exact ⟨rfl, h3⟩
def Mark (lo hi : Nat) (w w' : World) : Prop := w'.os = w.os ∧ w'.tape = w.tape ∧ (w'.output = w.output ∧ w.drawn ≤ w'.drawn) ∧ w.heap.size ≤ w'.heap.size ∧ ∀ b, b < w.heap.size → (b < lo ∨ hi ≤ b) → w'.heap[b]? = w.heap[b]?
theorem Row.mark {a b : Nat} (h : Row lo hi w z es v) (hh : hi ≤ w.heap.size) (hs : Mark a b w w') (hd : hi ≤ a ∨ b ≤ lo) : Row lo hi w' z es v := h.keep fun k h1 h2 => hs.2.2.2.2 k (by omega) (by omega)
theorem Unf.mark {a b : Nat} (h : Unf w z es v) (hr : Row lo hi w z es v) (hh : hi ≤ w.heap.size) (hs : Mark a b w w') (hd : hi ≤ a ∨ b ≤ lo) : Unf w' z es v := by
 intro b' o l c hv j hj
 have h0 := h b' o l c hv j hj
 cases hr with
 | nil0 h => cases hv
 | empty b1 o' c' he => subst he; simp at hj
 | row b1 o' c' he h1 h2 =>
   injection hv with hv _ _
   injection hv with hv
   injection hv with q1 q2 _
   subst q1
   rw [World.frozen?_of_block (a := ⟨b1, _, none⟩) (hs.2.2.2.2 b1 (by omega) (by omega))]
   exact h0
theorem Mark.below {B a b : Nat} (hs : Mark a b w w') (hB : B ≤ a) (hw : B ≤ w.heap.size) : Below B w w' := ⟨hs.1, hs.2.1, hs.2.2.1.1, hs.2.2.2.1, fun k hk => hs.2.2.2.2 k (by omega) (.inl (by omega))⟩
theorem mark_calls {P : Program} {E : Env} (hE : EnvOk P E) {f : FuncId} {k : Int} {kr : Int} {R : Box → Prop} (h0 : Ans E f [.sl .ro z [], .int .i64 k] (.int .i64 k)) (hk0 : es = [] → kr = k ∧ R [])
  (h : es ≠ [] → Gns E f [.asl (.out 0) z es.length, .int .i64 k] [es] [] fun ds out tk loc => ds = [.int .i64 kr] ∧ ∃ bx, out = [bx] ∧ R bx) (hf : Flt z es) (hRf : ∀ bx, R bx → Flt z bx ∧ bx.length = es.length)
  (hrow : Row lo hi w z es v) (hun : Unf w z es v) (hh : hi ≤ w.heap.size) :
  Calls P f #[v, .int .i64 k] w fun e w' => ∃ bx, R bx ∧ e = .returned (.int .i64 kr) ∧ Row lo hi w' z bx v ∧ Mark lo hi w w' := by
 have hnil : es = [] → Calls P f #[v, .int .i64 k] w fun e w' => ∃ bx, R bx ∧ e = .returned (.int .i64 kr) ∧ Row lo hi w' z bx v ∧ Mark lo hi w w' := fun he => by
  obtain ⟨rfl, hR⟩ := hk0 he
  refine (int_calls hE h0 (vs := #[v, .int .i64 kr]) rfl ?_).mono ?_
  · intro i hi'
    match i, hi' with
    | 0, _ => subst he; exact .row hrow hh hf
    | 1, _ => exact .int
  · rintro e w' ⟨rfl, hs⟩
    refine ⟨[], hR, rfl, ?_, hs.1.os, hs.1.tape, ⟨hs.1.output, hs.2⟩, hs.1.size, fun b hb _ => hs.1.block b hb⟩
    subst he; exact hrow.stay hh hs
 cases hrow with
 | nil0 he => exact hnil he
 | empty b o c he => exact hnil he
 | row b o c he h1 h2 hc hw =>
   obtain ⟨fi, hfi, hn, hden⟩ := h he
   obtain ⟨n, ⟨ds, o1, t1, l1⟩, hrun, hds, bx, hout, hR⟩ := hden
   dsimp only at hds hout
   subst hds
   replace hrun := hrun n (Nat.le_refl _)
   have hsz : b < w.heap.size := by omega
   let F : Fx := ⟨w, [⟨b, o, z, es.length⟩], [], [], fun _ => 0, fun _ => 0, 0⟩
   let G : Gh := ⟨[], [], fun _ => 0⟩
   have hbox : BoxR F G [] w es ⟨b, o, z, es.length⟩ := ⟨rfl, hf.1, fun e he => (hf.2 e he).1, fun e he c hc => cell_atom (flt_cell ((hf.2 e he).2 c hc)), fun i j hi hj => by
    have hm : es.getD i [] ∈ es := by rw [List.getD_eq_getElem?_getD, List.getElem?_eq_getElem hi]; exact List.getElem_mem hi
    have hfl := (hf.2 _ hm).2 _ (mem_getD (by rw [(hf.2 _ hm).1]; exact hj))
    refine ⟨_, hw i j hi hj, ?_, .dat (flt_mk hfl) (.of_free (free_cell (flt_cell hfl)))⟩
    have hlt : i * z + j < es.length * z := by
     have : (i + 1) * z ≤ es.length * z := Nat.mul_le_mul_right _ hi
     rw [Nat.succ_mul] at this
     have hj' : j < z := hj
     omega
    have := hun b o _ c rfl (i * z + j) hlt
    rwa [← Nat.add_assoc] at this⟩
   have hsim : Sim F G (enterS fi [.asl (.out 0) z es.length, .int .i64 k] [es] []) { tmps := #[.slice (some ⟨b, o, none⟩) es.length c, .int .i64 k] ++ Array.replicate (fi.ntmps - 2) undef, defers := [] } w := by
    refine ⟨⟨rfl, rfl, fun i es p h => by simp [enterS] at h, fun i es' p e1 e2 => ?_, by simp [blocks, F, G], fun b' hb => ?_, fun p hp => by simp [G] at hp, rfl, fun i b _ h => by simp [G] at h, fun i b _ h => by simp [G] at h, fun p hp => rfl, fun _ _ => rfl,
     ⟨rfl, rfl, ⟨rfl, Nat.le_refl _⟩, Nat.le_refl _, fun _ _ _ _ => rfl, Ext.refl _ _ _, fun _ _ _ => rfl⟩⟩, ⟨by simp [enterS]; simp only [List.length_cons, List.length_nil] at hn; omega, fun i hi => ?_⟩, rfl⟩
    · match i, e1, e2 with
      | 0, e1, e2 =>
        simp only [enterS, List.getElem?_cons_zero, Option.some.injEq] at e1
        simp only [F, List.getElem?_cons_zero, Option.some.injEq] at e2
        subst e1 e2
        exact hbox
      | i + 1, e1, e2 => simp [enterS] at e1
    · simp only [blocks, F, G, List.map_cons, List.map_nil, List.append_nil, List.mem_singleton] at hb
      subst hb; exact hsz
    · by_cases hi2 : i < 2
      · match i, hi2 with
        | 0, _ =>
          have e1 : (enterS fi [.asl (.out 0) z es.length, .int .i64 k] [es] []).t.getD 0 .junk = .asl (.out 0) z es.length := rfl
          have e2 : (#[Value.slice (some ⟨b, o, none⟩) es.length c, .int .i64 k] ++ Array.replicate (fi.ntmps - 2) undef).getD 0 undef = .slice (some ⟨b, o, none⟩) es.length c := by rw [Array.getD_eq_getD_getElem?, Array.getElem?_append_left (by simp)]; rfl
          show Rep F G _ w _ ((#[Value.slice (some ⟨b, o, none⟩) es.length c, .int .i64 k] ++ Array.replicate (fi.ntmps - 2) undef).getD 0 undef)
          rw [e1, e2]
          exact .asl (.out 0) z es.length c b o rfl hc
        | 1, _ =>
          have e1 : (enterS fi [.asl (.out 0) z es.length, .int .i64 k] [es] []).t.getD 1 .junk = .int .i64 k := rfl
          have e2 : (#[Value.slice (some ⟨b, o, none⟩) es.length c, .int .i64 k] ++ Array.replicate (fi.ntmps - 2) undef).getD 1 undef = .int .i64 k := by rw [Array.getD_eq_getD_getElem?, Array.getElem?_append_left (by simp)]; rfl
          show Rep F G _ w _ ((#[Value.slice (some ⟨b, o, none⟩) es.length c, .int .i64 k] ++ Array.replicate (fi.ntmps - 2) undef).getD 1 undef)
          rw [e1, e2]
          exact .dat (.int _ _) (.of_free rfl)
      · have e1 : (enterS fi [.asl (.out 0) z es.length, .int .i64 k] [es] []).t.getD i .junk = .junk := by
          simp only [enterS, List.getD_eq_getElem?_getD]
          rw [List.getElem?_append_right (by simp; omega), List.getElem?_replicate]
          split <;> rfl
        rw [e1]; exact .junk _
   refine (callR_calls hE (sound hE n) hfi (as_ := [.asl (.out 0) z es.length, .int .i64 k]) hn hrun (run_done n) (vs := #[.slice (some ⟨b, o, none⟩) es.length c, .int .i64 k]) hsim).mono ?_
   rintro e w' ⟨vs', G', rfl, hinv, hvl, hvr⟩
   have hfr := hinv.fr
   match vs', hvl, hvr with
   | [v1], _, hvr =>
   have hv := hvr 0 (by simp)
   simp only [List.getD_cons_zero] at hv
   have hv := hv.int_inv
   subst hv
   obtain ⟨hbf, hbl⟩ := hRf bx hR
   refine ⟨bx, hR, rfl, ?_, hfr.os, hfr.tape, hfr.output, hfr.size, fun b' hb' hd => hfr.same b' hb' (fun p hp => ?_) (by simp [F])⟩
   · have hb1 := hinv.boxO 0 bx ⟨b, o, z, es.length⟩ (by rw [hout]; rfl) rfl
     obtain ⟨_, _, _, _, hb5⟩ := hb1
     rw [← hbl]
     refine .row b o c (fun e => he (by rw [e] at hbl; exact List.length_eq_zero_iff.1 hbl.symm)) h1 h2 (by omega) fun i j hi hj => ?_
     obtain ⟨v, k1, _, k3⟩ := hb5 i j hi hj
     have hm : bx.getD i [] ∈ bx := by rw [List.getD_eq_getElem?_getD, List.getElem?_eq_getElem hi]; exact List.getElem_mem hi
     have hfl := (hbf.2 _ hm).2 _ (mem_getD (by rw [(hbf.2 _ hm).1]; exact hj))
     rw [k1, flt_rd hfl (k3.atom_inv (cell_atom (flt_cell hfl))).1]
   · simp only [F, List.mem_singleton] at hp
     subst hp
     show b ≠ b'
     rcases hd with hd | hd <;> omega
end
end Go.Mach
namespace Go.Mach
open Go Go.RowKit Go.Proofs
theorem spec_l6Sort.ans {xa xb : Option (List D → Option D)} (o : Std) (ho : o = std) (l : List ByteArray) (s : ByteArray) (h0 : l.length ≤ 1048576) : Ans (env xa xb) 212 [rTx o l, .str s] (rTx o (sortM l s)) := by
 refine Ans.mkA ho _ rfl rfl ?_
 repeat' (first
  | (refine .id ?_
     (try (conv => arg 2; cbv))
     first
      | (refine .indF (fun m_ s_ => ∃ (ea5 : Box) (a6 : Bool) (a7 : Int) (ta5 : Tok) (tk : List Nat), s_ = ⟨[rTx o l, .str s, Jk, Jk, Jk, .sl ta5 1 ea5, .bool a6, iX a7] ++ List.replicate 42 Jk, [], [], tk⟩ ∧ Lv tk ta5 ea5.length ∧ ea5 = (o.bx fun _ => eB ((l6S s (l.take a7.toNat)).1)) ∧ (a6 = (l6S s (l.take a7.toNat)).2 ∧ 0 ≤ a7 ∧ a7 ≤ l.length ∧ anyS s (l.take a7.toNat) = false) ∧ (l.length - a7).toNat ≤ m_) _ _ ⟨_, _, _, _, _, by subst ho; rfl, ?_, ?_, ?_, Nat.le_refl _⟩ ?_
         rotate_right
         rintro m_ _ ⟨ea5, a6, a7, ta5, tk, rfl, hla0, rfl, hIa, hka⟩ iha
         obtain ⟨i0, i1, i2, i3⟩ := hIa; have hw := len_l6S s (l.take a7.toNat); have hw2 := List.length_take_le a7.toNat l; have hw3 := Bool.toNat_le (l6S s (l.take a7.toNat)).2; refine .unloopA ho ?_
         repeat' (first
          | (refine .id ?_
             (try (conv => arg 2; cbv))
             first
              | refine .testF ?_
              | refine .t1 ?_
              | refine .t0 ?_
              | (refine .test (fun hr => ?_) (fun hr => ?_) <;> (have hb := hr) <;> (try simp (disch := omega) only [ho, std, wI, lenE, nrm] at hb) <;> (try (exfalso; first | contradiction | omega | exact hb rfl)))
              | (refine .fetchYB ho ?_ ?_ (by with_reducible assumption) ?_)
              | (refine .fetchXB ho ?_ ?_ (fun y hy => ?_); rotate_left 2; (have hyn := hy))
              | (refine .need ?_ ?_)
              | (refine .app1 ?_ (fun t' tk' hl' => ?_))
              | (refine iha _ _ ?_ ⟨_, _, _, _, _, by subst ho; rfl, ?_, ?_, ?_, Nat.le_refl _⟩)
              | (refine .fin ?_; (conv => lhs; cbv); refine congrArg some ?_))
          | ((fail_if_success (refine .id ?_))
             first
              | (exact Lv.cap _)
              | (subst ho; exact hla0)
              | (subst ho; exact ⟨rfl, Int.le_refl _, by omega, rfl⟩)
              | (exact congrArg (fun z => D.sl Tok.ro 1 (o.bx fun _ => eB z)) (anyS_hit i1 (by omega) hyn (by assumption)))
              | (subst ho; refine congrArg (D.sl Tok.ro 1) ?_; first | exact congrArg eB (sortM_t (by omega) i3 i0 (by assumption)) | exact push_eB (sortM_f (by omega) i3 i0 (by assumption)))
              | ((try clear iha); subst ho; simp (disch := omega) only [std, wI] at *; first | (rw [l6S_succ i1 (by omega) hyn, l6_ins i0 (by assumption) (by assumption)]; exact ⟨rfl, by omega, by omega, anyS_succ i1 (by omega) hyn i3 (by assumption)⟩) | (rw [l6S_succ i1 (by omega) hyn, l6_keep i0 (by first | exact .inl (by assumption) | exact .inr ⟨by assumption, by assumption⟩)]; exact ⟨rfl, by omega, by omega, anyS_succ i1 (by omega) hyn i3 (by assumption)⟩))
              | ((try clear iha); subst ho; simp (disch := omega) only [std, wI] at *; first | (rw [l6S_succ i1 (by omega) hyn, l6_ins i0 (by assumption) (by assumption)]; simp [eB]; done) | (rw [l6S_succ i1 (by omega) hyn, l6_keep i0 (by first | exact .inl (by assumption) | exact .inr ⟨by assumption, by assumption⟩)]; simp [eB]; done))
              | assumption
              | (subst ho; rfl)
              | (subst ho; simpa [std, lenE] using hl')
              | (subst ho; simp [std, lenE]; omega)
              | (subst ho; simp (disch := omega) only [std, wI, tdiv2, tdivN, lenE] <;> first | done | rfl | omega)))))
  | ((fail_if_success (refine .id ?_))
     first
      | fail))
theorem cmp_isNaN_int.ans {xa xb : Option (List D → Option D)} (o : Std) (ho : o = std) (x : Int) : Ans (env xa xb) 248 [iX x] (.bool (false)) := by
 refine Ans.mkA ho _ rfl rfl ?_
 repeat' (first
  | (refine .id ?_
     (try (conv => arg 2; cbv))
     first
      | (refine .fin ?_; (conv => lhs; cbv); refine congrArg some ?_))
  | ((fail_if_success (refine .id ?_))
     first
      | (subst ho; simp [std]; done)))
theorem cmp_Compare_int.ans {xa xb : Option (List D → Option D)} (o : Std) (ho : o = std) (x : Int) (y : Int) : Ans (env xa xb) 211 [iX x, iX y] (iX (cmpI x y)) := by
 refine Ans.mkA ho _ rfl rfl ?_
 repeat' (first
  | (refine .id ?_
     (try (conv => arg 2; cbv))
     first
      | refine .testF ?_
      | (refine .test (fun hr => ?_) (fun hr => ?_) <;> (have hb := hr) <;> (try simp (disch := omega) only [ho, std, wI, lenE, nrm] at hb) <;> (try (exfalso; first | contradiction | omega | exact hb rfl)))
      | (refine .pE (β := Bool) .bool (as' := [iX _]) (cmp_isNaN_int.ans o ho _) ?_; rintro (_ | _) hv <;> (try simp only [dE] at hv) <;> (try first | contradiction | exact bX hv))
      | (refine .fin ?_; (conv => lhs; cbv); refine congrArg some ?_))
  | ((fail_if_success (refine .id ?_))
     first
      | (refine dI ?_; unfold cmpI; simp [*]; done)
      | (refine dI ?_; unfold cmpI; rw [if_neg (by omega), if_neg (by omega)])))
theorem cmp_Or_int.ans {xa xb : Option (List D → Option D)} (o : Std) (ho : o = std) (l : List Int) (h0 : l.length ≤ 100) : Ans (env xa xb) 210 [rK o l] (iX (orI l)) := by
 refine Ans.mkA ho _ rfl rfl ?_
 repeat' (first
  | (refine .id ?_
     (try (conv => arg 2; cbv))
     first
      | (refine .indF (fun m_ s_ => ∃ (a7 : Int) (a8 : Int) (tk : List Nat), s_ = ⟨[Jk, Jk, Jk, iX 0, Jk, Jk, rK o l, iX a7, iX a8] ++ List.replicate 9 Jk, [], [], tk⟩ ∧ (a7 = l.length ∧ 0 ≤ a8 ∧ a8 ≤ l.length ∧ orI (l.take a8.toNat) = 0) ∧ (l.length - a8).toNat ≤ m_) _ _ ⟨_, _, _, by subst ho; rfl, ?_, Nat.le_refl _⟩ ?_
         rotate_right
         rintro m_ _ ⟨a7, a8, tk, rfl, hIa, hka⟩ iha
         obtain ⟨i1, i2, i3, i4⟩ := hIa; refine .unloopA ho ?_
         repeat' (first
          | (refine .id ?_
             (try (conv => arg 2; cbv))
             first
              | (refine .test (fun hr => ?_) (fun hr => ?_) <;> (have hb := hr) <;> (try simp (disch := omega) only [ho, std, wI, lenE, nrm] at hb) <;> (try (exfalso; first | contradiction | omega | exact hb rfl)))
              | (refine .fetchXK ho ?_ ?_ (fun y hy => ?_); rotate_left 2)
              | (refine iha _ _ ?_ ⟨_, _, _, by subst ho; rfl, ?_, Nat.le_refl _⟩)
              | (refine .fin ?_; (conv => lhs; cbv); refine congrArg some ?_))
          | ((fail_if_success (refine .id ?_))
             first
              | (subst ho; refine dI ?_; rw [← take_allG (l := l) (i := a8) (by omega), i4])
              | (refine dI ?_; exact (orI_hit i2 (by omega) i4 hy hb).symm)
              | (subst ho; exact ⟨by simp [std, len_eK], Int.le_refl _, by omega, rfl⟩)
              | (subst ho; simp (disch := omega) only [std, wI]; exact ⟨i1, by omega, by omega, orI_skip i2 (by omega) i4 hy hb⟩)
              | assumption
              | omega
              | (subst ho; simp (disch := omega) only [std, wI, tdiv2, tdivN, lenE] <;> first | done | rfl | omega)))))
  | ((fail_if_success (refine .id ?_))
     first
      | fail))
theorem impl_order.ans {xa xb : Option (List D → Option D)} (o : Std) (ho : o = std) (a_k : Int) (a_n : Int) (a_c : Int) (a_v_k : Int) (a_v_n : Int) (a_v_c : Int) (b_k : Int) (b_n : Int) (b_c : Int) (b_v_k : Int) (b_v_n : Int) (b_v_c : Int) : Ans (env xa xb) 157 [.agg [iX a_k, iX a_n, iX a_c, iX a_v_k, iX a_v_n, iX a_v_c], .agg [iX b_k, iX b_n, iX b_c, iX b_v_k, iX b_v_n, iX b_v_c]] (iX (ordF (⟨a_k, a_n, a_c, ⟨a_v_k, a_v_n, a_v_c⟩⟩ : Fc) (⟨b_k, b_n, b_c, ⟨b_v_k, b_v_n, b_v_c⟩⟩ : Fc))) := by
 refine Ans.mkA ho _ rfl rfl ?_
 repeat' (first
  | (refine .id ?_
     (try (conv => arg 2; cbv))
     first
      | (refine .pcallE (β := Int) (fun v => iX v) (as' := [rK o [_, _, _, _, _, _]]) (by subst ho; rfl) (cmp_Or_int.ans o ho _ (by simp)) ?_; rintro v hv)
      | (refine .pE (β := Int) (fun v => iX v) (as' := [iX _, iX _]) (cmp_Compare_int.ans o ho _ _) ?_; rintro v hv)
      | (refine .needD ho (by kernel_rfl) ?_)
      | (refine .fin ?_; (conv => lhs; cbv); refine congrArg some ?_))
  | ((fail_if_success (refine .id ?_))
     first
      | (refine dI ?_; subst_vars; rfl)))
theorem impl_FactLess.ans {xa xb : Option (List D → Option D)} (o : Std) (ho : o = std) (a_k : Int) (a_n : Int) (a_c : Int) (a_v_k : Int) (a_v_n : Int) (a_v_c : Int) (b_k : Int) (b_n : Int) (b_c : Int) (b_v_k : Int) (b_v_n : Int) (b_v_c : Int) : Ans (env xa xb) 137 [.agg [iX a_k, iX a_n, iX a_c, iX a_v_k, iX a_v_n, iX a_v_c], .agg [iX b_k, iX b_n, iX b_c, iX b_v_k, iX b_v_n, iX b_v_c]] (.bool (ltB (⟨a_k, a_n, a_c, ⟨a_v_k, a_v_n, a_v_c⟩⟩ : Fc) (⟨b_k, b_n, b_c, ⟨b_v_k, b_v_n, b_v_c⟩⟩ : Fc))) := by
 refine Ans.mkA ho _ rfl rfl ?_
 repeat' (first
  | (refine .id ?_
     (try (conv => arg 2; cbv))
     first
      | (refine .pE (β := Int) (fun v => iX v) (as' := [.agg [iX _, iX _, iX _, iX _, iX _, iX _], .agg [iX _, iX _, iX _, iX _, iX _, iX _]]) (impl_order.ans o ho _ _ _ _ _ _ _ _ _ _ _ _) ?_; rintro v hv)
      | (refine .fin ?_; (conv => lhs; cbv); refine congrArg some ?_))
  | ((fail_if_success (refine .id ?_))
     first
      | (subst ho; refine dBi ?_; rw [← hv]; exact ordF_lt _ _)))
theorem impl_in.ans {xa xb : Option (List D → Option D)} (o : Std) (ho : o = std) (a : Int) (b : Int) (c : Int) : Ans (env xa xb) 70 [iX a, iX b, iX c] (.bool (decide (b ≤ a ∧ a ≤ c))) := by
 refine Ans.mkA ho _ rfl rfl ?_
 repeat' (first
  | (refine .id ?_
     (try (conv => arg 2; cbv))
     first
      | refine .t1 ?_
      | refine .t0 ?_
      | (refine .test (fun hr => ?_) (fun hr => ?_) <;> (have hb := hr) <;> (try simp (disch := omega) only [ho, std, wI, lenE, nrm] at hb) <;> (try (exfalso; first | contradiction | omega | exact hb rfl)))
      | (refine .fin ?_; (conv => lhs; cbv); refine congrArg some ?_))
  | ((fail_if_success (refine .id ?_))
     first
      | (subst ho; first | exact dBi (by omega) | exact dB (decide_eq_false (by omega)).symm)))
theorem impl_CtxPush.ans {xa xb : Option (List D → Option D)} (o : Std) (ho : o = std) (ctx : Int) (site : Int) (depth : Int) : Ans (env xa xb) 265 [iX ctx, iX site, iX depth] (iX (ctxPush ctx site depth)) := by
 refine Ans.mkA ho _ rfl rfl ?_
 repeat' (first
  | (refine .id ?_
     (try (conv => arg 2; cbv))
     first
      | refine .testT ?_
      | refine .t1 ?_
      | refine .t0 ?_
      | (refine .test (fun hr => ?_) (fun hr => ?_) <;> (have hb := hr) <;> (try simp (disch := omega) only [ho, std, wI, lenE, nrm] at hb) <;> (try (exfalso; first | contradiction | omega | exact hb rfl)))
      | (refine .pE (β := Bool) .bool (as' := [iX _, iX _, iX _]) (impl_in.ans o ho _ _ _) ?_; rintro (_ | _) hv <;> (try simp only [dE] at hv) <;> (try first | contradiction | exact bX hv))
      | (refine .need ?_ ?_)
      | (refine .fin ?_; (conv => lhs; cbv); refine congrArg some ?_))
  | ((fail_if_success (refine .id ?_))
     first
      | (subst ho; refine dI ?_; simp only [ctxPush]; (repeat' split) <;> first | omega | (simp (disch := omega) only [std, wI, tdivN] <;> omega))
      | (subst ho; rfl)))
theorem impl_isFun.ans {xa xb : Option (List D → Option D)} (o : Std) (ho : o = std) (l : List Nd) (i : Int) (h0 : 0 ≤ i ∧ i < l.length) : Ans (env xa xb) 148 [rNd o l, iX i] (.bool (lamB (rN l i))) := by
 refine Ans.mkA ho _ rfl rfl ?_
 repeat' (first
  | (refine .id ?_
     (try (conv => arg 2; cbv))
     first
      | refine .t1 ?_
      | refine .t0 ?_
      | (refine .test (fun hr => ?_) (fun hr => ?_) <;> (have hb := hr) <;> (try simp (disch := omega) only [ho, std, wI, lenE, nrm] at hb) <;> (try (exfalso; first | contradiction | omega | exact hb rfl)))
      | (refine .fetchYNd ho ?_ ?_ (by with_reducible assumption) ?_)
      | (refine .fetchXNd ho ?_ ?_ (fun y hy => ?_); rotate_left 2; rcases y with ⟨y0, y1, y2, y3, y4, y5, y6⟩)
      | (refine .fin ?_; (conv => lhs; cbv); refine congrArg some ?_))
  | ((fail_if_success (refine .id ?_))
     first
      | (subst ho; rw [hy]; simp [std, lamB, *]; done)
      | omega))
theorem impl_nameAt.ans {xa xb : Option (List D → Option D)} (o : Std) (ho : o = std) (b_f0 : Int) (b_f1 : Int) (c : Int) : Ans (env xa xb) 204 [.agg [iX b_f0, iX b_f1], iX c] (.agg ([iX (nameAt (⟨b_f0, b_f1⟩ : Bd) c).k, iX (nameAt (⟨b_f0, b_f1⟩ : Bd) c).n, iX (nameAt (⟨b_f0, b_f1⟩ : Bd) c).c])) := by
 refine Ans.mkA ho _ rfl rfl ?_
 repeat' (first
  | (refine .id ?_
     (try (conv => arg 2; cbv))
     first
      | (refine .test (fun hr => ?_) (fun hr => ?_) <;> (have hb := hr) <;> (try simp (disch := omega) only [ho, std, wI, lenE, nrm] at hb) <;> (try (exfalso; first | contradiction | omega | exact hb rfl)))
      | (refine .fin ?_; (conv => lhs; cbv); refine congrArg some ?_))
  | ((fail_if_success (refine .id ?_))
     first
      | (unfold nameAt; simp [*]; done)))
theorem impl_given.ans {xa xb : Option (List D → Option D)} (o : Std) (ho : o = std) (l : List Nd) (f : Int) (h0 : 0 ≤ f ∧ f < l.length) : Ans (env xa xb) 266 [rNd o l, iX f] (.agg ([iX (givenM l f).f0, iX (givenM l f).f1])) := by
 refine Ans.mkA ho _ rfl rfl ?_
 repeat' (first
  | (refine .id ?_
     (try (conv => arg 2; cbv))
     first
      | (refine .test (fun hr => ?_) (fun hr => ?_) <;> (have hb := hr) <;> (try simp (disch := omega) only [ho, std, wI, lenE, nrm] at hb) <;> (try (exfalso; first | contradiction | omega | exact hb rfl)))
      | (refine .fetchXNd ho ?_ ?_ (fun y hy => ?_); rotate_left 2; rcases y with ⟨y0, y1, y2, y3, y4, y5, y6⟩)
      | (refine .fin ?_; (conv => lhs; cbv); refine congrArg some ?_))
  | ((fail_if_success (refine .id ?_))
     first
      | (unfold givenM; rw [hy]; simp [*]; done)
      | omega))
theorem impl_Arity.ans {xa xb : Option (List D → Option D)} (o : Std) (ho : o = std) (k : Int) : Ans (env xa xb) 118 [iX k] (iX (((arityM k : Nat) : Int))) := by
 refine Ans.mkA ho _ rfl rfl ?_
 repeat' (first
  | (refine .id ?_
     (try (conv => arg 2; cbv))
     first
      | refine .t1 ?_
      | (refine .test (fun hr => ?_) (fun hr => ?_) <;> (have hb := hr) <;> (try simp (disch := omega) only [ho, std, wI, lenE, nrm] at hb) <;> (try (exfalso; first | contradiction | omega | exact hb rfl)))
      | (refine .fin ?_; (conv => lhs; cbv); refine congrArg some ?_))
  | ((fail_if_success (refine .id ?_))
     first
      | (subst ho; refine dI ?_; simp [arityM, *]; done)))
theorem impl_flower_add.gns {xa xb : Option (List D → Option D)} (o : Std) (ho : o = std) (l : List Nd) (us : List Bd) (dp : Int) (fs m : List Fc) (t : Tok) (tk : List Nat) (hl : Lw tk t (o.bx fun _ => eFc m).length) (a_k : Int) (a_n : Int) (a_c : Int) (v_k : Int) (v_n : Int) (v_c : Int) (h0 : m.length + 1 ≤ 2900000000000) : Gns (env xa xb) 205 [.pbx (.out 0) 0, .agg [iX a_k, iX a_n, iX a_c], .agg [iX v_k, iX v_n, iX v_c]] [[cells5 (o.bx fun _ => eNd l) (o.bx fun _ => eBd us) dp (o.bx fun _ => eFc fs) t (o.bx fun _ => eFc m)]] tk (FR o l us dp fs (m ++ ([⟨a_k, a_n, a_c, ⟨v_k, v_n, v_c⟩⟩])) (.tup [])) := by
 refine Gns.mkA (E := env xa xb) (f := 205) ho _ (by rfl) (by rfl) ?_
 repeat' (first
  | (refine .id ?_
     (try (conv => arg 2; cbv))
     first
      | (refine .needD ho (by kernel_rfl) ?_)
      | (refine .need ?_ ?_)
      | (refine .app1w ?_ (fun t' tk' hl' => ?_))
      | (refine .fin ?_; refine ⟨_, by (conv => lhs; cbv) <;> rfl, ?_, _, _, by rfl, ?_, ?_⟩; first | (focus ((conv => lhs; cbv); done)) | ((conv => lhs; cbv); refine congrArg some ?_)))
  | ((fail_if_success (refine .id ?_))
     first
      | (subst ho; exact hl)
      | (subst ho; exact (push_eFc (x := ⟨a_k, a_n, a_c, ⟨v_k, v_n, v_c⟩⟩) rfl))
      | (subst ho; simpa [std, len_eFc] using hl')
      | (subst ho; simp [std, lenE]; omega)))
theorem impl_namesOf.ans {xa xb : Option (List D → Option D)} (o : Std) (ho : o = std) (k : Int) : Ans (env xa xb) 74 [iX k] (iX (((namesM k : Nat) : Int))) := by
 refine Ans.mkA ho _ rfl rfl ?_
 repeat' (first
  | (refine .id ?_
     (try (conv => arg 2; cbv))
     first
      | refine .t1 ?_
      | (refine .test (fun hr => ?_) (fun hr => ?_) <;> (have hb := hr) <;> (try simp (disch := omega) only [ho, std, wI, lenE, nrm] at hb) <;> (try (exfalso; first | contradiction | omega | exact hb rfl)))
      | (refine .fin ?_; (conv => lhs; cbv); refine congrArg some ?_))
  | ((fail_if_success (refine .id ?_))
     first
      | (subst ho; refine dI ?_; simp [namesM, *]; done)))
theorem impl_IsWord.ans {xa xb : Option (List D → Option D)} (o : Std) (ho : o = std) (s : ByteArray) (h0 : s.size ≤ 1048576) : Ans (env xa xb) 223 [.str s] (.bool (wordB s)) := by
 refine Ans.mkA ho _ rfl rfl ?_
 repeat' (first
  | (refine .id ?_
     (try (conv => arg 2; cbv))
     first
      | (refine .indF (fun m_ s_ => ∃ (a3 : Int) (tk : List Nat), s_ = ⟨[.str s, Jk, Jk, iX a3] ++ List.replicate 19 Jk, [], [], tk⟩ ∧ (0 ≤ a3 ∧ a3 ≤ s.size ∧ (∀ i : Nat, (i : Int) < a3 → 97 ≤ std.byte s i ∧ std.byte s i ≤ 122)) ∧ (s.size - a3).toNat ≤ m_) _ _ ⟨_, _, by subst ho; rfl, ?_, Nat.le_refl _⟩ ?_
         rotate_right
         rintro m_ _ ⟨a3, tk, rfl, hIa, hka⟩ iha
         obtain ⟨i1, i2, i3⟩ := hIa; refine .unloopA ho ?_
         repeat' (first
          | (refine .id ?_
             (try (conv => arg 2; cbv))
             first
              | refine .testT ?_
              | refine .t1 ?_
              | refine .t0 ?_
              | (refine .test (fun hr => ?_) (fun hr => ?_) <;> (have hb := hr) <;> (try simp (disch := omega) only [ho, std, wI, lenE, nrm] at hb) <;> (try (exfalso; first | contradiction | omega | exact hb rfl)))
              | (refine .pE (β := Bool) .bool (as' := [iX _, iX _, iX _]) (impl_in.ans o ho _ _ _) ?_; rintro (_ | _) hv <;> (try simp only [dE] at hv) <;> (try first | contradiction | exact bX hv))
              | (refine .need ?_ ?_)
              | (refine iha _ _ ?_ ⟨_, _, by subst ho; rfl, ?_, Nat.le_refl _⟩)
              | (refine .fin ?_; (conv => lhs; cbv); refine congrArg some ?_))
          | ((fail_if_success (refine .id ?_))
             first
              | (subst ho; exact ⟨Int.le_refl 0, by omega, fun i hi => absurd hi (by omega)⟩)
              | (subst ho; refine dB ?_; exact wordB_no i1 (by omega) (by first | exact hv | (simp only [std]; omega)))
              | (subst ho; refine dB ?_; first | exact wordB_end (by omega) i3 (decide_eq_true hv).symm | exact wordB_end (by omega) i3 (decide_eq_false hv).symm)
              | (subst ho; simp (disch := omega) only [std, wI]; exact ⟨by omega, by omega, word_step i1 i3 (by first | exact hv | (simp only [std]; omega))⟩)
              | (subst ho; simp (disch := omega) only [std, wI]; omega)
              | (subst ho; simp [std, lenE]; omega)))))
  | ((fail_if_success (refine .id ?_))
     first
      | fail))
theorem impl_IsKey.ans {xa xb : Option (List D → Option D)} (o : Std) (ho : o = std) (s : ByteArray) : Ans (env xa xb) 224 [.str s] (.bool (keyB s)) := by
 refine Ans.mkA ho _ rfl rfl ?_
 have hkl : keyL.length = 20 := rfl
 repeat' (first
  | (refine .id ?_
     (try (conv => arg 2; cbv))
     first
      | (refine .extE (r := keyL) (rTx o) (g := splitX) (as' := [.str keyS, .str spaceS]) (by rfl) (by rfl) (by subst ho; simp [splitX, std]) ?_; rintro v hv)
      | (refine .indF (fun m_ s_ => ∃ (a5 : List ByteArray) (a6 : Int) (a7 : Int) (ta5 : Tok) (tk : List Nat), s_ = ⟨[.str s, Jk, Jk, Jk, Jk, .sl ta5 1 (o.bx fun _ => eB a5), iX a6, iX a7] ++ List.replicate 7 Jk, [], [], tk⟩ ∧ (a5 = keyL ∧ a6 = a5.length ∧ 0 ≤ a7 ∧ a7 ≤ 20 ∧ (keyL.take a7.toNat).any (fun k => eqS k s) = false) ∧ (20 - a7).toNat ≤ m_) _ _ ⟨_, _, _, _, _, by subst ho; rfl, ?_, Nat.le_refl _⟩ ?_
         rotate_right
         rintro m_ _ ⟨a5, a6, a7, ta5, tk, rfl, hIa, hka⟩ iha
         obtain ⟨i0, i4, i1, i2, i3⟩ := hIa; have hal : a5.length = 20 := (by rw [i0]; exact hkl); refine .unloopA ho ?_
         repeat' (first
          | (refine .id ?_
             (try (conv => arg 2; cbv))
             first
              | (refine .test (fun hr => ?_) (fun hr => ?_) <;> (have hb := hr) <;> (try simp (disch := omega) only [ho, std, wI, lenE, nrm] at hb) <;> (try (exfalso; first | contradiction | omega | exact hb rfl)))
              | (refine .fetchXB ho ?_ ?_ (fun y hy => ?_); rotate_left 2)
              | (refine iha _ _ ?_ ⟨_, _, _, _, _, by subst ho; rfl, ?_, Nat.le_refl _⟩)
              | (refine .fin ?_; (conv => lhs; cbv); refine congrArg some ?_))
          | ((fail_if_success (refine .id ?_))
             first
              | (subst ho; exact ⟨Eq.symm hv, by simp [std, len_eB], Int.le_refl _, by omega, rfl⟩)
              | (refine dB ?_; rw [i0] at hy; exact keyB_hit i1 (by omega) hy (by assumption))
              | (refine dB ?_; exact keyB_end (by omega) i3)
              | (simp (disch := omega) only [ho, std, wI]; rw [i0] at hy; exact ⟨i0, i4, by omega, by omega, key_step i1 (by omega) i3 hy (by assumption)⟩)
              | assumption
              | omega
              | (subst ho; simp (disch := omega) only [std, wI, tdiv2, tdivN, lenE] <;> first | done | rfl | omega)))))
  | ((fail_if_success (refine .id ?_))
     first
      | fail))
theorem impl_isName.ans {xa xb : Option (List D → Option D)} (o : Std) (ho : o = std) (s : ByteArray) (h0 : s.size ≤ 1048576) : Ans (env xa xb) 190 [.str s] (.bool (nameB s)) := by
 refine Ans.mkA ho _ rfl rfl ?_
 repeat' (first
  | (refine .id ?_
     (try (conv => arg 2; cbv))
     first
      | refine .testT ?_
      | refine .testF ?_
      | (refine .pE (β := Bool) .bool (as' := [.str _]) (impl_IsWord.ans o ho _ ?_) ?_; rotate_left 1; rintro (_ | _) hv <;> (try simp only [dE] at hv) <;> (try first | contradiction | exact bX hv))
      | (refine .pE (β := Bool) .bool (as' := [.str _]) (impl_IsKey.ans o ho _) ?_; rintro (_ | _) hv <;> (try simp only [dE] at hv) <;> (try first | contradiction | exact bX hv))
      | (refine .fin ?_; (conv => lhs; cbv); refine congrArg some ?_))
  | ((fail_if_success (refine .id ?_))
     first
      | (subst ho; refine dB ?_; unfold nameB; simp [*, std]; done)
      | assumption))
theorem impl_nameFits.ans {xa xb : Option (List D → Option D)} (o : Std) (ho : o = std) (s : ByteArray) (b : Bool) (h0 : s.size ≤ 1048576) : Ans (env xa xb) 146 [.str s, .bool b] (.bool (nfitB s b)) := by
 refine Ans.mkA ho _ rfl rfl ?_
 repeat' (first
  | (refine .id ?_
     (try (conv => arg 2; cbv))
     first
      | (refine .test (fun hr => ?_) (fun hr => ?_) <;> (have hb := hr) <;> (try simp (disch := omega) only [ho, std, wI, lenE, nrm] at hb) <;> (try (exfalso; first | contradiction | omega | exact hb rfl)))
      | (refine .pE (β := Bool) .bool (as' := [.str _]) (impl_isName.ans o ho _ ?_) ?_; rotate_left 1; rintro (_ | _) hv <;> (try simp only [dE] at hv) <;> (try first | contradiction | exact bX hv))
      | (refine .fin ?_; (conv => lhs; cbv); refine congrArg some ?_))
  | ((fail_if_success (refine .id ?_))
     first
      | (subst ho; refine dB ?_; unfold nfitB; simp [*, std, eqS]; done)
      | assumption))
theorem spec_FactLess.ans {xa xb : Option (List D → Option D)} (o : Std) (ho : o = std) (a_k : Int) (a_n : Int) (a_c : Int) (a_v_k : Int) (a_v_n : Int) (a_v_c : Int) (b_k : Int) (b_n : Int) (b_c : Int) (b_v_k : Int) (b_v_n : Int) (b_v_c : Int) : Ans (env xa xb) 106 [.agg [iX a_k, iX a_n, iX a_c, iX a_v_k, iX a_v_n, iX a_v_c], .agg [iX b_k, iX b_n, iX b_c, iX b_v_k, iX b_v_n, iX b_v_c]] (.bool (ltB (⟨a_k, a_n, a_c, ⟨a_v_k, a_v_n, a_v_c⟩⟩ : Fc) (⟨b_k, b_n, b_c, ⟨b_v_k, b_v_n, b_v_c⟩⟩ : Fc))) := by
 refine Ans.mkA ho _ rfl rfl ?_
 repeat' (first
  | (refine .id ?_
     (try (conv => arg 2; cbv))
     first
      | (refine .test (fun hr => ?_) (fun hr => ?_) <;> (have hb := hr) <;> (try simp (disch := omega) only [ho, std, wI, lenE, nrm] at hb) <;> (try (exfalso; first | contradiction | omega | exact hb rfl)))
      | (refine .fin ?_; (conv => lhs; cbv); refine congrArg some ?_))
  | ((fail_if_success (refine .id ?_))
     first
      | (subst ho; refine dBi ?_; simp only [ltF]; omega)))
theorem spec_l15Place.ans {xa xb : Option (List D → Option D)} (o : Std) (ho : o = std) (l : List Fc) (f_k : Int) (f_n : Int) (f_c : Int) (f_v_k : Int) (f_v_n : Int) (f_v_c : Int) (h0 : Up l) (h1 : l.length ≤ 2900000000000) : Ans (env xa xb) 61 [rFc o l, .agg [iX f_k, iX f_n, iX f_c, iX f_v_k, iX f_v_n, iX f_v_c]] (iX (((posF l (⟨f_k, f_n, f_c, ⟨f_v_k, f_v_n, f_v_c⟩⟩ : Fc) : Nat) : Int))) := by
 refine Ans.mkA ho _ rfl rfl ?_
 repeat' (first
  | (refine .id ?_
     (try (conv => arg 2; cbv))
     first
      | (refine .indF (fun m_ s_ => ∃ (a5 : Int) (a6 : Int) (tk : List Nat), s_ = ⟨[rFc o l, Jk, Jk, .pbx (.loc 0) 0, Jk, iX a5, iX a6] ++ List.replicate 20 Jk, [[[iX f_k, iX f_n, iX f_c, iX f_v_k, iX f_v_n, iX f_v_c]]], [], tk⟩ ∧ (0 ≤ a5 ∧ a5 ≤ a6 ∧ a6 ≤ l.length ∧ (∀ j : Nat, (j : Int) < a5 → ltF (l.getD j zF) (⟨f_k, f_n, f_c, ⟨f_v_k, f_v_n, f_v_c⟩⟩ : Fc)) ∧ (∀ j : Nat, a6 ≤ j → j < l.length → ¬ ltF (l.getD j zF) (⟨f_k, f_n, f_c, ⟨f_v_k, f_v_n, f_v_c⟩⟩ : Fc))) ∧ (a6 - a5).toNat ≤ m_) _ _ ⟨_, _, _, by subst ho; rfl, ?_, Nat.le_refl _⟩ ?_
         rotate_right
         rintro m_ _ ⟨a5, a6, tk, rfl, hIa, hka⟩ iha
         obtain ⟨i1, i2, i3, i4, i5⟩ := hIa; refine .unloopA ho ?_
         repeat' (first
          | (refine .id ?_
             (try (conv => arg 2; cbv))
             first
              | refine .testT ?_
              | refine .testF ?_
              | (refine .test (fun hr => ?_) (fun hr => ?_) <;> (have hb := hr) <;> (try simp (disch := omega) only [ho, std, wI, lenE, nrm] at hb) <;> (try (exfalso; first | contradiction | omega | exact hb rfl)))
              | (refine .pE (β := Bool) .bool (as' := [.agg [iX _, iX _, iX _, iX _, iX _, iX _], .agg [iX _, iX _, iX _, iX _, iX _, iX _]]) (spec_FactLess.ans o ho _ _ _ _ _ _ _ _ _ _ _ _) ?_; rintro (_ | _) hv <;> (try simp only [dE] at hv) <;> (try first | exact absurd (hv.symm.trans (show _ = false by assumption)) (by decide) | exact absurd (hv.symm.trans (show _ = true by assumption)) (by decide)))
              | (refine .fetchXFc ho ?_ ?_ (fun y hy => ?_); rotate_left 2; rcases y with ⟨yk, yn, yc, yvk, yvn, yvc⟩)
              | (refine .needD ho (by kernel_rfl) ?_)
              | (refine .need ?_ ?_)
              | (refine iha _ _ ?_ ⟨_, _, _, by subst ho; rfl, ?_, Nat.le_refl _⟩)
              | (refine .fin ?_; (conv => lhs; cbv); refine congrArg some ?_))
          | ((fail_if_success (refine .id ?_))
             first
              | (refine dI (bs_end (by assumption) (by assumption) (by assumption) (by assumption) (by assumption) (by assumption)))
              | (refine ⟨Int.le_refl 0, ?_, ?_, fun j hj => absurd hj (by omega), fun j hj hl => absurd hj ?_⟩ <;> subst ho <;> simp only [std, len_eFc] <;> omega)
              | (clear iha; subst ho; simp (disch := omega) only [std, wI, tdiv2] at *; refine ⟨by omega, by omega, by omega, ?_, by assumption⟩; exact bs_lo h0 (by omega) (by omega) (by rw [hy]; exact ltB_iff.1 hv))
              | (clear iha; subst ho; simp (disch := omega) only [std, wI, tdiv2] at *; refine ⟨by omega, by omega, by omega, by assumption, ?_⟩; exact bs_hi h0 (by omega) (by omega) (fun h => by rw [hy] at h; rw [ltB_iff.2 h] at hv; cases hv))
              | (subst ho; rfl)
              | (subst ho; simp (disch := omega) only [std, wI, tdiv2, tdivN, lenE] <;> first | done | rfl | omega)))))
  | ((fail_if_success (refine .id ?_))
     first
      | fail))
end Go.Mach
