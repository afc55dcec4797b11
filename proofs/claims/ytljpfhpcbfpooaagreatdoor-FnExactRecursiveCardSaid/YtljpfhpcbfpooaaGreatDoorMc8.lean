/- What the statements share: part 8 of a proof by an executable machine over the program's code. -/
import Derived.Test.YtljpfhpcbfpooaaGreatDoorMc7
set_option linter.unusedVariables false
set_option linter.unusedSimpArgs false
namespace Go.Mach
open Go Go.RowKit
section
variable {P : Program} {E : Env} {F : Fx} {G : Gh} {s : S} {a : Act} {w : World} {o : Oper} {rec : T → Option (X × S)} {r : X × S} {K : S → T}
def Par {α : Type} (E : Env) (rec : T → Option (X × S)) (V : (α → T) → T) : Prop :=
 ∀ k r, runT E rec (V k) = some r → ∃ d, runT E rec (k d) = some r ∧ ∀ k2 r2, runT E rec (k2 d) = some r2 → runT E rec (V k2) = some r2
theorem Par.pure {α : Type} (d : α) : Par E rec fun k => k d := fun k r h => ⟨d, h, fun _ _ h => h⟩
theorem Par.fail {α : Type} : Par E rec fun _ : α → T => .fail := fun k r h => by simp [runT] at h
theorem Par.need {α : Type} (b : Bool) {V : (α → T) → T} (h : Par E rec V) : Par E rec fun k => .need b (V k) := fun k r hr => by
 simp only [runT] at hr
 split at hr
 · rename_i hb
   obtain ⟨d, h1, h2⟩ := h k r hr
   exact ⟨d, h1, fun k2 r2 hk => by simp only [runT, hb, if_true]; exact h2 k2 r2 hk⟩
 · cases hr
theorem Par.test (b : Bool) (x y : D) : Par E rec fun k => .test b (fun _ => k x) (fun _ => k y) := fun k r hr => by
 simp only [runT] at hr
 cases b
 · exact ⟨y, by simpa using hr, fun k2 r2 hk => by simpa [runT] using hk⟩
 · exact ⟨x, by simpa using hr, fun k2 r2 hk => by simpa [runT] using hk⟩
theorem Par.fetch (es : Box) (j : Int) (g : List D → D) : Par E rec fun k => .fetch es j fun cs => k (g cs) := fun k r hr => by
 obtain ⟨h0, cs, hcs, hr⟩ := fetch_inv hr
 exact ⟨g cs, hr, fun k2 r2 hk => by simp only [runT, h0, if_true, hcs]; exact hk⟩
theorem Par.ite {α : Type} (c : Prop) [Decidable c] {V W : (α → T) → T} (h1 : Par E rec V) (h2 : Par E rec W) : Par E rec fun k => if c then V k else W k := by
 by_cases h : c
 · simpa only [h, if_true] using h1
 · simpa only [h, if_false] using h2
theorem Par.ext (f : FuncId) (as_ : List D) : Par E rec fun k => .ext f as_ k := fun k r hr => by
 simp only [runT] at hr
 split at hr
 · rename_i g hg
   split at hr
   · rename_i d hd
     exact ⟨d, hr, fun k2 r2 hk => by simp only [runT, hg, hd]; exact hk⟩
   · cases hr
 · cases hr
theorem Par.pcall (f : FuncId) (as_ : List D) : Par E rec fun k => .pcall f as_ k := fun k r hr => by
 simp only [runT] at hr
 split at hr
 · rename_i fi hfi
   split at hr
   · rename_i hn
     split at hr
     · rename_i s1 hs
       split at hr
       · rename_i d hd
         exact ⟨d, hr, fun k2 r2 hk => by simp only [runT, hfi, hn, if_true, hs, hd]; exact hk⟩
       · cases hr
     · rename_i s1 hs
       split at hr
       · rename_i d hd
         exact ⟨d, hr, fun k2 r2 hk => by simp only [runT, hfi, hn, if_true, hs, hd]; exact hk⟩
       · cases hr
     · cases hr
   · cases hr
 · cases hr
def Agree (o : Oper) (s s2 : S) : Prop := (∀ x ∈ o.op.operands, s2.ev x = s.ev x) ∧ ∀ r, s2.box r = s.box r
theorem binT_par (op : BinOp) (x y : D) : Par E rec fun k => binT op x y k := by
 unfold binT
 cases x <;> cases y <;> first
  | exact Par.fail
  | (rename_i ik m jk n
     cases op <;> first
      | exact Par.need _ (Par.pure _)
      | exact Par.ite _ (Par.need _ (Par.pure _)) Par.fail
      | (refine Par.ite _ ?_ Par.fail
         dsimp only; split <;> first | exact Par.pure _ | exact Par.fail))
  | (cases op <;> first | exact Par.fail | exact Par.pure _ | exact Par.need _ (Par.pure _))
theorem idx_opt {P' : Prop} : P' → P' := id
def AgreeT (o : Oper) (s s2 : S) : Prop := ∀ x ∈ o.op.operands, s2.ev x = s.ev x
theorem op_valT {o : Oper} (ht : tempOp o.op = true) (s : S) : ∃ V : (D → T) → T, Par E rec V ∧ ∀ s2, AgreeT o s s2 → ∀ K, opT E o s2 K = V (fun d => K (s2.put o.dst d)) := by
 cases ho : o.op with
 | move x => exact ⟨fun k => k (moveD (E.ty o.type).k (s.ev x)), Par.pure _, fun s2 h K => by simp only [opT, ho]; rw [h x (by simp [ho, Op.operands])]⟩
 | assign x => exact ⟨fun k => k (moveD (E.ty o.type).k (s.ev x)), Par.pure _, fun s2 h K => by simp only [opT, ho]; rw [h x (by simp [ho, Op.operands])]⟩
 | binOp op t x y t' =>
   refine ⟨fun k => match op, s.ev x, s.ev y with
    | .eql, .agg a, .agg b => match (E.ty t).eq && shapeD (E.ty t).zero a, eqD a b with
      | true, some v => k (.bool v)
      | _, _ => .fail
    | .neq, .agg a, .agg b => match (E.ty t).eq && shapeD (E.ty t).zero a, eqD a b with
      | true, some v => k (.bool (!v))
      | _, _ => .fail
    | .eql, .bool a, .bool b => match (E.ty t).k with
      | .bool => k (.bool (a == b))
      | _ => .fail
    | .neq, .bool a, .bool b => match (E.ty t).k with
      | .bool => k (.bool (!(a == b)))
      | _ => .fail
    | op, a, b => binT op a b k, ?_, fun s2 h K => ?_⟩
   · generalize s.ev x = dx
     generalize s.ev y = dy
     split
     · split <;> first | exact Par.pure _ | exact Par.fail
     · split <;> first | exact Par.pure _ | exact Par.fail
     · split <;> first | exact Par.pure _ | exact Par.fail
     · split <;> first | exact Par.pure _ | exact Par.fail
     · exact binT_par _ _ _
   · simp only [opT, ho]
     rw [h x (by simp [ho, Op.operands]), h y (by simp [ho, Op.operands])]
     generalize s.ev x = dx
     generalize s.ev y = dy
     cases op <;> cases dx <;> cases dy <;> first | rfl | (rename_i a0 b0; generalize eqD a0 b0 = q; generalize ((E.ty t).eq && shapeD (E.ty t).zero a0) = q2; cases q2 <;> cases q <;> rfl) | (cases (E.ty t).k <;> rfl)
 | unOp op t x =>
   refine ⟨fun k => match op, s.ev x with
    | .neg, .int ik n => k (.int ik (ik.wrap (0 - n)))
    | .not, .bool b => k (.bool (!b))
    | _, _ => .fail, ?_, fun s2 h K => ?_⟩
   · cases op <;> cases s.ev x <;> first | exact Par.pure _ | exact Par.fail
   · simp only [opT, ho]
     rw [h x (by simp [ho, Op.operands])]
     cases op <;> cases s.ev x <;> rfl
 | convert src dst x =>
   refine ⟨fun k => match (E.ty src).k, (E.ty dst).k, s.ev x with
    | .int _, .int ik, .int _ n => k (.int ik (ik.wrap n))
    | .str, .str, .str a => k (.str a)
    | .sl e _ _, .str, .sl _ z es => if (E.ty e).k.isU8 && (z == 1 && byteRow es) then k (.str (ofBytes es)) else .fail
    | _, _, _ => .fail, ?_, fun s2 h K => ?_⟩
   · cases (E.ty src).k <;> cases (E.ty dst).k <;> cases s.ev x <;> first | exact Par.pure _ | exact Par.fail | exact Par.ite _ (Par.pure _) Par.fail
   · simp only [opT, ho]
     rw [h x (by simp [ho, Op.operands])]
     cases (E.ty src).k <;> cases (E.ty dst).k <;> cases s.ev x <;> rfl
 | extract x i =>
   refine ⟨fun k => match s.ev x with
    | .tup vs => if i < vs.length then k (vs.getD i .junk) else .fail
    | _ => .fail, ?_, fun s2 h K => ?_⟩
   · cases s.ev x <;> first | exact Par.fail | exact Par.ite _ (Par.pure _) Par.fail
   · simp only [opT, ho]
     rw [h x (by simp [ho, Op.operands])]
     cases s.ev x <;> rfl
 | fieldAddr t x f =>
   refine ⟨fun k => match (E.ty t).k with
    | .st fs => match fs[f]? with
      | some (o', sz, _) => if sz = 0 then .fail else match s.ev x with
        | .pel cs off => k (.pel cs (off + o'))
        | .pbx r off => k (.pbx r (off + o'))
        | .pba r z j off => k (.pba r z j (off + o'))
        | _ => .fail
      | none => .fail
    | _ => .fail, ?_, fun s2 h K => ?_⟩
   · generalize s.ev x = dx
     split <;> first | exact Par.fail | (split <;> first | exact Par.fail | (refine Par.ite _ Par.fail ?_; cases dx <;> first | exact Par.fail | exact Par.pure _))
   · simp only [opT, ho]
     rw [h x (by simp [ho, Op.operands])]
     generalize s.ev x = dx
     cases (E.ty t).k <;> first | rfl | (rename_i fs; rcases hq : fs[f]? with _ | ⟨_, _, _⟩ <;> simp only [hq] <;> cases dx <;> rfl)
 | field t x f =>
   refine ⟨fun k => match (E.ty t).k, s.ev x with
    | .st fs, .agg cs => match fs[f]? with
      | some (o', sz, ag) => if o' + sz ≤ cs.length ∧ 0 < sz then k (part ag sz cs o') else .fail
      | none => .fail
    | _, _ => .fail, ?_, fun s2 h K => ?_⟩
   · generalize s.ev x = dx
     split <;> first | exact Par.fail | (split <;> first | exact Par.fail | exact Par.ite _ (Par.pure _) Par.fail)
   · simp only [opT, ho]
     rw [h x (by simp [ho, Op.operands])]
     generalize s.ev x = dx
     cases (E.ty t).k <;> cases dx <;> first | rfl | (rename_i fs _; rcases hq : fs[f]? with _ | ⟨_, _, _⟩ <;> simp only [hq])
 | index t x i =>
   refine ⟨fun k => match (E.ty t).k, s.ev x, idx (s.ev i) with
    | .str, .str a, some j => .need (decide (0 ≤ j) && decide (j < a.size)) (k (.int .u8 (a.get! j.toNat).toNat))
    | _, _, _ => .fail, ?_, fun s2 h K => ?_⟩
   · generalize s.ev x = dx
     generalize idx (s.ev i) = di
     split <;> first | exact Par.fail | exact Par.need _ (Par.pure _)
   · simp only [opT, ho]
     rw [h x (by simp [ho, Op.operands]), h i (by simp [ho, Op.operands])]
     generalize s.ev x = dx
     generalize idx (s.ev i) = di
     cases (E.ty t).k <;> cases dx <;> cases di <;> rfl
 | build t ps =>
   have he : ∀ s2, AgreeT o s s2 → (ps.toList.map fun p => (p.1, (s2.ev p.2).cells.map D.plain)) = ps.toList.map fun p => (p.1, (s.ev p.2).cells.map D.plain) := fun s2 h => List.map_congr_left fun x hx => by
    rw [h x.2 (by simp only [ho, Op.operands]; simp only [List.mem_toArray, List.mem_map]; exact ⟨x, hx, rfl⟩)]
   refine ⟨fun k => match (E.ty t).k with
    | .st fs => match opT.fillD fs ((E.ty t).zero) (ps.toList.map fun p => (p.1, (s.ev p.2).cells.map D.plain)) with
      | some cs => k (.agg cs)
      | none => .fail
    | _ => .fail, ?_, fun s2 h K => ?_⟩
   · split <;> first | exact Par.fail | (split <;> first | exact Par.fail | exact Par.pure _)
   · simp only [opT, ho]
     rw [he s2 h]
     cases (E.ty t).k <;> first | rfl | (rename_i fs; generalize opT.fillD fs _ _ = q; cases q <;> rfl)
 | buildSlice t n ps =>
   have he : ∀ s2, AgreeT o s s2 → (ps.toList.map fun p => (p.1, (s2.ev p.2).cells.map D.ro)) = ps.toList.map fun p => (p.1, (s.ev p.2).cells.map D.ro) := fun s2 h => List.map_congr_left fun x hx => by
    rw [h x.2 (by simp only [ho, Op.operands]; simp only [List.mem_toArray, List.mem_map]; exact ⟨x, hx, rfl⟩)]
   refine ⟨fun k => match (E.ty t).k with
    | .sl e z _ => if (E.ty e).k.known && (decide ((E.ty e).zero.length = z) && decide (n * z ≤ 2 ^ 20)) then
        match opT.fillS z (List.replicate n (E.ty e).zero) (ps.toList.map fun p => (p.1, (s.ev p.2).cells.map D.ro)) with
        | some es => k (.sl .cap z es)
        | none => .fail
      else .fail
    | _ => .fail, ?_, fun s2 h K => ?_⟩
   · split <;> first | exact Par.fail | (refine Par.ite _ ?_ Par.fail; split <;> first | exact Par.fail | exact Par.pure _)
   · simp only [opT, ho]
     rw [he s2 h]
     cases (E.ty t).k <;> first | rfl | (rename_i e z _; dsimp only; generalize opT.fillS z _ _ = q; cases q <;> rfl)
 | call c =>
   have hargs : ∀ s2, AgreeT o s s2 → c.args.toList.map s2.ev = c.args.toList.map s.ev := fun s2 h => List.map_congr_left fun x hx => h x (by
    simp only [ho, Op.operands, Call.operands, Array.mem_append]; exact .inr (by simpa using hx))
   cases hcc : c.callee with
   | builtin b =>
     cases b with
     | len =>
       refine ⟨fun k => match c.argTypes.toList.map (fun t => (E.ty t).k), c.args.toList.map s.ev with
        | [.sl _ _ _], [.sl _ _ es] => k (.int .i64 es.length)
        | [.str], [.str a] => k (.int .i64 a.size)
        | [.sl _ _ _], [.asl r _ n] => k (.int .i64 n)
        | _, _ => .fail, ?_, fun s2 h K => ?_⟩
       · split <;> first | exact Par.fail | exact Par.pure _
       · simp only [opT, ho, hcc]
         rw [hargs s2 h]
         generalize List.map (fun t => (E.ty t).k) c.argTypes.toList = ks
         generalize List.map s.ev c.args.toList = ds
         rcases ks with _ | ⟨k0, _ | ⟨k1, ks⟩⟩ <;> try rfl
     | _ => simp [tempOp, ho, hcc] at ht
   | _ => simp [tempOp, ho, hcc] at ht
 | _ => simp [tempOp, ho] at ht
theorem op_val (hc : cls E o.op = 0) (s : S) : ∃ V : (D → T) → T, Par E rec V ∧ ∀ s2, Agree o s s2 → ∀ K, opT E o s2 K = V (fun d => K (s2.put o.dst d)) := by
 by_cases hn : tempOp o.op = true
 · obtain ⟨V, hV, h⟩ := op_valT (rec := rec) hn s
   exact ⟨V, hV, fun s2 h2 K => h s2 h2.1 K⟩
 cases ho : o.op with
 | pick c x y =>
   refine ⟨fun k => match s.ev c with
    | .bool v => .test v (fun _ => k (s.ev x)) (fun _ => k (s.ev y))
    | _ => .fail, ?_, fun s2 h K => ?_⟩
   · cases s.ev c <;> first | exact Par.fail | exact Par.test _ _ _
   · simp only [opT, ho]
     rw [h.1 c (by simp [ho, Op.operands]), h.1 x (by simp [ho, Op.operands]), h.1 y (by simp [ho, Op.operands])]
     cases s.ev c <;> rfl
 | load t x =>
   refine ⟨fun k => match s.ev x with
    | .pel cs off => if (E.ty t).fits off cs.length then k (part (E.ty t).k.isSt (E.ty t).size cs off) else .fail
    | .pbx r off => match s.box r with
      | some [cs] => if (E.ty t).fits off cs.length then k (part (E.ty t).k.isSt (E.ty t).size cs off) else .fail
      | _ => .fail
    | .pba r z j off => match s.box r with
      | some es => if (E.ty t).fits off z then .fetch es j fun cs => k (part (E.ty t).k.isSt (E.ty t).size cs off) else .fail
      | none => .fail
    | _ => .fail, ?_, fun s2 h K => ?_⟩
   · cases s.ev x <;> dsimp only <;> first
    | exact Par.fail
    | exact Par.ite _ (Par.pure _) Par.fail
    | (split <;> first | exact Par.fail | exact Par.ite _ (Par.pure _) Par.fail | exact Par.ite _ (Par.fetch _ _ _) Par.fail)
   · simp only [opT, ho]
     rw [h.1 x (by simp [ho, Op.operands])]
     simp only [h.2]
     cases s.ev x <;> first | rfl | (rename_i r0 _; generalize s.box r0 = bx; rcases bx with _ | _ | ⟨_, _ | _⟩ <;> rfl) | (rename_i r0 _ _ _; generalize s.box r0 = bx; cases bx <;> rfl)
 | nilCheck x =>
   refine ⟨fun k => match s.ev x with
    | .pbx r off => k (.pbx r off)
    | .pel cs off => k (.pel cs off)
    | .pba r z j off => k (.pba r z j off)
    | .fn f c => k (.fn f c)
    | _ => .fail, ?_, fun s2 h K => ?_⟩
   · cases s.ev x <;> first | exact Par.fail | exact Par.pure _
   · simp only [opT, ho]
     rw [h.1 x (by simp [ho, Op.operands])]
     cases s.ev x <;> rfl
 | indexAddr t x i =>
   refine ⟨fun k => match (E.ty t).k, s.ev x, idx (s.ev i) with
    | .sl _ z _, .sl _ z' es, some j => if z' = z then .fetch es j fun cs => k (.pel cs 0) else .fail
    | .sl _ z _, .asl r z' n, some j => match s.box r with
      | some es => if z' = z then .fetch es j fun _ => k (.pba r z j 0) else .fail
      | none => .fail
    | _, _, _ => .fail, ?_, fun s2 h K => ?_⟩
   · generalize s.ev x = dx
     generalize idx (s.ev i) = di
     split <;> first | exact Par.fail | exact Par.ite _ (Par.fetch _ _ _) Par.fail | (split <;> first | exact Par.fail | exact Par.ite _ (Par.fetch _ _ fun _ => _) Par.fail)
   · simp only [opT, ho]
     rw [h.1 x (by simp [ho, Op.operands]), h.1 i (by simp [ho, Op.operands])]
     simp only [h.2]
     generalize s.ev x = dx
     generalize idx (s.ev i) = di
     cases (E.ty t).k <;> cases dx <;> cases di <;> first | rfl | (rename_i r0 _ _ _; generalize s.box r0 = bx; cases bx <;> rfl)
 | makeFunc fn fst cap =>
   have he : ∀ s2, Agree o s s2 → cap.toList.map s2.ev = cap.toList.map s.ev := fun s2 h => List.map_congr_left fun x hx => h.1 x (by simp only [ho, Op.operands, Array.mem_append]; exact .inr (by simpa using hx))
   cases fn with
   | func f =>
     refine ⟨fun k => if fst.size = 0 then k (.fn f (cap.toList.map s.ev)) else .fail, Par.ite _ (Par.pure _) Par.fail, fun s2 h K => ?_⟩
     simp only [opT, ho]
     rw [he s2 h]
   | _ => exact ⟨fun k => .fail, Par.fail, fun s2 h K => by simp only [opT, ho]⟩
 | slice t x lo hi mx =>
   have hop : ∀ s2, Agree o s s2 → ∀ (d : Int) (y : Option Operand), (∀ z, y = some z → z ∈ o.op.operands) → optI s2 d y = optI s d y := fun s2 h d y hy => by
    cases y with
    | none => rfl
    | some z => simp only [optI]; rw [h.1 z (hy z rfl)]
   refine ⟨fun k => match (E.ty t).k, s.ev x with
    | .sl _ z _, .sl tok z' es =>
      match optI s 0 lo, optI s es.length hi with
      | some l, some h =>
        if z' = z then
         match (generalizing := false) mx with
         | none => match (generalizing := false) hi with
           | none => .need (decide (0 ≤ l) && (decide (l ≤ h) && decide (h ≤ es.length))) (k (.sl (cutTok tok l) z ((es.take h.toNat).drop l.toNat)))
           | some _ => .need (decide (0 ≤ l) && (decide (l ≤ h) && decide (h ≤ es.length))) (k (.sl .ro z ((es.take h.toNat).drop l.toNat)))
         | some m => match (generalizing := false) hi, idx (s.ev m) with
           | some _, some m => .need (decide (0 ≤ l) && (decide (l ≤ h) && (decide (h ≤ es.length) && decide (m = h)))) (k (.sl .cap z ((es.take h.toNat).drop l.toNat)))
           | _, _ => .fail
        else .fail
      | _, _ => .fail
    | .str, .str a =>
      match (generalizing := false) optI s 0 lo, optI s a.size hi, mx with
      | some l, some h, none => .need (decide (0 ≤ l) && (decide (l ≤ h) && decide (h ≤ a.size))) (k (.str (a.extract l.toNat h.toNat)))
      | _, _, _ => .fail
    | _, _ => .fail, ?_, fun s2 h K => ?_⟩
   · generalize s.ev x = dx
     split
     · split
       · refine Par.ite _ ?_ Par.fail
         split
         · split <;> exact Par.need _ (Par.pure _)
         · split <;> first | exact Par.fail | exact Par.need _ (Par.pure _)
       · exact Par.fail
     · split <;> first | exact Par.fail | exact Par.need _ (Par.pure _)
     · exact Par.fail
   · have h1 := h.1 x (by simp [ho, Op.operands])
     have h2 := fun d => hop s2 h d lo (fun z hz => by subst hz; simp [ho, Op.operands])
     have h3 := fun d => hop s2 h d hi (fun z hz => by subst hz; simp [ho, Op.operands])
     have h4 : ∀ m, mx = some m → s2.ev m = s.ev m := fun m hm => h.1 m (by subst hm; simp [ho, Op.operands])
     simp only [opT, ho, h1, h2, h3]
     generalize s.ev x = dx
     generalize optI s 0 lo = l0
     cases (E.ty t).k <;> cases dx <;> first
      | rfl
      | (dsimp only
         generalize optI s _ hi = h0
         cases mx with
         | none => cases l0 <;> cases h0 <;> cases hi <;> rfl
         | some m =>
           have h5 := h4 m rfl
           clear ho h4
           simp only [h5]
           generalize idx (s.ev m) = q
           cases l0 <;> cases h0 <;> cases hi <;> cases q <;> rfl)
 | call c =>
   have hargs : ∀ s2, Agree o s s2 → c.args.toList.map s2.ev = c.args.toList.map s.ev := fun s2 h => List.map_congr_left fun x hx => h.1 x (by
    simp only [ho, Op.operands, Call.operands, Array.mem_append]; exact .inr (by simpa using hx))
   cases hcc : c.callee with
   | invoke rv m => exact ⟨fun k => .fail, Par.fail, fun s2 h K => by simp only [opT, ho, hcc]⟩
   | builtin b =>
     cases b with
     | append => simp [cls, ho, hcc] at hc
     | len => simp [tempOp, ho, hcc] at hn
     | _ => exact ⟨fun k => .fail, Par.fail, fun s2 h K => by simp only [opT, ho, hcc]⟩
   | value g =>
     cases g with
     | func f =>
       refine ⟨fun k => match E.ext f, E.fn f with
        | some _, _ => match argsFor 0 (c.args.toList.map s.ev ++ []), refsOf (c.args.toList.map s.ev ++ []) with
          | some as_, [] => .ext f as_ k
          | _, _ => .fail
        | none, some fi => match argsOf fi.nw (c.args.toList.map s.ev ++ []), refsOf (c.args.toList.map s.ev ++ []) with
         | some as_, [] => .pcall f as_ k
         | _, _ => .fail
        | none, none => .fail, ?_, fun s2 h K => ?_⟩
       · split
         · split <;> first | exact Par.fail | exact Par.ext _ _
         · split <;> first | exact Par.fail | exact Par.pcall _ _
         · exact Par.fail
       · have hptr : ∀ fi, E.ext f = none → E.fn f = some fi → fi.ptr = false := fun fi h1 h2 => by
           simp only [cls, ho, hcc, h1, h2] at hc
           split at hc
           · cases hc
           · rename_i hp; simpa using hp
         simp only [opT, ho, hcc, S.ev]
         have ha' := hargs s2 h
         rw [ha']
         unfold callT
         cases hx : E.ext f with
         | some gx =>
           dsimp only
           generalize argsFor 0 (c.args.toList.map s.ev ++ []) = as_
           generalize refsOf (c.args.toList.map s.ev ++ []) = rs
           cases as_ <;> cases rs <;> rfl
         | none =>
           cases hf : E.fn f with
           | none => rfl
           | some fi =>
             have := hptr fi hx hf
             simp only [this, Bool.false_eq_true, if_false]
             generalize argsOf fi.nw (c.args.toList.map s.ev ++ []) = as_
             generalize refsOf (c.args.toList.map s.ev ++ []) = rs
             cases as_ <;> cases rs <;> rfl
     | _ => simp [cls, ho, hcc] at hc
 | alloc t => simp [cls, ho] at hc
 | box t x => simp [cls, ho] at hc
 | makeSlice t l c => simp [cls, ho] at hc
 | store t x y => simp [cls, ho] at hc
 | move => simp [tempOp, ho] at hn
 | assign => simp [tempOp, ho] at hn
 | binOp => simp [tempOp, ho] at hn
 | unOp => simp [tempOp, ho] at hn
 | convert => simp [tempOp, ho] at hn
 | extract => simp [tempOp, ho] at hn
 | fieldAddr => simp [tempOp, ho] at hn
 | field => simp [tempOp, ho] at hn
 | index => simp [tempOp, ho] at hn
 | build => simp [tempOp, ho] at hn
 | buildSlice => simp [tempOp, ho] at hn
 | _ => exact ⟨fun k => .fail, Par.fail, fun s2 h K => by simp only [opT, ho]⟩
end
section
variable {P : Program} {E : Env} {s : S} {rec : T → Option (X × S)} {r : X × S}
theorem put_comm (s : S) {x y : Option Tmp} (h : ∀ d, x = some d → y ≠ some d) (d e : D) : (s.put x d).put y e = (s.put y e).put x d := by
 cases x with
 | none => rfl
 | some i =>
   cases y with
   | none => rfl
   | some j =>
     have : i ≠ j := fun he => h i rfl (he ▸ rfl)
     simp only [S.put]
     rw [List.set_comm _ _ this]
def S.wtk (s : S) (tk : List Nat) : S := { s with tk := tk }
theorem wtk_put (s : S) (x : Option Tmp) (d : D) (tk : List Nat) : (s.put x d).wtk tk = (s.wtk tk).put x d := by cases x <;> rfl
theorem op_val1 {o : Oper} (hc : cls E o.op = 1) (s : S) : ∃ V : (D × List Nat → T) → T, Par E rec V ∧ ∀ s2, Agree o s s2 → s2.tk = s.tk → ∀ K, opT E o s2 K = V (fun p => K ((s2.wtk p.2).put o.dst p.1)) := by
 cases ho : o.op <;> rw [ho] at hc <;> simp only [cls] at hc <;> (try omega)
 rename_i c
 cases hcc : c.callee with
 | invoke rv m => rw [hcc] at hc; simp at hc
 | value g =>
   rw [hcc] at hc
   cases g <;> simp only at hc <;> (try omega)
   split at hc <;> (try omega)
   split at hc <;> omega
 | builtin b =>
   cases b with
   | append =>
     have hargs : ∀ s2, Agree o s s2 → c.args.toList.map s2.ev = c.args.toList.map s.ev := fun s2 h => List.map_congr_left fun x hx => h.1 x (by
      simp only [ho, Op.operands, Call.operands, Array.mem_append]; exact .inr (by simpa using hx))
     refine ⟨fun k => match c.argTypes.toList.map (fun t => (E.ty t).k), c.args.toList.map s.ev with
      | [.sl e z b, .sl _ _ _], [.sl tok z' es, .sl _ z'' new] => if (decide (z' = z) || decide (tok = .nil)) && (decide (z'' = z) || new.isEmpty) then
        .need (decide ((es.length + new.length) * b ≤ 2 ^ 47) && decide (es.length + new.length ≤ 2 ^ 47)) (.app tok es.length new.length s.tk fun tok' tk' => k (.sl tok' z (es ++ new), tk'))
       else .fail
      | _, _ => .fail, ?_, fun s2 h ht K => ?_⟩
     · split
       · refine Par.ite _ (Par.need _ ?_) Par.fail
         intro k r hr
         simp only [runT] at hr
         split at hr
         · rename_i t' tk' ha
           exact ⟨(.sl t' _ _, tk'), hr, fun k2 r2 hk => by simp only [runT, ha]; exact hk⟩
         · cases hr
       · exact Par.fail
     · simp only [opT, ho, hcc]
       rw [hargs s2 h, ht]
       generalize List.map (fun t => (E.ty t).k) c.argTypes.toList = ks
       generalize List.map s.ev c.args.toList = ds
       rcases ks with _ | ⟨k0, _ | ⟨k1, _ | ⟨k2, ks⟩⟩⟩ <;> first | rfl | (cases k0 <;> rfl) | (cases k0 <;> first | rfl | (cases k1 <;> rfl)) | skip
   | _ => rw [hcc] at hc; simp at hc
def ParS (E : Env) (rec : T → Option (X × S)) (s : S) (dst : Option Tmp) (V : (S → T) → T) : Prop :=
 ∀ K r, runT E rec (V K) = some r → ∃ s', (∃ e, s'.t = (s.put dst e).t) ∧ runT E rec (K s') = some r ∧ ∀ K2 r2, runT E rec (K2 s') = some r2 → runT E rec (V K2) = some r2
theorem ParS.pure {dst : Option Tmp} (s' : S) (h : ∃ e, s'.t = (s.put dst e).t) : ParS E rec s dst fun K => K s' := fun K r hr => ⟨s', h, hr, fun _ _ h => h⟩
theorem ParS.fail {dst : Option Tmp} : ParS E rec s dst fun _ => .fail := fun K r h => by simp [runT] at h
theorem ParS.need {dst : Option Tmp} (b : Bool) {V : (S → T) → T} (h : ParS E rec s dst V) : ParS E rec s dst fun k => .need b (V k) := fun k r hr => by
 simp only [runT] at hr
 split at hr
 · rename_i hb
   obtain ⟨d, h0, h1, h2⟩ := h k r hr
   exact ⟨d, h0, h1, fun k2 r2 hk => by simp only [runT, hb, if_true]; exact h2 k2 r2 hk⟩
 · cases hr
theorem ParS.ite {dst : Option Tmp} (c : Prop) [Decidable c] {V W : (S → T) → T} (h1 : ParS E rec s dst V) (h2 : ParS E rec s dst W) : ParS E rec s dst fun k => if c then V k else W k := by
 by_cases h : c
 · simpa only [h, if_true] using h1
 · simpa only [h, if_false] using h2
theorem ParS.fetch {dst : Option Tmp} (es : Box) (j : Int) (g : List D → S) (h : ∀ cs, ∃ e, (g cs).t = (s.put dst e).t) : ParS E rec s dst fun k => .fetch es j fun cs => k (g cs) := fun k r hr => by
 obtain ⟨h0, cs, hcs, hr⟩ := fetch_inv hr
 exact ⟨g cs, h cs, hr, fun k2 r2 hk => by simp only [runT, h0, if_true, hcs]; exact hk⟩
theorem ParS.of {dst : Option Tmp} {α : Type} {V : (α → T) → T} (h : Par E rec V) (g : α → S) (hg : ∀ d, ∃ e, (g d).t = (s.put dst e).t) : ParS E rec s dst fun K => V fun d => K (g d) := fun K r hr => by
 obtain ⟨d, h1, h2⟩ := h _ r hr
 exact ⟨g d, hg d, h1, fun K2 r2 hk => h2 _ r2 hk⟩
theorem ParS.call {dst : Option Tmp} (f : FuncId) (as_ : List D) (out : List Box) (tk : List Nat) (g : List D → List Box → List Nat → List Box → Option S) (hg : ∀ a b c d s', g a b c d = some s' → ∃ e, s'.t = (s.put dst e).t) :
  ParS E rec s dst fun K => .call f as_ out tk fun a b c d => match g a b c d with
   | some s' => K s'
   | none => .fail := fun K r hr => by
 simp only [runT] at hr
 split at hr
 · rename_i fi hfi
   split at hr
   · rename_i hn
     split at hr
     · rename_i ds out' tk' loc' hs
       cases hq : g ds out' tk' loc' with
       | none => rw [hq] at hr; simp [runT] at hr
       | some s' =>
         rw [hq] at hr
         exact ⟨s', hg _ _ _ _ _ hq, hr, fun k2 r2 hk => by simp only [runT, hfi, hn, if_true, hs, hq]; exact hk⟩
     · cases hr
   · cases hr
 · cases hr
theorem putBoxes_t : ∀ (refs : List Ref) (css : List (List D)) (s : S), (putBoxes s refs css).t = s.t
 | [], _, _ => rfl
 | r :: l, [], _ => rfl
 | r :: l, cs :: m, s => by
   rw [putBoxes, putBoxes_t l m]
   cases r <;> rfl
theorem put_t (s s2 : S) (h : s2.t = s.t) (dst : Option Tmp) (e : D) : (s2.put dst e).t = (s.put dst e).t := by
 cases dst <;> simp [S.put, h]
theorem alloc_t (s : S) (dst : Option Tmp) (b : Box) (p : Ref → D) : ∃ e, (s.alloc dst b p).t = (s.put dst e).t := ⟨p (.loc s.loc.length), by cases dst <;> rfl⟩
theorem setBox_t (s : S) (r : Ref) (b : Box) : (s.setBox r b).t = s.t := by cases r <;> rfl
theorem putBoxes_put : ∀ (refs : List Ref) (css : List (List D)) (s : S) (d : Option Tmp) (v : D), putBoxes (s.put d v) refs css = (putBoxes s refs css).put d v
 | [], _, _, _, _ => rfl
 | r :: l, [], _, _, _ => rfl
 | r :: l, cs :: m, s, d, v => by
   rw [putBoxes, putBoxes, ← putBoxes_put l m]
   congr 1
   cases d <;> cases r <;> rfl
theorem boxesOf_put (s : S) (d : Option Tmp) (v : D) : ∀ refs, boxesOf (s.put d v) refs = boxesOf s refs
 | [] => rfl
 | r :: l => by
   have : (s.put d v).box r = s.box r := by cases d <;> cases r <;> rfl
   rw [boxesOf, boxesOf, this, boxesOf_put s d v l]
theorem leave_t {s s' : S} {refs toks dst ds out tk loc} (h : leave s refs toks dst ds out tk loc = some s') : ∃ e, s'.t = (s.put dst e).t := by
 unfold leave at h
 split at h
 · split at h
   · split at h
     · split at h
       · cases h; refine ⟨_, put_t _ _ ?_ _ _⟩; rfl
       · cases h
     · cases h
   · split at h
     · cases h; exact ⟨_, rfl⟩
     · cases h
 · split at h
   · split at h
     · split at h
       · cases h; refine ⟨_, put_t _ _ ?_ _ _⟩; exact putBoxes_t _ _ _
       · cases h
     · cases h
   · cases h
theorem leaveO_t {s s' : S} {toks dst ds tk} (h : leaveO s toks dst ds tk = some s') : ∃ e, s'.t = (s.put dst e).t := by
 unfold leaveO at h
 split at h
 · split at h
   · cases h; refine ⟨_, put_t _ _ ?_ _ _⟩; rfl
   · cases h
 · cases h
theorem leave_put {s : S} {refs toks dst ds out tk loc} {d : Tmp} {v : D} (hd : dst ≠ some d) : leave (s.put (some d) v) refs toks dst ds out tk loc = (leave s refs toks dst ds out tk loc).map (·.put (some d) v) := by
 have hc : ∀ (s : S) e, (s.put (some d) v).put dst e = (s.put dst e).put (some d) v := fun s e => put_comm s (fun i hi => by cases hi; exact hd) v e
 unfold leave
 cases refs with
 | nil =>
   dsimp only
   split
   · split
     · rw [put_tk]
       split
       · simp only [Option.map_some]; rw [← hc]; rfl
       · rfl
     · rfl
   · split
     · simp only [Option.map_some]; rw [← hc]
     · rfl
 | cons r l =>
   dsimp only
   split
   · rw [put_tk]
     split
     · split
       · simp only [Option.map_some]; rw [← hc, putBoxes_put]; rfl
       · rfl
     · rfl
   · rfl
theorem leaveO_put {s : S} {toks dst ds tk} {d : Tmp} {v : D} (hd : dst ≠ some d) : leaveO (s.put (some d) v) toks dst ds tk = (leaveO s toks dst ds tk).map (·.put (some d) v) := by
 have hc : ∀ (s : S) e, (s.put (some d) v).put dst e = (s.put dst e).put (some d) v := fun s e => put_comm s (fun i hi => by cases hi; exact hd) v e
 unfold leaveO
 split
 · rw [put_tk]
   split
   · simp only [Option.map_some]; rw [← hc]; rfl
   · rfl
 · rfl
theorem callT_par (s : S) (dst : Option Tmp) (f : FuncId) (args : List D) : ParS E rec s dst fun K => callT E s dst f args K := by
 unfold callT
 split
 · split
   · exact .of (Par.ext _ _) _ fun d => ⟨d, rfl⟩
   · exact .fail
 · refine .ite _ (.ite _ ?_ ?_) ?_
   · unfold ocallT
     split
     · refine .ite _ (.call _ _ _ _ _ fun _ _ _ _ _ h => leaveO_t h) .fail
     · exact .fail
   · unfold gcallT
     dsimp only
     split
     · split
       · exact .ite _ (.call _ _ _ _ _ fun _ _ _ _ _ h => leave_t h) .fail
       · exact .fail
     · exact .fail
   · split
     · exact .of (Par.pcall _ _) _ fun d => ⟨d, rfl⟩
     · exact .fail
 · exact .fail
theorem callT_put {s : S} {dst : Option Tmp} {f : FuncId} {args : List D} {K : S → T} {d : Tmp} {v : D} (hd : dst ≠ some d) :
  callT E (s.put (some d) v) dst f args K = callT E s dst f args fun s' => K (s'.put (some d) v) := by
 have hc : ∀ (s : S) e, (s.put (some d) v).put dst e = (s.put dst e).put (some d) v := fun s e => put_comm s (fun i hi => by cases hi; exact hd) v e
 unfold callT
 split
 · split
   · simp only [hc]
   · rfl
 · split
   · split
     · unfold ocallT
       simp only [put_tk]
       split
       · split
         · congr 1
           funext ds _ tk _
           rw [leaveO_put hd]
           cases leaveO s _ dst ds tk <;> rfl
         · rfl
       · rfl
     · unfold gcallT
       simp only [put_tk, boxesOf_put]
       split
       · split
         · split
           · congr 1
             funext ds out tk loc
             rw [leave_put hd]
             cases leave s _ _ dst ds out tk loc <;> rfl
           · rfl
         · rfl
       · rfl
   · simp only [hc]
 · rfl
theorem op_par (o : Oper) (s : S) : ParS E rec s o.dst fun K => opT E o s K := by
 have h0 : cls E o.op = 0 → ParS E rec s o.dst fun K => opT E o s K := fun h => by
  obtain ⟨V, hV, hv⟩ := op_val (E := E) (rec := rec) h s
  rw [show (fun K => opT E o s K) = fun K => V fun d => K (s.put o.dst d) from funext fun K => hv s ⟨fun _ _ => rfl, fun _ => rfl⟩ K]
  exact .of hV _ fun d => ⟨d, rfl⟩
 have h1 : cls E o.op = 1 → ParS E rec s o.dst fun K => opT E o s K := fun h => by
  obtain ⟨V, hV, hv⟩ := op_val1 (E := E) (rec := rec) h s
  rw [show (fun K => opT E o s K) = fun K => V fun p => K ((s.wtk p.2).put o.dst p.1) from funext fun K => hv s ⟨fun _ _ => rfl, fun _ => rfl⟩ rfl K]
  exact .of hV _ fun p => ⟨p.1, by rw [put_t (s := s) (s2 := s.wtk p.2)]; rfl⟩
 cases ho : o.op with
 | alloc t => simp only [opT, ho]; exact .ite _ (.pure _ (alloc_t _ _ _ _)) .fail
 | box t x => simp only [opT, ho]; exact .ite _ (.pure _ (alloc_t _ _ _ _)) .fail
 | makeSlice t l c =>
   simp only [opT, ho]
   split
   · exact .ite _ (.need _ (.pure _ (alloc_t _ _ _ _))) .fail
   · exact .fail
 | store t a x =>
   simp only [opT, ho]
   refine .ite _ ?_ .fail
   split
   · split
     · exact .ite _ (.pure _ ⟨.junk, put_t _ _ (setBox_t _ _ _) _ _⟩) .fail
     · exact .fail
   · split
     · exact .ite _ (.fetch _ _ _ fun cs => ⟨.junk, put_t _ _ (setBox_t _ _ _) _ _⟩) .fail
     · exact .fail
   · exact .fail
 | call c =>
   cases hcc : c.callee with
   | value g =>
     simp only [opT, ho, hcc]
     split
     · exact callT_par _ _ _ _
     · exact .fail
   | builtin b => cases b with
     | append => exact h1 (by simp [cls, ho, hcc])
     | _ => exact h0 (by simp [cls, ho, hcc])
   | invoke _ _ => simp only [opT, ho, hcc]; exact .fail
 | _ => exact h0 (by simp [cls, ho])
theorem ev_put_ne {s : S} {d : Tmp} {v : D} {x : Operand} (h : x ≠ .tmp d) : (s.put (some d) v).ev x = s.ev x := by
 cases x with
 | tmp i =>
   have : d ≠ i := fun he => h (he ▸ rfl)
   simp only [S.ev, S.put, getD_set, this, false_and, if_false]
 | _ => rfl
theorem box_put (s : S) (d : Option Tmp) (v : D) (r : Ref) : (s.put d v).box r = s.box r := by cases d <;> cases r <;> rfl
theorem op_put {o : Oper} {s : S} {d : Tmp} {v : D} (hl : ∀ x ∈ o.op.operands, x ≠ .tmp d) (hd : o.dst ≠ some d) (K : S → T) :
  opT E o (s.put (some d) v) K = opT E o s fun s' => K (s'.put (some d) v) := by
 have hc : ∀ (s : S) e, (s.put (some d) v).put o.dst e = (s.put o.dst e).put (some d) v := fun s e => put_comm s (fun i hi => by cases hi; exact hd) v e
 have hag : Agree o s (s.put (some d) v) := ⟨fun x hx => ev_put_ne (hl x hx), box_put s _ v⟩
 have h0 : cls E o.op = 0 → opT E o (s.put (some d) v) K = opT E o s fun s' => K (s'.put (some d) v) := fun h => by
  obtain ⟨V, hV, hv⟩ := op_val (E := E) (rec := fun _ => none) h s
  rw [hv _ hag, hv s ⟨fun _ _ => rfl, fun _ => rfl⟩]
  simp only [hc]
 have h1 : cls E o.op = 1 → opT E o (s.put (some d) v) K = opT E o s fun s' => K (s'.put (some d) v) := fun h => by
  obtain ⟨V, hV, hv⟩ := op_val1 (E := E) (rec := fun _ => none) h s
  rw [hv _ hag rfl, hv s ⟨fun _ _ => rfl, fun _ => rfl⟩ rfl]
  simp only [wtk_put, hc]
 cases ho : o.op with
 | alloc t => simp only [opT, ho, S.alloc]; congr 1; rw [← hc]; rfl
 | box t x =>
   simp only [opT, ho, S.alloc]
   rw [hag.1 x (by simp [ho, Op.operands])]
   congr 1; rw [← hc]; rfl
 | makeSlice t l c =>
   simp only [opT, ho, S.alloc]
   rw [hag.1 l (by simp [ho, Op.operands]), hag.1 c (by simp [ho, Op.operands])]
   split
   · congr 2; rw [← hc]; rfl
   · rfl
 | store t a x =>
   simp only [opT, ho]
   rw [hag.1 a (by simp [ho, Op.operands]), hag.1 x (by simp [ho, Op.operands])]
   simp only [box_put]
   have hb : ∀ r b, (s.put (some d) v).setBox r b = (s.setBox r b).put (some d) v := fun r b => by cases r <;> rfl
   simp only [hb, hc]
 | call c =>
   cases hcc : c.callee with
   | value g =>
     have ha : c.args.toList.map (s.put (some d) v).ev = c.args.toList.map s.ev := List.map_congr_left fun x hx => hag.1 x (by
      simp only [ho, Op.operands, Call.operands, Array.mem_append]; exact .inr (by simpa using hx))
     have hg : (s.put (some d) v).ev g = s.ev g := hag.1 g (by simp [ho, Op.operands, Call.operands, hcc])
     simp only [opT, ho, hcc, ha, hg]
     split
     · exact callT_put hd
     · rfl
   | builtin b => cases b with
     | append => exact h1 (by simp [cls, ho, hcc])
     | _ => exact h0 (by simp [cls, ho, hcc])
   | invoke _ _ => simp only [opT, ho, hcc]
 | _ => exact h0 (by simp [cls, ho])
end
end Go.Mach
