/- What the statements share: part 11 of a proof by an executable machine over the program's code. -/
import Derived.Test.YtljpfhpcbfpooaaGreatDoorMc10
import Derived.Deep.LoopGhost
set_option linter.unusedVariables false
set_option linter.unusedSimpArgs false
namespace Go.Mach
open Go Go.RowKit
section
variable {P : Program} {E : Env} {F : Fx} {G : Gh} {s : S} {a : Act} {w : World} {Q : Exit → Act → World → Prop} {rec : T → Option (X × S)} {r : X × S} {K : S → T}
theorem puts_take (s : S) : ∀ (l : List Oper) (ds : List D) (i : Nat) (o : Oper), ds.length = l.length → l[i]? = some o → s.puts (l.take (i + 1)) ds = (s.puts (l.take i) ds).put o.dst (ds.getD i .junk) := fun l => by
 induction l generalizing s with
 | nil => intro ds i o _ h; simp at h
 | cons o' l ih =>
   intro ds i o hl ho
   cases ds with
   | nil => simp at hl
   | cons d ds =>
     cases i with
     | zero =>
       simp at ho; subst ho
       cases l <;> rfl
     | succ i => exact ih (s.put o'.dst d) ds i o (by simpa using hl) (by simpa using ho)
theorem op_one (hE : EnvOk P E) (hrec : Sound P E rec) (hdone : ∀ x s r, rec (.done x s) = some r → r = (x, s)) {o : Oper} (hs : Sim F G s a w) {s' : S} (hT : runT E rec (opT E o s (.done .normal)) = some (.normal, s'))
  {J : Act → World → Prop} (hJ : ∀ G' a' w', Sim F G' s' a' w' → J a' w') : o.wp P a w J Q := by
 refine Oper.wp_mono ?_ (op_sound (Q := Q) hE hrec hdone hs hT)
 rintro a' w' ⟨G', s1, h1, h2⟩
 simp only [runT, Option.some.injEq, Prod.mk.injEq, true_and] at h1
 subst h1
 exact hJ G' a' w' h2
theorem St.congr {c : Pc} {f : Bool} {lst lst' : Nat → Bool} (hc : c.Ok) (h : ∀ i, i < c.m + 4 → lst i = lst' i) (hs : St c f lst s) : St c f lst' s := by
 have e0 := h c.m (by omega)
 have e1 := h (c.m + 1) (by omega)
 have e2 := h (c.m + 2) (by omega)
 have e3 := h (c.m + 3) (by omega)
 refine ⟨hs.len, fun i d hi hd hl => hs.set i d hi hd ?_, fun k hk => hs.old k fun i hi => ?_, hs.out, hs.tk, ?_, ?_, ?_, ?_, ?_⟩
 · rw [h i (by have := hc.lt i d hi; omega)]; exact hl
 · rw [h i (by have := hc.lt i k hi; omega)]; exact hk i hi
 · rw [← e0, ← e1, ← e2, ← e3]; exact hs.loc
 · rw [← e0, ← e1, ← e2]; exact hs.u2
 · rw [← e2, ← e3]; exact hs.v2
 · rw [← e0, ← e1]; exact hs.fx
 · rw [← e0, ← e1]; exact hs.fy
def pcOf (E : Env) (P0 : List Oper) (x y : Oper) (tx ty : TypeId) (eu ev : Nat) (s : S) (ds : List D) : Pc :=
 { m := P0.length, s0 := s, dst := fun i => ((P0 ++ [x, y])[i]?).bind (·.dst), ds := ds, zx := [(E.ty tx).zero], zy := [(E.ty ty).zero],
   u := [patch (E.ty tx).zero 0 ((s.puts P0 ds).ev (.tmp eu)).cells], v := [patch (E.ty ty).zero 0 ((s.puts P0 ds).ev (.tmp ev)).cells] }
variable {P0 : List Oper} {x y u v : Oper} {tx ty tu tv : TypeId} {dx dy eu ev ju jv : Nat} {ds : List D}
theorem pc_ok (hd : PairD P0 x y u v tx ty tu tv dx dy eu ev ju jv) : (pcOf E P0 x y tx ty eu ev s ds).Ok := by
 refine ⟨fun i j d hi hj => dst_inj (l := P0 ++ [x, y]) (fun o ho => ?_) ?_ hi hj, fun i d hi => ?_⟩
 · rcases List.mem_append.1 ho with h | h
   · exact hd.pd o h
   · simp only [List.mem_cons, List.not_mem_nil, or_false] at h
     rcases h with rfl | rfl
     · simp [hd.xd]
     · simp [hd.yd]
 · rw [List.filterMap_append]
   have : [x, y].filterMap (·.dst) = [dx, dy] := by simp [List.filterMap_cons, hd.xd, hd.yd]
   rw [this]
   exact (List.perm_append_comm (l₁ := P0.filterMap fun (o : Oper) => o.dst) (l₂ := [dx, dy])).nodup_iff.2 (show ([dx, dy] ++ P0.filterMap fun (o : Oper) => o.dst).Nodup from hd.nd)
 · simp only [pcOf] at hi ⊢
   cases hq : (P0 ++ [x, y])[i]? with
   | none => rw [hq] at hi; cases hi
   | some o =>
     have := (List.getElem?_eq_some_iff.1 hq).1
     simpa using this
theorem pc_low {i : Nat} {o : Oper} {d : Nat} (ho : P0[i]? = some o) (hd : o.dst = some d) : (pcOf E P0 x y tx ty eu ev s ds).dst i = some d := by
 have hi := (List.getElem?_eq_some_iff.1 ho).1
 simp only [pcOf]
 rw [List.getElem?_append_left hi, ho]
 exact hd
theorem pc_x (h : x.dst = some dx) : (pcOf E P0 x y tx ty eu ev s ds).dst P0.length = some dx := by
 simp [pcOf, h]
theorem pc_y (h : y.dst = some dy) : (pcOf E P0 x y tx ty eu ev s ds).dst (P0.length + 1) = some dy := by
 simp [pcOf, h]
theorem st_start {c : Pc} : St c true (fun _ => false) c.s0 :=
 ⟨rfl, fun i d _ _ h => by simp at h, fun k _ => rfl, rfl, rfl, by simp [Pc.bx], by simp, by simp, by simp, by simp⟩
theorem st_take (hd : PairD P0 x y u v tx ty tu tv dx dy eu ev ju jv) (hl : ds.length = P0.length) : ∀ i, i ≤ P0.length → St (pcOf E P0 x y tx ty eu ev s ds) true (fun k => decide (k < i)) (s.puts (P0.take i) ds)
 | 0, _ => by
   have : s.puts (P0.take 0) ds = s := by cases ds <;> rfl
   rw [this]
   have h0 : (fun k => decide (k < 0)) = fun _ : Nat => false := by funext k; simp
   rw [h0]
   exact st_start (c := pcOf E P0 x y tx ty eu ev s ds)
 | i + 1, h => by
   have ho : P0[i]? = some P0[i] := List.getElem?_eq_getElem (by omega)
   obtain ⟨d, hdd⟩ := Option.isSome_iff_exists.1 (hd.pd P0[i] (List.getElem_mem _))
   rw [puts_take s P0 ds i _ hl ho, hdd]
   have := (st_take hd hl i (by omega)).putP (pc_ok hd) (pc_low ho hdd) (show i < P0.length by omega)
   have he : up (fun k => decide (k < i)) i = fun k => decide (k < i + 1) := by
    funext k
    unfold up
    by_cases hk : k = i
    · simp [hk]
    · rw [if_neg hk, Bool.eq_iff_iff]; simp; omega
   rw [he] at this
   exact this
theorem pc_ju {e j : Nat} (h : (P0[j]?).bind (·.dst) = some e) : j < P0.length ∧ (pcOf E P0 x y tx ty eu ev s ds).dst j = some e := by
 cases hq : P0[j]? with
 | none => rw [hq] at h; cases h
 | some o =>
   rw [hq] at h
   exact ⟨(List.getElem?_eq_some_iff.1 hq).1, pc_low hq h⟩
theorem pair_sound (hE : EnvOk P E) (hrec : Sound P E rec) (hdone : ∀ x s r, rec (.done x s) = some r → r = (x, s)) {ops : Array Oper} (hp : pairOk ops.toList = true) (hs : Sim F G s a w)
  (hT : runT E rec (opsT E ops.toList ops.toList s K) = some r) (hQ : ∀ G' s' a' w', runT E rec (K s') = some r → Sim F G' s' a' w' → Q .normal a' w') :
  wpAny P .any ops Q ops.size (Array.replicate ops.size false) a w := by
 obtain ⟨hlow, P0, x, y, u, v, tx, ty, tu, tv, dx, dy, eu, ev, ju, jv, hops, hd⟩ := pairOk_spec hp
 have hget : ∀ i : Nat, ops[i]? = (P0 ++ [x, y, u, v])[i]? := fun i => by rw [← hops, Array.getElem?_toList]
 have hsz : ops.size = P0.length + 4 := by rw [← Array.length_toList, hops]; simp
 have h0 : ∀ k, NF s.loc.length (s.t.getD k .junk) := fun k => by
  by_cases hk : k < s.t.length
  · have := (hs.tmp.2 k hk).nf
    rwa [hs.inv.locLen] at this
  · rw [getD_len hk]; exact .dat _ rfl
 have hbx : ∀ r b, s.box r = some b → ∀ e ∈ b, ∀ c ∈ e, D.noref c = true := fun r b hb e he c hc => by
  refine atom_noref ?_
  cases r with
  | loc i =>
    have hlt := (List.getElem?_eq_some_iff.1 hb).1
    exact (hs.inv.boxL i b (G.loc[i]'(by rw [hs.inv.locLen]; exact hlt)) hb (by simp)).2.2.2.1 e he c hc
  | out i =>
    have hlt := (List.getElem?_eq_some_iff.1 hb).1
    exact (hs.inv.boxO i b (F.out[i]'(by rw [hs.inv.outLen]; exact hlt)) hb (by simp)).2.2.2.1 e he c hc
 rw [hops] at hT
 obtain ⟨ds, hdl, hT2, hval, hnf⟩ := pure_run (n := s.loc.length) P0 s hd.pg h0 hbx hT
 have hc := pc_ok (E := E) (s := s) (ds := ds) hd
 have hPx := pc_x (E := E) (P0 := P0) (y := y) (tx := tx) (ty := ty) (eu := eu) (ev := ev) (s := s) (ds := ds) hd.xd
 have hPy := pc_y (E := E) (P0 := P0) (x := x) (tx := tx) (ty := ty) (eu := eu) (ev := ev) (s := s) (ds := ds) hd.yd
 obtain ⟨hju, hjud⟩ := pc_ju (E := E) (x := x) (y := y) (tx := tx) (ty := ty) (eu := eu) (ev := ev) (s := s) (ds := ds) hd.uj.2
 obtain ⟨hjv, hjvd⟩ := pc_ju (E := E) (x := x) (y := y) (tx := tx) (ty := ty) (eu := eu) (ev := ev) (s := s) (ds := ds) hd.vj.2
 have htake := st_take (E := E) (s := s) hd hdl
 have hP := htake P0.length (Nat.le_refl _)
 rw [List.take_length] at hP
 have hcu : (pcOf E P0 x y tx ty eu ev s ds).u = [patch (E.ty tx).zero 0 ((s.puts P0 ds).ev (.tmp eu)).cells] := rfl
 have hcv : (pcOf E P0 x y tx ty eu ev s ds).v = [patch (E.ty ty).zero 0 ((s.puts P0 ds).ev (.tmp ev)).cells] := rfl
 have hzx : (pcOf E P0 x y tx ty eu ev s ds).zx = [(E.ty tx).zero] := rfl
 have hzy : (pcOf E P0 x y tx ty eu ev s ds).zy = [(E.ty ty).zero] := rfl
 have hm : (pcOf E P0 x y tx ty eu ev s ds).m = P0.length := rfl
 have hcs : (pcOf E P0 x y tx ty eu ev s ds).s0 = s := rfl
 have hcds : (pcOf E P0 x y tx ty eu ev s ds).ds = ds := rfl
 have hlowd : ∀ (i : Nat) (o : Oper) (d : Nat), P0[i]? = some o → o.dst = some d → (pcOf E P0 x y tx ty eu ev s ds).dst i = some d := fun i o d h1 h2 => pc_low h1 h2
 have hdstI : ∀ (i : Nat) (d : Nat), (pcOf E P0 x y tx ty eu ev s ds).dst i = some d → i < P0.length → ∃ o, P0[i]? = some o ∧ o.dst = some d := fun i d h hi => by
  simp only [pcOf] at h
  rw [List.getElem?_append_left hi] at h
  exact ⟨P0[i], List.getElem?_eq_getElem hi, by rwa [List.getElem?_eq_getElem hi] at h⟩
 generalize pcOf E P0 x y tx ty eu ev s ds = c at *
 have hevu : (s.puts P0 ds).ev (.tmp eu) = if eu < s.t.length then ds.getD ju .junk else .junk := by
  have := hP.ev_low hjud (by simpa using hju) (by omega)
  rwa [hcs, hcds] at this
 have hevv : (s.puts P0 ds).ev (.tmp ev) = if ev < s.t.length then ds.getD jv .junk else .junk := by
  have := hP.ev_low hjvd (by simpa using hjv) (by omega)
  rwa [hcs, hcds] at this
 have heu : ∀ {f lst s'}, St c f lst s' → lst ju = true → s'.ev (.tmp eu) = (s.puts P0 ds).ev (.tmp eu) := fun {f lst s'} h hl => by
  rw [hevu, h.ev_low hjud hl (by omega), hcs, hcds]
 have hev : ∀ {f lst s'}, St c f lst s' → lst jv = true → s'.ev (.tmp ev) = (s.puts P0 ds).ev (.tmp ev) := fun {f lst s'} h hl => by
  rw [hevv, h.ev_low hjvd hl (by omega), hcs, hcds]
 have hvx : ∀ f, c.val f c.m = .pbx (.loc (c.rx f)) 0 := fun f => by simp [Pc.val, Pc.rx]
 have hvy : ∀ f, c.val f (c.m + 1) = .pbx (.loc (c.ry f)) 0 := fun f => by simp [Pc.val, Pc.ry]
 rw [← hm] at hPx hPy
 obtain ⟨hzx1, hzy1, hdxL, hdyL, hfu, hfv, s4, hS4, hK⟩ : ((E.ty tx).k.known && decide (0 < (E.ty tx).zero.length)) = true ∧ ((E.ty ty).k.known && decide (0 < (E.ty ty).zero.length)) = true ∧ dx < s.t.length ∧ dy < s.t.length ∧
   fillOk E tu (E.ty tx).zero ((s.puts P0 ds).ev (.tmp eu)).cells ∧ fillOk E tv (E.ty ty).zero ((s.puts P0 ds).ev (.tmp ev)).cells ∧ ∃ s4, St c true (fun k => decide (k < c.m + 4)) s4 ∧ runT E rec (K s4) = some r := by
  rw [opsT_cons] at hT2
  simp only [gT, hd.xg] at hT2
  obtain ⟨hzx1, hT3⟩ := alloc_inv hd.xo hT2
  rw [opsT_cons] at hT3
  simp only [gT, hd.yg] at hT3
  obtain ⟨hzy1, hT4⟩ := alloc_inv hd.yo hT3
  rw [hd.xd, hd.yd, ← hzx, ← hzy] at hT4
  have hS1 := hP.allocX hc hPx (by simp [hm])
  have hf1 : (!decide (c.m + 1 < P0.length)) = true := by simp [hm]
  rw [hf1] at hS1
  have hS2 := hS1.allocY hc hPy (by rw [up_ne (by omega)]; simp [hm])
  rw [up_eq] at hS2
  generalize ((s.puts P0 ds).alloc (some dx) c.zx fun x => .pbx x 0).alloc (some dy) c.zy (fun x => .pbx x 0) = s2 at hS2 hT4
  have hl0 : up (up (fun k => decide (k < P0.length)) c.m) (c.m + 1) c.m = true := by rw [up_ne (by omega), up_eq]
  have hl1 : up (up (fun k => decide (k < P0.length)) c.m) (c.m + 1) (c.m + 1) = true := up_eq
  rw [opsT_cons] at hT4
  simp only [gT, hd.ug] at hT4
  have hex := hS2.ev hPx hl0
  have hey := hS2.ev hPy hl1
  rw [hcs] at hex hey
  have hdxL : dx < s.t.length := by
   refine Decidable.byContradiction fun hn => ?_
   rw [if_neg hn] at hex
   exact store_old hd.uo hex hT4
  rw [if_pos hdxL, hvx] at hex
  obtain ⟨hb1, hS3⟩ := hS2.storeU hc hl0 hl1 (by rw [up_ne (by omega), up_ne (by omega)]; simp; omega)
  rw [hzx] at hb1
  obtain ⟨hfu, hT5⟩ := store_inv hd.uo hd.ud hex hb1 hT4
  have hu2 := heu hS2 (by rw [up_ne (by omega), up_ne (by omega)]; simpa using hju)
  rw [hu2] at hfu hT5
  rw [← hcu] at hT5
  rw [opsT_cons] at hT5
  simp only [gT, hd.vg] at hT5
  have hey3 := hS3.ev hPy (by rw [up_ne (by omega)]; exact hl1)
  rw [hcs] at hey3
  have hdyL : dy < s.t.length := by
   refine Decidable.byContradiction fun hn => ?_
   rw [if_neg hn] at hey3
   exact store_old hd.vo hey3 hT5
  rw [if_pos hdyL, hvy] at hey3
  obtain ⟨hb2, hS4⟩ := hS3.storeV hc (by rw [up_ne (by omega)]; exact hl0) (by rw [up_ne (by omega)]; exact hl1) up_eq (by rw [up_ne (by omega), up_ne (by omega), up_ne (by omega)]; simp; omega)
  rw [hzy] at hb2
  obtain ⟨hfv, hT6⟩ := store_inv hd.vo hd.vd hey3 hb2 hT5
  have hv2 := hev hS3 (by rw [up_ne (by omega), up_ne (by omega), up_ne (by omega)]; simpa using hjv)
  rw [hv2] at hfv hT6
  rw [← hcv] at hT6
  refine ⟨hzx1, hzy1, hdxL, hdyL, hfu, hfv, _, hS4.congr hc fun i hi => ?_, hT6⟩
  unfold up
  simp only [hm] at hi ⊢
  by_cases h1 : i = P0.length + 3
  · simp [h1]
  · by_cases h2 : i = P0.length + 2
    · simp [h2]
    · by_cases h3 : i = P0.length + 1
      · simp [h3]
      · by_cases h4 : i = P0.length
        · simp [h4]
        · simp only [h1, h2, h3, h4, if_false]
          rw [Bool.eq_iff_iff]; simp; omega
 refine wpAny_ind (J := fun lst a w => ∃ G s' f, Sim F G s' a w ∧ St c f lst s') (fun i o ho e he hb => hlow i o (by simpa using ho) e he hb) (fun i o ho => ?_) ?_ ?_ _ _ a w (by simp) (by rw [left_start]; simp) ?_
 · rw [hget] at ho
   have hmem := List.mem_of_getElem? ho
   rcases List.mem_append.1 hmem with h | h
   · exact (hd.pg o h).1
   · simp only [List.mem_cons, List.not_mem_nil, or_false] at h
     rcases h with rfl | rfl | rfl | rfl
     · exact hd.xg
     · exact hd.yg
     · exact hd.ug
     · exact hd.vg
 · rintro lst a w i o ⟨G, s', f, hsim, hst⟩ ho hli hedge
   have hbind : ∀ j, bindsOn o j = true → lst j = true := fun j hj => by
    obtain ⟨e, he, hb, rfl⟩ := bindsOn_iff hj
    exact hedge e he hb
   have hupe : (fun k => if k = i then true else lst k) = up lst i := rfl
   rw [hget] at ho
   by_cases hi : i < P0.length
   · rw [List.getElem?_append_left hi] at ho
     obtain ⟨d, hdd⟩ := Option.isSome_iff_exists.1 (hd.pd o (List.mem_of_getElem? ho))
     have hv := hval i o ho s' (fun x' hx' => ?_) (fun rr b hb => ?_)
     · rw [hdd] at hv
       refine op_one hE hrec hdone hsim hv fun G' a' w' hs' => ⟨G', _, f, hs', ?_⟩
       rw [← hcds]
       exact hst.putP hc (hlowd i o d ho hdd) (by omega)
     · cases x' with
       | tmp t =>
         obtain ⟨hne1, hne2, hpa⟩ := hd.pa i o ho t hx'
         have hTi := htake i (by omega)
         by_cases hq : ∃ j, c.dst j = some t
         · obtain ⟨j, hj⟩ := hq
           have hjlt := hc.lt j t hj
           have hjm : j < P0.length := by
            refine Decidable.byContradiction fun hn => ?_
            have : j = c.m ∨ j = c.m + 1 := by omega
            rcases this with rfl | rfl
            · rw [hPx] at hj; exact hne1 (Option.some.inj hj).symm
            · rw [hPy] at hj; exact hne2 (Option.some.inj hj).symm
           obtain ⟨p, hp1, hp2⟩ := hdstI j t hj hjm
           have hbj := hpa j p hp1 hp2
           obtain ⟨e, he, hb, rfl⟩ := bindsOn_iff hbj
           have hji : e.on < i := hlow i o (by rw [hops, List.getElem?_append_left hi]; exact ho) e he hb
           rw [hst.ev_low hj (hedge e he hb) (by omega), hTi.ev_low hj (by simpa using hji) (by omega)]
         · have hn : ∀ lst' : Nat → Bool, ∀ j, c.dst j = some t → lst' j = false := fun _ j hj => absurd ⟨j, hj⟩ hq
           exact (hst.old t (hn lst)).trans (hTi.old t (hn _)).symm
       | _ => rfl
     · have hTi := htake i (by omega)
       have hl1 := hTi.loc
       have hl2 := hst.loc
       have e0 : decide (c.m < i) = false := by simp; omega
       have e1 : decide (c.m + 1 < i) = false := by simp; omega
       simp only [e0, e1, Pc.bx, List.append_nil] at hl1
       cases rr with
       | loc k =>
         simp only [S.box] at hb ⊢
         rw [hl1] at hb
         rw [hl2, List.getElem?_append_left (List.getElem?_eq_some_iff.1 hb).1]; exact hb
       | out k =>
         simp only [S.box] at hb ⊢
         rw [hTi.out] at hb
         rw [hst.out]; exact hb
   · rw [List.getElem?_append_right (by omega)] at ho
     have hi4 : i - P0.length < 4 := (List.getElem?_eq_some_iff.1 ho).1
     have h4 : i = c.m ∨ i = c.m + 1 ∨ i = c.m + 2 ∨ i = c.m + 3 := by omega
     rcases h4 with rfl | rfl | rfl | rfl
     · rw [hm, Nat.sub_self] at ho
       cases ho
       refine op_one hE hrec hdone (s' := s'.alloc (some dx) c.zx fun x => .pbx x 0) hsim ?_ fun G' a' w' hs' => ⟨G', _, _, hs', hst.allocX hc hPx hli⟩
       rw [alloc_fwd hd.xo hzx1, hd.xd, hzx]; rfl
     · rw [hm, Nat.add_sub_cancel_left] at ho
       cases ho
       refine op_one hE hrec hdone (s' := s'.alloc (some dy) c.zy fun x => .pbx x 0) hsim ?_ fun G' a' w' hs' => ⟨G', _, _, hs', hst.allocY hc hPy hli⟩
       rw [alloc_fwd hd.yo hzy1, hd.yd, hzy]; rfl
     · rw [hm, Nat.add_sub_cancel_left] at ho
       cases ho
       have l0 := hbind _ hd.u0
       have l1 := hbind _ hd.u1
       rw [← hm] at l0 l1
       obtain ⟨hb1, hS3⟩ := hst.storeU hc l0 l1 hli
       rw [hzx] at hb1
       have hex := hst.ev hPx l0
       rw [hcs, if_pos hdxL, hvx] at hex
       have hu2 := heu hst (hbind _ hd.uj.1)
       refine op_one hE hrec hdone (s' := s'.setBox (.loc (c.rx f)) c.u) hsim ?_ fun G' a' w' hs' => ⟨G', _, f, hs', hS3⟩
       rw [store_fwd hd.uo hd.ud hex hb1 (by rw [hu2]; exact hfu), hu2, ← hcu]; rfl
     · rw [hm, Nat.add_sub_cancel_left] at ho
       cases ho
       have l0 := hbind _ hd.v0
       have l1 := hbind _ hd.v1
       have l2 := hbind _ hd.v2
       rw [← hm] at l0 l1 l2
       obtain ⟨hb1, hS3⟩ := hst.storeV hc l0 l1 l2 hli
       rw [hzy] at hb1
       have hex := hst.ev hPy l1
       rw [hcs, if_pos hdyL, hvy] at hex
       have hv2 := hev hst (hbind _ hd.vj.1)
       refine op_one hE hrec hdone (s' := s'.setBox (.loc (c.ry f)) c.v) hsim ?_ fun G' a' w' hs' => ⟨G', _, f, hs', hS3⟩
       rw [store_fwd hd.vo hd.vd hex hb1 (by rw [hv2]; exact hfv), hv2, ← hcv]; rfl
 · rintro lst a w ⟨G, s', f, hsim, hst⟩ hall
   have hS4' : St c true lst s4 := hS4.congr hc fun i hi => by rw [hall i (by omega)]; simpa using hi
   have hall' : ∀ i, i < c.m + 4 → lst i = true := fun i hi => hall i (by omega)
   cases f with
   | true =>
     have := hst.eq hS4' (fun i hi => hall' i (by omega)) hc
     subst this
     exact hQ G s' a w hK hsim
   | false =>
     obtain ⟨G', h1⟩ := hst.turn hc hall' hS4' hsim (by rw [hcs]; exact h0) (by rw [hcs, hcds]; exact hnf)
     exact hQ G' s4 a w hK h1
 · refine ⟨G, s, true, hs, ?_⟩
   have hst := htake 0 (Nat.zero_le _)
   have e : s.puts (P0.take 0) ds = s := by cases ds <;> rfl
   rw [e] at hst
   refine hst.congr hc fun i hi => ?_
   have : (Array.replicate ops.size false).getD i false = false := by
    simp only [Array.getD_eq_getD_getElem?, Array.getElem?_replicate]
    split <;> rfl
   rw [this]; simp
end
section
variable {P : Program} {E : Env} {F : Fx} {G : Gh} {s : S} {a : Act} {w : World} {o : Oper} {Q : Exit → Act → World → Prop} {rec : T → Option (X × S)} {r : X × S} {K : S → T}
theorem keepT_spec (keep : List Nat) (n : Nat) : ∀ (l : List D) (k : Nat), (keepT keep n k l).length = l.length ∧ ∀ i, (keepT keep n k l).getD i .junk = .junk ∨ ((keepT keep n k l).getD i .junk = l.getD i .junk ∧ stale n (l.getD i .junk) = false)
 | [], k => ⟨rfl, fun i => .inl (by simp [keepT])⟩
 | d :: l, k => by
   obtain ⟨h1, h2⟩ := keepT_spec keep n l (k + 1)
   refine ⟨by simp [keepT, h1], fun i => ?_⟩
   cases i with
   | zero =>
     simp only [keepT, List.getD_cons_zero]
     split
     · rename_i h
       simp only [Bool.and_eq_true, Bool.not_eq_true'] at h
       exact .inr ⟨rfl, h.2⟩
     · exact .inl rfl
   | succ i => simpa only [keepT, List.getD_cons_succ] using h2 i
def Gh.cutLoc (G : Gh) (n : Nat) : Gh := { G with loc := G.loc.take n }
theorem Rep.cut {tk d v} (n : Nat) (h : Rep F G tk w d v) (hs : stale n d = false) : Rep F (G.cutLoc n) tk w d v := by
 have hp : ∀ i p, i < n → place F G (.loc i) = some p → place F (G.cutLoc n) (.loc i) = some p := fun i p hi h => by
  simp only [place, Gh.cutLoc] at h ⊢
  rw [List.getElem?_take, if_pos hi]; exact h
 induction h with
 | junk v => exact .junk v
 | dat h ht => rename_i d v; exact .dat h (by cases d <;> exact ht)
 | pel cs off b p f h1 h2 h3 h4 => exact .pel cs off b p f h1 h2 h3 h4
 | asl r z m cap b o h1 h2 =>
   cases r with
   | out i => exact .asl _ z m cap b o h1 h2
   | loc i => exact .asl _ z m cap b o (hp i _ (by simpa [stale] using hs) h1) h2
 | pba r z i off b o m h1 h2 =>
   cases r with
   | out j => exact .pba _ z i off b o m h1 h2
   | loc j => exact .pba _ z i off b o m (hp j _ (by simpa [stale] using hs) h1) h2
 | pbx r off b o z m h1 =>
   cases r with
   | out j => exact .pbx _ off b o z m h1
   | loc j => exact .pbx _ off b o z m (hp j _ (by simpa [stale] using hs) h1)
 | fn f cap vs hl hh ih =>
   refine .fn f cap vs hl fun i hi => ih i hi ?_
   have hcc : (cap.getD i .junk).capOk = true := by
    simp only [stale, Bool.not_eq_false'] at hs
    rw [List.getD_eq_getElem?_getD, List.getElem?_eq_getElem hi]; exact List.all_eq_true.1 hs _ (List.getElem_mem hi)
   revert hcc
   generalize cap.getD i .junk = d
   intro hcc
   cases d <;> first | rfl | simp [D.capOk] at hcc
theorem BoxR.cut {tk es p} (n : Nat) (h : BoxR F G tk w es p) : BoxR F (G.cutLoc n) tk w es p := by
 obtain ⟨h1, h2, h3, h4, h5⟩ := h
 refine ⟨h1, h2, h3, h4, fun i j hi hj => ?_⟩
 obtain ⟨v, e1, e2, e3⟩ := h5 i j hi hj
 refine ⟨v, e1, e2, e3.cut n ?_⟩
 have hm : es.getD i [] ∈ es := by rw [List.getD_eq_getElem?_getD, List.getElem?_eq_getElem hi]; exact List.getElem_mem hi
 have ha := h4 _ hm _ (mem_getD (by rw [h3 _ hm]; exact hj))
 revert ha
 generalize (es.getD i []).getD j .junk = d
 intro ha
 cases d <;> first | rfl | simp [D.atom] at ha
theorem Sim.clean (hs : Sim F G s a w) (keep : List Nat) (n : Nat) : Sim F (G.cutLoc n) (Mach.clean keep n s) a w := by
 have hi := hs.inv
 have hf := hi.fr
 have hsub : ∀ b ∈ blocks F (G.cutLoc n), b ∈ blocks F G := fun b hb => by
  simp only [blocks, Gh.cutLoc, List.mem_append, List.mem_map] at hb ⊢
  rcases hb with hb | ⟨p, hp, rfl⟩ | hb
  · exact .inl hb
  · exact .inr (.inl ⟨p, List.mem_of_mem_take hp, rfl⟩)
  · exact .inr (.inr hb)
 refine ⟨⟨by simp [Gh.cutLoc, Mach.clean, hi.locLen], hi.outLen, fun i es p h1 h2 => ?_, fun i es p h1 h2 => (hi.boxO i es p h1 h2).cut n, ?_, fun b hb => hi.live b (hsub b hb), fun p hp => hi.locNew p (List.mem_of_mem_take hp), hi.tkLen, hi.tkNew, hi.tkOld, fun p hp => hi.iceBox p ?_, hi.iceBig,
  ⟨hf.os, hf.tape, hf.output, hf.size, hf.same, hf.ext0, hf.ice⟩⟩, ⟨?_, fun i hi' => ?_⟩, hs.def0⟩
 · simp only [Mach.clean, Gh.cutLoc, List.getElem?_take] at h1 h2
   split at h1
   · rename_i hin
     rw [if_pos hin] at h2
     exact (hi.boxL i es p h1 h2).cut n
   · cases h1
 · refine hi.nd.sublist ?_
   simp only [blocks, Gh.cutLoc]
   exact (List.Sublist.refl _).append (((List.take_sublist n G.loc).map _).append (List.Sublist.refl _))
 · rcases List.mem_append.1 hp with hp | hp
   · exact List.mem_append_left _ hp
   · exact List.mem_append_right _ (List.mem_of_mem_take hp)
 · simp only [Mach.clean]; rw [(keepT_spec keep n s.t 0).1]; exact hs.tmp.1
 · obtain ⟨h1, h2⟩ := keepT_spec keep n s.t 0
   simp only [Mach.clean] at hi' ⊢
   rw [h1] at hi'
   rcases h2 i with h | ⟨h, h'⟩
   · rw [h]; exact .junk _
   · rw [h]; exact (hs.tmp.2 i hi').cut n h'
theorem callR_le {rec rec' : T → Option (X × S)} (h : ∀ t r, rec t = some r → rec' t = some r) {f : FuncId} {fi : FnI} {as_ : List D} {out : List Box} {tk : List Nat} {q : List D × List Box × List Nat × List Box} (hc : callR E rec f fi as_ out tk = some q) : callR E rec' f fi as_ out tk = some q := by
 unfold callR at hc ⊢
 split
 · rename_i g hg; simpa only [hg] using hc
 · rename_i hg
   simp only [hg] at hc
   split at hc
   · rename_i s hs; rw [h _ _ hs]; exact hc
   · rename_i s hs; rw [h _ _ hs]; exact hc
   · cases hc
theorem runT_mono {rec rec' : T → Option (X × S)} (h : ∀ t r, rec t = some r → rec' t = some r) (t : T) : ∀ r, runT E rec t = some r → runT E rec' t = some r := by
 induction t with
 | done x s => intro r hr; exact hr
 | fail => intro r hr; exact hr
 | need b k ih => intro r hr; simp only [runT] at hr ⊢; split at hr <;> rename_i hb <;> simp only [hb, if_true, if_false, Bool.false_eq_true] <;> first | exact ih r hr | cases hr
 | test b x y ihx ihy => intro r hr; simp only [runT] at hr ⊢; split at hr <;> rename_i hb <;> simp only [hb, if_true, if_false, Bool.false_eq_true] <;> first | exact ihx _ r hr | exact ihy _ r hr
 | fetch es i k ih =>
   intro r hr
   obtain ⟨h0, cs, hcs, hr⟩ := fetch_inv hr
   simp only [runT, h0, if_true, hcs]
   exact ih cs r hr
 | app t n m tk k ih =>
   intro r hr
   simp only [runT] at hr ⊢
   split at hr
   · exact ih _ _ r hr
   · cases hr
 | ext f args k ih =>
   intro r hr
   simp only [runT] at hr ⊢
   split at hr
   · split at hr
     · exact ih _ r hr
     · cases hr
   · cases hr
 | pcall f args k ih =>
   intro r hr
   simp only [runT] at hr ⊢
   split at hr
   · split at hr
     · rename_i hn
       simp only [hn, if_true]
       split at hr
       · rename_i s hs
         rw [h _ _ hs]
         simp only
         split at hr
         · exact ih _ r hr
         · cases hr
       · rename_i s hs
         rw [h _ _ hs]
         simp only
         split at hr
         · exact ih _ r hr
         · cases hr
       · cases hr
     · cases hr
   · cases hr
 | call f args out tk k ih =>
   intro r hr
   simp only [runT] at hr ⊢
   split at hr
   · split at hr
     · rename_i hn
       simp only [hn, if_true]
       split at hr
       · rename_i hc
         rw [callR_le h hc]
         exact ih _ _ _ _ r hr
       · cases hr
     · cases hr
   · cases hr
 | loop b kp s k ih =>
   intro r hr
   simp only [runT] at hr ⊢
   split at hr
   · rename_i s' hs
     rw [h _ _ hs]
     exact h _ _ hr
   · rename_i e s' hne hs
     rw [h _ _ hs]
     cases e with
     | normal => exact absurd rfl hne
     | exit i => exact ih _ _ r hr
     | ret => exact ih _ _ r hr
   · cases hr
theorem run_mono (n : Nat) : ∀ t r, run E n t = some r → run E (n + 1) t = some r := by
 induction n with
 | zero => exact fun t r h => runT_mono (fun _ _ h => by cases h) t r h
 | succ n ih => exact fun t r h => runT_mono ih t r h
theorem run_le {m n : Nat} (h : m ≤ n) (t : T) (r : X × S) (hr : run E m t = some r) : run E n t = some r := by
 induction h with
 | refl => exact hr
 | step _ ih => exact run_mono _ _ _ ih
def LoopSound (P : Program) (E : Env) (rn : T → Option (X × S)) : Prop :=
 ∀ (b : Code) (kp : Nat → List Nat) (s : S) (K : X → S → T) (r : X × S) (F : Fx) (G : Gh) (a : Act) (w : World), rn (.loop b kp s K) = some r → Sim F G s a w →
  (Code.loop b).wp P (fun e a' w' => ∃ x, MatchX e x ∧ After F G s w (fun s' => rn (K x s') = some r) a' w') a w
theorem tree_sound (hE : EnvOk P E) (hrec : Sound P E rec) (hdone : ∀ x s r, rec (.done x s) = some r → r = (x, s)) (hloop : LoopSound P E (runT E rec)) : Sound P E (runT E rec) := by
 intro code
 induction code with
 | skip => intro kp s K r F G a w hT hs; exact wp_skip ⟨.normal, trivial, G, s, hT, hs⟩
 | ret => intro kp s K r F G a w hT hs; exact wp_ret ⟨.ret, trivial, G, s, hT, hs⟩
 | exit id => intro kp s K r F G a w hT hs; exact wp_exit ⟨.exit id, rfl, G, s, hT, hs⟩
 | seq x y ihx ihy =>
   intro kp s K r F G a w hT hs
   refine wp_seq (wp_mono (ihx kp s _ r F G a w hT hs) ?_)
   rintro e a' w' ⟨x', hm, G', s', h1, h2⟩
   cases e <;> cases x' <;> first
    | exact hm.elim
    | exact ihy kp s' K r F G' a' w' h1 h2
    | exact ⟨_, hm, G', s', h1, h2⟩
 | cond c x y ihx ihy =>
   intro kp s K r F G a w hT hs
   simp only [tree] at hT
   split at hT
   · rename_i v hv
     have hev := hs.ev c
     rw [hv] at hev
     refine wp_cond (t := v) hev.bool_inv ?_
     simp only [runT] at hT
     cases v
     · exact ihy kp s K r F G a w (by simpa using hT) hs
     · exact ihx kp s K r F G a w (by simpa using hT) hs
   · simp [runT] at hT
 | block id x ih =>
   intro kp s K r F G a w hT hs
   refine wp_block (wp_mono (ih kp s _ r F G a w hT hs) ?_)
   rintro e a' w' ⟨x', hm, G', s', h1, h2⟩
   cases e <;> cases x' <;> first
    | exact hm.elim
    | (rename_i i j
       have hij : i = j := hm
       subst hij
       have h1' : runT E rec (if i = id then K .normal s' else K (.exit i) s') = some r := h1
       by_cases hid : i = id
       · simp only [Exit.inBlock, hid, if_true]
         rw [if_pos hid] at h1'
         exact ⟨.normal, trivial, G', s', h1', h2⟩
       · simp only [Exit.inBlock, hid, if_false]
         rw [if_neg hid] at h1'
         exact ⟨.exit i, rfl, G', s', h1', h2⟩)
    | exact ⟨_, hm, G', s', h1, h2⟩
 | loop b _ =>
   intro kp s K r F G a w hT hs
   have hT' : runT E rec (.loop b kp (clean (kp (firstRegion b)) s.loc.length s) K) = some r := hT
   exact wp_mono (hloop b kp _ K r F _ a w hT' (hs.clean (kp (firstRegion b)) s.loc.length)) (fun e a' w' ⟨x, hx, G', s', h1, h2⟩ => ⟨x, hx, G', s', h1, h2⟩)
 | region id ops draw =>
   intro kp s K r F G a w hT hs
   cases draw with
   | false =>
     simp only [tree] at hT
     refine wp_region_list ?_
     exact ops_sound (C := fun _ => True) hE hrec hdone ops.toList ops.toList s G a w hs hT (fun G' s' a' w' h1 h2 => ⟨.normal, trivial, G', s', h1, h2⟩)
   | true =>
     simp only [tree, runT] at hT
     split at hT
     · rename_i hd'
       refine wp_region_any hE.mixed ?_
       rcases Bool.or_eq_true_iff.1 hd' with hd' | hd'
       · refine drawn_sound (K := K .normal) hE hrec hdone ops (drawOk_spec hd') (fun G' s' a' w' h1 h2 => ⟨.normal, trivial, G', s', h1, h2⟩) _ _ s G a _ (by simp) ?_ (by rw [left_start]; simp) hs.drew ?_
         · intro i hi
           simp only [Array.getD_eq_getD_getElem?, Array.getElem?_replicate] at hi
           split at hi <;> simp at hi
         · rw [left_start, range_ops, ← Array.length_toList, List.take_length]; exact hT
       · exact pair_sound (K := K .normal) hE hrec hdone hd' hs.drew hT (fun G' s' a' w' h1 h2 => ⟨.normal, trivial, G', s', h1, h2⟩)
     · cases hT
 | _ => intro kp s K r F G a w hT hs; simp [tree, runT] at hT
theorem run_done (n : Nat) : ∀ x s r, run E n (.done x s) = some r → r = (x, s) := by
 intro x s r h
 cases n <;> (simp only [run, runT, Option.some.injEq] at h; exact h.symm)
theorem loop_sound (n : Nat) (hS : ∀ m, m < n → Sound P E (run E m)) : LoopSound P E (run E n) := by
 intro b kp s K r F G a w hT hs
 refine wp_loop_ghost (fun m a w => ∃ s G, m ≤ n ∧ run E m (.loop b kp s K) = some r ∧ Sim F G s a w) n ⟨s, G, Nat.le_refl _, hT, hs⟩ ?_
 rintro m a w ⟨s, G, hm, hT, hs⟩
 cases m with
 | zero => simp [run, runT] at hT
 | succ m =>
   simp only [run, runT] at hT
   split at hT
   · rename_i s' hrun
     refine wp_mono (hS m (by omega) b kp s .done _ F G a w hrun hs) ?_
     rintro e a' w' ⟨x, hx, G', s1, h1, h2⟩
     have := run_done _ _ _ _ h1
     injection this with q1 q2
     subst q1 q2
     cases e <;> first | exact hx.elim | exact ⟨m, Nat.lt_succ_self m, _, _, by omega, hT, h2.clean _ _⟩
   · rename_i x0 s' hne hrun
     refine wp_mono (hS m (by omega) b kp s .done _ F G a w hrun hs) ?_
     rintro e a' w' ⟨x, hx, G', s1, h1, h2⟩
     have := run_done _ _ _ _ h1
     injection this with q1 q2
     subst q1 q2
     have hT' : run E n (K x0 s') = some r := run_le hm _ _ (by simpa [run] using hT)
     cases e <;> cases x0 <;> first
      | exact hx.elim
      | exact absurd rfl hne
      | exact ⟨_, hx, G', s', hT', h2⟩
   · cases hT
theorem sound (hE : EnvOk P E) (n : Nat) : Sound P E (run E n) := by
 induction n using Nat.strongRecOn with
 | _ n ih =>
   have hl := loop_sound n ih
   cases n with
   | zero => exact tree_sound hE (fun code kp s K r F G a w h _ => by cases h) (fun x s r h => by cases h) hl
   | succ n => exact tree_sound hE (ih n (Nat.lt_succ_self n)) (run_done n) hl
end
section
variable {E : Env} {Q R : X → S → Prop}
structure Den (E : Env) (t : T) (Q : X → S → Prop) : Prop where
 ex : ∃ n x s, run E n t = some (x, s) ∧ Q x s
theorem run_runT (n : Nat) (t : T) : run E (n + 1) t = runT E (run E n) t := rfl
theorem Den.up {t : T} (h : Den E t Q) : ∃ n x s, (∀ m, n ≤ m → run E m t = some (x, s)) ∧ Q x s := by
 obtain ⟨n, x, s, h1, h2⟩ := h
 exact ⟨n, x, s, fun m hm => run_le hm _ _ h1, h2⟩
theorem Den.mono {t : T} (h : Den E t Q) (hq : ∀ x s, Q x s → R x s) : Den E t R := by
 obtain ⟨n, x, s, h1, h2⟩ := h
 exact ⟨n, x, s, h1, hq x s h2⟩
theorem Den.done {x : X} {s : S} (h : Q x s) : Den E (.done x s) Q := ⟨0, x, s, rfl, h⟩
theorem Den.need {b : Bool} {k : T} (hb : b = true) (h : Den E k Q) : Den E (.need b k) Q := by
 obtain ⟨n, x, s, h1, h2⟩ := h.up
 refine ⟨n + 1, x, s, ?_, h2⟩
 rw [run_runT]; simp only [runT, hb, if_true]
 exact h1 (n + 1) (by omega)
theorem Den.test {b : Bool} {p q : Unit → T} (h1 : b = true → Den E (p ()) Q) (h0 : b = false → Den E (q ()) Q) : Den E (.test b p q) Q := by
 cases b with
 | true =>
   obtain ⟨n, x, s, h1, h2⟩ := (h1 rfl).up
   exact ⟨n + 1, x, s, by rw [run_runT]; simp only [runT, if_true]; exact h1 (n + 1) (by omega), h2⟩
 | false =>
   obtain ⟨n, x, s, h1, h2⟩ := (h0 rfl).up
   exact ⟨n + 1, x, s, by rw [run_runT]; simp only [runT, Bool.false_eq_true, if_false]; exact h1 (n + 1) (by omega), h2⟩
theorem Den.fetch {es : Box} {i : Int} {cs : List D} {k : List D → T} (h0 : 0 ≤ i) (hi : es[i.toNat]? = some cs) (h : Den E (k cs) Q) : Den E (.fetch es i k) Q := by
 obtain ⟨n, x, s, h1, h2⟩ := h.up
 exact ⟨n + 1, x, s, by rw [run_runT]; simp only [runT, h0, if_true, hi]; exact h1 (n + 1) (by omega), h2⟩
theorem Den.app {t t' : Tok} {n m : Nat} {tk tk' : List Nat} {k : Tok → List Nat → T} (ha : appTok t n m tk = some (t', tk')) (h : Den E (k t' tk') Q) : Den E (.app t n m tk k) Q := by
 obtain ⟨n, x, s, h1, h2⟩ := h.up
 exact ⟨n + 1, x, s, by rw [run_runT]; simp only [runT, ha]; exact h1 (n + 1) (by omega), h2⟩
theorem Den.ext {f : FuncId} {as_ : List D} {g : List D → Option D} {d : D} {k : D → T} (he : E.ext f = some g) (hg : g as_ = some d) (h : Den E (k d) Q) : Den E (.ext f as_ k) Q := by
 obtain ⟨n, x, s, h1, h2⟩ := h.up
 exact ⟨n + 1, x, s, by rw [run_runT]; simp only [runT, he, hg]; exact h1 (n + 1) (by omega), h2⟩
def Ans (E : Env) (f : FuncId) (as_ : List D) (d : D) : Prop :=
 ∃ fi, E.fn f = some fi ∧ as_.length ≤ fi.ntmps ∧ Den E (tree E fi.keep fi.body (enterS fi as_ [] []) .done) fun x s => (x = .normal ∨ x = .ret) ∧ outD E fi.nw s fi.res = some d
theorem Den.pcall {f : FuncId} {as_ : List D} {d : D} {k : D → T} (ha : Ans E f as_ d) (h : Den E (k d) Q) : Den E (.pcall f as_ k) Q := by
 obtain ⟨fi, hf, hn, hd⟩ := ha
 obtain ⟨n, x, s, h1, h2⟩ := h.up
 obtain ⟨m, x', s', g1, g2, g3⟩ := hd.up
 refine ⟨max n m + 1, x, s, ?_, h2⟩
 rw [run_runT]
 simp only [runT, hf, hn, if_true]
 rw [g1 (max n m) (Nat.le_max_right _ _)]
 have h3 := h1 (max n m + 1) (by omega)
 rw [run_runT] at h3
 rcases g2 with rfl | rfl <;> (simp only [g3]; exact h3)
def Gns (E : Env) (f : FuncId) (as_ : List D) (out : List Box) (tk : List Nat) (R : List D → List Box → List Nat → List Box → Prop) : Prop :=
 ∃ fi, E.fn f = some fi ∧ as_.length ≤ fi.ntmps ∧ ∃ n q, (∀ m, n ≤ m → callR E (run E m) f fi as_ out tk = some q) ∧ R q.1 q.2.1 q.2.2.1 q.2.2.2
theorem Gns.of {f : FuncId} {fi : FnI} {as_ : List D} {out : List Box} {tk : List Nat} {R : List D → List Box → List Nat → List Box → Prop} (hx : E.extc f = none) (hf : E.fn f = some fi) (hn : as_.length ≤ fi.ntmps)
  (h : Den E (tree E fi.keep fi.body (enterS fi as_ out tk) .done) fun x s => (x = .normal ∨ x = .ret) ∧ ∃ ds, resD E s fi.res = some ds ∧ R ds s.out s.tk s.loc) : Gns E f as_ out tk R := by
 obtain ⟨n, x, s, g1, g2, ds, g3, hR⟩ := h.up
 refine ⟨fi, hf, hn, n, (ds, s.out, s.tk, s.loc), fun m hm => ?_, hR⟩
 unfold callR
 simp only [hx]
 rw [g1 m hm]
 rcases g2 with rfl | rfl <;> simp only [g3, Option.map_some]
theorem Gns.ofC {f : FuncId} {fi : FnI} {as_ : List D} {out : List Box} {tk : List Nat} {R : List D → List Box → List Nat → List Box → Prop} {g} (hx : E.extc f = some g) (hf : E.fn f = some fi) (hn : as_.length ≤ fi.ntmps) {q} (hq : g as_ out tk = some q) (hR : R q.1 q.2.1 q.2.2.1 q.2.2.2) : Gns E f as_ out tk R :=
 ⟨fi, hf, hn, 0, q, fun m _ => by unfold callR; simp only [hx]; exact hq, hR⟩
theorem Den.call {f : FuncId} {as_ : List D} {out : List Box} {tk : List Nat} {k : List D → List Box → List Nat → List Box → T} (ha : Gns E f as_ out tk fun ds o t l => Den E (k ds o t l) Q) : Den E (.call f as_ out tk k) Q := by
 obtain ⟨fi, hf, hn, m, q, g1, h⟩ := ha
 obtain ⟨n, x, s, h1, h2⟩ := h.up
 refine ⟨max n m + 1, x, s, ?_, h2⟩
 rw [run_runT]
 simp only [runT, hf, hn, if_true]
 rw [g1 (max n m) (Nat.le_max_right _ _)]
 have h3 := h1 (max n m + 1) (by omega)
 rw [run_runT] at h3
 exact h3
theorem Den.loop {b : Code} {kp : Nat → List Nat} {s : S} {k : X → S → T} (h : Den E (tree E kp b s .done) fun x s' => match x with
  | .normal => Den E (.loop b kp (clean (kp (firstRegion b)) s.loc.length s') k) Q
  | x => Den E (k x s') Q) : Den E (.loop b kp s k) Q := by
 obtain ⟨n, x, s', h1, h2⟩ := h.up
 have hfin : ∀ m x2 s2, (∀ j, m ≤ j → run E j (match x with | .normal => .loop b kp (clean (kp (firstRegion b)) s.loc.length s') k | x => k x s') = some (x2, s2)) → run E (max n m + 1) (.loop b kp s k) = some (x2, s2) := fun m x2 s2 hm => by
  rw [run_runT]
  simp only [runT]
  rw [h1 (max n m) (Nat.le_max_left _ _)]
  cases x with
  | normal => exact hm _ (Nat.le_max_right _ _)
  | exit i => have := hm (max n m + 1) (by omega); rw [run_runT] at this; exact this
  | ret => have := hm (max n m + 1) (by omega); rw [run_runT] at this; exact this
 have h2' : Den E (match (generalizing := false) x with | .normal => .loop b kp (clean (kp (firstRegion b)) s.loc.length s') k | x => k x s') Q := by
  cases x <;> exact h2
 obtain ⟨m, x2, s2, g1, g2⟩ := h2'.up
 exact ⟨_, x2, s2, hfin m x2 s2 g1, g2⟩
theorem Den.ind {b : Code} {kp : Nat → List Nat} {K : X → S → T} (M : Nat → S → Prop) : ∀ (k : Nat) (s : S), M k s →
  (∀ k s, M k s → Den E (tree E kp b s .done) fun x s' => match x with
   | .normal => ∃ k', k' < k ∧ M k' (clean (kp (firstRegion b)) s.loc.length s')
   | x => Den E (K x s') Q) → Den E (.loop b kp s K) Q := by
 intro k
 induction k using Nat.strongRecOn with
 | _ k ih =>
   intro s hM hstep
   refine Den.loop (Den.mono (hstep k s hM) ?_)
   intro x s' h
   cases x with
   | normal =>
     obtain ⟨k', h1, h2⟩ := h
     exact ih k' h1 _ h2 hstep
   | exit i => exact h
   | ret => exact h
end
end Go.Mach
