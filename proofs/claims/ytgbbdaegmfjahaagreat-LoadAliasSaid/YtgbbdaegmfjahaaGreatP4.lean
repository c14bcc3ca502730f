/- A state said in other words: the machine stays where it is. -/
import Derived.Test.YtgbbdaegmfjahaaGreatP3
set_option linter.unusedVariables false
namespace Go.V
open Go.RowKit
section
variable {P : Program} {T : Tab} {N : Nat} {av0 : Nat → Prop} {w0 : Kp} {sp : List (D × Value)} {s s' : VS} {a : Act} {w w' : World} {E E' : Env} {f : FuncId} {b : Frame} {cs : List Frame} {ro : Option Nat} {n0 : Nat} {Post : Option Code → VS → Prop} {todo : List Item}
noncomputable def EndsP (d : D) (d1 : D) (rs1 : List Root) : Prop := optW (reifyD rs1 d1) fun d2 => DLe d2 d
theorem fun_pure (hty : TyOK P T) {fn : Func} (hf : P.funcs[f]? = some fn) (hname : (fn.name == "runtime.NumGoroutine") = false) {c : Code} (hc : fn.body = some c) {ds : List D} {d : D} (hlen : ds.length ≤ fn.ntmps)
    (hg : ∀ (b : Frame) (cs : List Frame), b.fn = f → Goal P T fn.ntmps b cs none 0 (leafQ T fn.results.toList (EndsP d)) [.code c] ⟨argSlots 0 ds, [], []⟩) : LoCon T P f ds [] d [] := by
  refine ⟨⟨fn, hf, hname, by simp [hc]⟩, ?_⟩
  intro N av0 w0 sp sl df a w E vs h0 hv cs
  obtain ⟨b, tm, hbf, hbr, hbk, henter, hR⟩ := enter_R (P := P) (f := f) hf hc hlen h0 hv
  have hE0 : E = [] := List.eq_nil_of_length_eq_zero h0.len
  subst hE0
  have hlow : ∀ x ∈ spOf sl a ++ sp, lowD 0 x.1 = true := fun x hx => DRel.low (hR.spec x hx)
  obtain ⟨j, s, a', w1, E', todo', hk, hR', hn', hend, hpost, hsteps⟩ := hg b cs hbf _ _ _ _ _ _ (Nat.le_refl _) hlow hbr hR argSlots_nil
  obtain ⟨hret, hpost⟩ := nd_iff.1 hpost
  obtain ⟨x, hres0, hpost⟩ := optW_ok hpost
  obtain ⟨d2, hreify, hle⟩ := optW_ok hpost
  obtain ⟨d1, rs1⟩ := x
  unfold endF at hres0
  split at hres0
  case h_2 => simp at hres0
  rename_i rs2 htake
  split at hres0
  case h_2 => simp at hres0
  rename_i d3 hres
  simp only [Option.some.injEq, Prod.mk.injEq] at hres0
  obtain ⟨rfl, rfl⟩ := hres0
  have hback : Steps P (lone (b.atR a' todo') cs w1) (lone { b.atR a' todo' with mode := .returning } cs w1) := by
    cases j with
    | none =>
      have hend : todo' = [] := hend
      subst hend
      exact .one (stepR_end hbr)
    | some c' =>
      rcases hend with ⟨k, rfl, rfl⟩ | ⟨id, k, rfl, _, _⟩
      · exact .one (stepR_ret hbr)
      · simp [retB] at hret
  have hR'' : R T fn.ntmps av0 w0 (spOf sl a ++ sp) ⟨s.sl, s.rs, s.df⟩ a' w1 E' := hR'
  obtain ⟨w2, hR2, hst2⟩ := take_run (P := P) (cs := cs) s.df (fr := { b.atR a' todo' with mode := .returning }) htake hR'' rfl rfl
  obtain ⟨pr, hpr1, hpr2⟩ := resF_D (s := ⟨s.sl, rs2, []⟩) hn' hres
  obtain ⟨v, hrv, hdv⟩ := results_sound hty hR2 hpr1 hpr2
  have hR3 : R T fn.ntmps av0 w0 (spOf sl a ++ sp) ⟨[], rs2, []⟩ { a' with defers := [] } w2 E' := ⟨hR2.size, hR2.defers, hR2.spec, hR2.below, hR2.len, hR2.outer, hR2.roots, hR2.blk, hR2.inj, fun t d c q => by simp [look] at q, hR2.glob⟩
  have hcut := hR3.cut (n := 0) (Nat.zero_le _) hlow (fun t d q => by simp [look] at q) (fun t d c q => by simp [look] at q) (fun r hr => by cases hr) (fun q x hx => by simp at hx)
  have hd2 : DRel [] av0 w2 d2 v := reifyD_rel hR2 (Spare.outer hR2) hreify hdv
  refine ⟨.returned v, w2, { { b.atR a' todo' with mode := .returning } with defers := [] }, ⟨v, [], rfl, Kept.refl _, h0.back (s' := ⟨[], [], []⟩) hcut (Env.le_refl _), ?_⟩, ?_, ?_, ?_, ?_, ?_, fn, ?_, hrv⟩
  · refine hle _ _ _ _ (DRel.mono (Env.le_refl _) (Keeps.refl _ w2) (fun b _ q => (AV_nil b).1 q) hd2)
  · rw [henter]
    exact (hsteps.trans hback).trans hst2
  all_goals first | rfl | exact hbf | exact hbk | exact hbr | exact (show P.funcs[b.fn]? = some fn from hbf ▸ hf)
theorem Goal.ghost (g : Goal P T N b cs ro n0 Post todo s') (h : ∀ av0 w0 sp a w E, (∀ x ∈ sp, lowD n0 x.1 = true) → n0 ≤ s.rs.length → R T N av0 w0 sp s a w E → NilS s.sl → ∃ E', E'.take n0 = E.take n0 ∧ R T N av0 w0 sp s' a w E' ∧ NilS s'.sl) : Goal P T N b cs ro n0 Post todo s := by
  intro av0 w0 sp a w E hn0 hlow hro hR hn
  obtain ⟨E', h1, h2, h3⟩ := h av0 w0 sp a w E hlow hn0 hR hn
  have hl : n0 ≤ s'.rs.length := by
    have e := congrArg List.length h1
    rw [List.length_take, List.length_take, hR.len, h2.len] at e
    omega
  have := g av0 w0 sp a w E' hl hlow (by rw [h1]; exact hro) h2 h3
  rw [h1] at this
  exact this
theorem Goal.swap {r : Nat} {x y : Root} (hr : nthF s.rs r = some x) (hl : y.live → x.live) (hx : ∀ (base : Nat) (E : Env) (w : World) e av, RootRel E av base w e x → RootRel E av base w e y)
    (g : Goal P T N b cs ro n0 Post todo { s with rs := setAt s.rs r y }) : Goal P T N b cs ro n0 Post todo s :=
  g.ghost fun av0 w0 sp a w E hlow hn0 hR hn => ⟨E, rfl, by
    rw [nthF_get] at hr
    rw [setAt_eq]
    exact hR.swap hr hl fun e av q _ => hx _ _ _ _ _ q, hn⟩
def ILe (x y : I) : Prop := ∀ av w v, IRel av w x v → IRel av w y v
theorem ILe.refl (x : I) : ILe x x := fun _ _ _ h => h
theorem ILe.nil (sz : Nat) (get : Nat → Nat → I) : ILe (.v (.slice none 0 0)) (.sl sz 0 get) := by
  rintro av w v ⟨rfl, _⟩
  exact ⟨none, 0, rfl, Nat.le_refl _, Nat.zero_le _, fun h => by omega⟩
theorem Goal.arr {r el sz n : Nat} {get get' : Nat → Nat → I} (hr : nthF s.rs r = some (.arr el sz n get)) (h : ∀ i, i < n → ∀ j, j < sz → ILe (get i j) (get' i j))
    (g : Goal P T N b cs ro n0 Post todo { s with rs := setAt s.rs r (.arr el sz n get') }) : Goal P T N b cs ro n0 Post todo s :=
  Goal.swap (x := .arr el sz n get) hr (fun _ => trivial) (fun base E w e av q => by
    obtain ⟨p1, p2, xs, p3, p4⟩ := q
    exact ⟨p1, p2, xs, p3, fun i hi j hj => by
      obtain ⟨x, p5, p6⟩ := p4 i hi j hj
      exact ⟨x, p5, h i hi j hj _ _ _ p6⟩⟩) g
theorem Goal.freeze {r : Nat} (h : Go.V.freeze r s = some s') (g : Goal P T N b cs ro n0 Post todo s') : Goal P T N b cs ro n0 Post todo s :=
  g.ghost fun av0 w0 sp a w E hlow hn0 hR hn => ⟨E, rfl, (hR.freeze h).1, (hR.freeze h).2 hn⟩
noncomputable def wkS (sl : Slots) : Slots → Prop
  | [] => True
  | x :: l => (x.2.2 = [] ∧ ∃ d0, lookF sl x.1 = some d0 ∧ DLe d0 x.2.1) ∧ wkS sl l
theorem wkS_mem {sl : Slots} : ∀ {l : Slots}, wkS sl l → ∀ x ∈ l, x.2.2 = [] ∧ ∃ d0, lookF sl x.1 = some d0 ∧ DLe d0 x.2.1
  | [], _, x, hx => by cases hx
  | y :: l, h, x, hx => by
    rcases List.mem_cons.1 hx with rfl | hx
    · exact h.1
    · exact wkS_mem h.2 x hx
theorem Goal.slots {sl' : Slots} (h : wkS s.sl sl') (g : Goal P T N b cs ro n0 Post todo { s with sl := sl' }) : Goal P T N b cs ro n0 Post todo s :=
  g.ghost fun av0 w0 sp a w E hlow hn0 hR hn => ⟨E, rfl, ⟨hR.size, hR.defers, hR.spec, hR.below, hR.len, hR.outer, hR.roots, hR.blk, hR.inj, fun t d c hl => by
    obtain ⟨h1, d0, h2, h3⟩ := wkS_mem h _ (look_memX hl)
    have h1 : c = [] := h1
    subst h1
    have h4 := lookF_look hn h2
    obtain ⟨q1, q2, q3⟩ := hR.slots t d0 [] h4
    exact ⟨q1, fun q => h3 _ _ _ _ (q2 q), q3⟩, hR.glob⟩, fun x hx => (wkS_mem h x hx).1⟩
theorem R.nilRow (h : R T N av0 w0 sp s a w E) (el sz : Nat) (get : Nat → Nat → I) : R T N av0 w0 sp { s with rs := s.rs ++ [.arr el sz 0 get] } a w (E ++ [(Option.none, .slice Option.none 0 0, sz)]) := by
  have hE := Env.le_append E [(Option.none, Value.slice Option.none 0 0, sz)]
  have hat : ∀ {r b z : Nat}, atRoot (E ++ [(Option.none, Value.slice Option.none 0 0, sz)]) r b z → atRoot E r b z := by
    rintro r b z ⟨hh, q⟩
    rcases Nat.lt_or_ge r E.length with hr | hr
    · rw [List.getElem?_append_left hr] at q; exact ⟨hh, q⟩
    · rw [List.getElem?_append_right hr] at q
      rcases Nat.eq_zero_or_pos (r - E.length) with e | e
      · rw [e] at q; simp at q
      · rw [List.getElem?_eq_none (by simp; omega)] at q; simp at q
  have key : ∀ (r : Nat) (y : Root) (b z : Nat), (s.rs ++ [Root.arr el sz 0 get])[r]? = some y → y.live → atRoot (E ++ [(Option.none, Value.slice Option.none 0 0, sz)]) r b z → s.rs[r]? = some y := by
    intro r y b z h1 h2 h3
    have hlt := lt_of_at (hat h3)
    rw [h.len] at hlt
    rwa [List.getElem?_append_left hlt] at h1
  have hav : ∀ b, AV av0 (s.rs ++ [.arr el sz 0 get]) (E ++ [(Option.none, .slice Option.none 0 0, sz)]) b → AV av0 s.rs E b := by
    rintro b (q | ⟨r, x, z, h1, h2, h3⟩)
    · exact .inl q
    · exact .inr ⟨r, x, z, key r x b z h1 h2 h3, h2, hat h3⟩
  refine h.upd (rs' := s.rs ++ [.arr el sz 0 get]) hE (Keeps.refl _ w) h.below (fun b _ q => hav b q) (by simp [h.len]) ?_ ?_ ?_
  · intro r x e h1 h2
    rcases Nat.lt_or_ge r s.rs.length with hr | hr
    · rw [List.getElem?_append_left hr] at h1
      rw [List.getElem?_append_left (by rw [h.len]; exact hr)] at h2
      exact RootRel.mono hE (Keeps.refl _ w) (fun b _ q => hav b q) (fun _ _ _ => rfl) (h.roots r x e h1 h2)
    · have hr2 : r < s.rs.length + 1 := by simpa using (List.getElem?_eq_some_iff.1 h1).1
      have e0 : r = s.rs.length := by omega
      subst e0
      rw [List.getElem?_append_right (Nat.le_refl _)] at h1
      rw [List.getElem?_append_right (by rw [h.len]; exact Nat.le_refl _)] at h2
      simp at h1
      rw [h.len] at h2
      simp at h2
      subst h1 h2
      exact ⟨rfl, rfl, [], w.ownsRow_nil _ _ _, fun i hi => by omega⟩
  · intro r x b z h1 h2 h3
    exact h.blk r x b z (key r x b z h1 h2 h3) h2 (hat h3)
  · intro r r' x x' b z z' h1 h1' h2 h2' h3 h3'
    exact h.inj r r' x x' b z z' (key r x b z h1 h2 h3) (key r' x' b z' h1' h2' h3') h2 h2' (hat h3) (hat h3')
noncomputable def noI : Nat → Nat → I := fun _ _ => .v (.bool false)
noncomputable def adoptS (t : Tmp) (el sz : Nat) (s : VS) : VS := { s with sl := (t, .c (.sa s.rs.length 0), []) :: s.sl, rs := s.rs ++ [.arr el sz 0 noI] }
theorem Goal.adopt {t : Tmp} {el sz : Nat} (ht : lookF s.sl t = some (.c (.im (.v (.slice none 0 0))))) (g : Goal P T N b cs ro n0 Post todo (adoptS t el sz s)) : Goal P T N b cs ro n0 Post todo s :=
  g.ghost fun av0 w0 sp a w E hlow hn0 hR hn => by
    have h1 := hR.nilRow el sz noI
    refine ⟨_, ?_, ⟨h1.size, h1.defers, h1.spec, h1.below, h1.len, h1.outer, h1.roots, h1.blk, h1.inj, fun u d c hl => ?_, h1.glob⟩, hn.cons t _⟩
    · rw [List.take_append_of_le_length (by rw [hR.len]; exact hn0)]
    · simp only [adoptS, look] at hl
      split at hl
      · rename_i he
        have he := of_beq he
        subst he
        simp only [Option.some.injEq, Prod.mk.injEq] at hl
        obtain ⟨rfl, rfl⟩ := hl
        obtain ⟨q1, q2, q3⟩ := hR.slots t _ _ (lookF_look hn ht)
        refine ⟨q1, fun q => ?_, q3⟩
        obtain ⟨hv, _⟩ := q2 q
        rw [hv]
        exact ⟨(none, .slice none 0 0, sz), none, 0, 0, by rw [← hR.len]; simp, rfl, Nat.le_refl _, rfl⟩
      · exact h1.slots u d c hl
noncomputable def adoptB (r j el sz : Nat) (l : List C) (s : VS) : VS := { s with rs := setAt s.rs r (.box (setAt l j (.sa s.rs.length 0))) ++ [.arr el sz 0 noI] }
theorem Goal.adoptBox {r j el sz : Nat} {l : List C} (hr : nthF s.rs r = some (.box l)) (hj : nthF l j = some (.im (.v (.slice none 0 0)))) (g : Goal P T N b cs ro n0 Post todo (adoptB r j el sz l s)) : Goal P T N b cs ro n0 Post todo s :=
  g.ghost fun av0 w0 sp a w E hlow hn0 hR hn => by
    rw [nthF_get] at hr hj
    have h1 := hR.nilRow el sz noI
    have hrl : r < s.rs.length := (List.getElem?_eq_some_iff.1 hr).1
    have h2 := h1.swap (r := r) (x := .box l) (y := .box (setAt l j (.sa s.rs.length 0))) (by
      show (s.rs ++ [_])[r]? = _
      rw [List.getElem?_append_left hrl]; exact hr) (fun _ => trivial) (fun e av ⟨bb, vs, Tc, p1, p2, p3, p4⟩ _ => ⟨bb, vs, Tc, p1, by rw [setAt_eq]; simpa using p2, p3, by
        rw [setAt_eq]
        refine All2.of_get (by simpa using p4.length) fun i x v hx hv => ?_
        rw [List.getElem?_set] at hx
        split at hx
        · rename_i hji
          subst hji
          split at hx
          · simp only [Option.some.injEq] at hx
            subst hx
            obtain ⟨hv2, _⟩ := p4.get hj hv
            rw [hv2]
            exact ⟨(none, .slice none 0 0, sz), none, 0, 0, by rw [← hR.len]; simp, rfl, Nat.le_refl _, rfl⟩
          · simp at hx
        · exact p4.get hx hv⟩)
    refine ⟨E ++ [(none, .slice none 0 0, sz)], ?_, ?_, hn⟩
    rotate_left
    · have e : (s.rs ++ [Root.arr el sz 0 noI]).set r (.box (setAt l j (.sa s.rs.length 0))) = setAt s.rs r (.box (setAt l j (.sa s.rs.length 0))) ++ [.arr el sz 0 noI] := by
        rw [setAt_eq, setAt_eq, List.set_append, if_pos hrl]
      have h2 : R T N av0 w0 sp { s with rs := (s.rs ++ [Root.arr el sz 0 noI]).set r (.box (setAt l j (.sa s.rs.length 0))) } a w (E ++ [(none, .slice none 0 0, sz)]) := h2
      rw [e] at h2
      exact h2
    · rw [List.take_append_of_le_length (by rw [hR.len]; exact hn0)]
noncomputable def posF (q : Nat) (l : List Nat) : Option Nat := List.rec none (fun x _ ih => Bool.rec (match ih with
  | some k => some (k + 1)
  | none => none) (some 0) (Nat.beq x q)) l
noncomputable def posL (π : List Nat) (l : List Nat) : Option (List Nat) := List.rec (some []) (fun x _ ih => match posF x π, ih with
  | some y, some r => some (y :: r)
  | _, _ => none) l
noncomputable def renC (π : List Nat) (c : C) : Option C := match c with
  | .im x => some (.im x)
  | .rt r i j => match posF r π with
    | some k => some (.rt k i j)
    | none => none
  | .sa r m => match posF r π with
    | some k => some (.sa k m)
    | none => none
  | .mp r => match posF r π with
    | some k => some (.mp k)
    | none => none
  | .yl r => match posF r π with
    | some k => some (.yl k)
    | none => none
  | .clo f l => match posL π l with
    | some l' => some (.clo f l')
    | none => none
noncomputable def renCs (π : List Nat) (l : List C) : Option (List C) := List.rec (some []) (fun x _ ih => match renC π x, ih with
  | some y, some r => some (y :: r)
  | _, _ => none) l
noncomputable def renD (π : List Nat) (d : D) : Option D := match d with
  | .c x => match renC π x with
    | some y => some (.c y)
    | none => none
  | .a l => match renCs π l with
    | some m => some (.a m)
    | none => none
  | .t [] => some (.t [])
  | .t _ => none
noncomputable def renSl (π : List Nat) (l : Slots) : Option Slots := List.rec (some []) (fun x _ ih => match renD π x.2.1, ih with
  | some y, some r => some ((x.1, y, x.2.2) :: r)
  | _, _ => none) l
noncomputable def renR (π : List Nat) (x : Root) : Option Root := match x with
  | .box l => match renCs π l with
    | some m => some (.box m)
    | none => none
  | .row el sz n l => match renCs π l with
    | some m => some (.row el sz n m)
    | none => none
  | .loop f N sl ps as bd st pend => match renSl π sl with
    | some sl' => some (.loop f N sl' ps as bd st pend)
    | none => none
  | x => some x
noncomputable def renRs (π : List Nat) (rs : List Root) (l : List Nat) : Option (List Root) := List.rec (some []) (fun q _ ih => match nthF rs q with
  | some x => match renR π x, ih with
    | some y, some r => some (y :: r)
    | _, _ => none
  | none => none) l
noncomputable def nodupB (l : List Nat) : Bool := List.rec true (fun x l ih => Bool.rec ih false (memN x l)) l
noncomputable def headB (n : Nat) (k : Nat) : List Nat → Bool := Nat.rec (fun _ _ => true) (fun _ ih k l => match l with
  | x :: l => Bool.rec false (ih (k + 1) l) (Nat.beq x k)
  | [] => false) n k
noncomputable def renS (n0 : Nat) (π : List Nat) (s : VS) : Option VS := match renSl π s.sl, renRs π s.rs π, posL π s.df with
  | some sl, some rs, some df => Bool.rec none (some ⟨sl, rs, df⟩) (nodupB π && headB n0 0 π)
  | _, _, _ => none
theorem posF_some : ∀ {l : List Nat} {q k : Nat}, posF q l = some k → l[k]? = some q
  | [], q, k, h => by simp [posF] at h
  | x :: l, q, k, h => by
    have h : (Bool.rec (match posF q l with
      | some k => some (k + 1)
      | none => none) (some 0) (Nat.beq x q) : Option Nat) = some k := h
    cases hb : Nat.beq x q with
    | true =>
      rw [hb] at h
      simp only [Option.some.injEq] at h
      subst h
      rw [of_beq hb]; rfl
    | false =>
      rw [hb] at h
      simp only at h
      split at h
      · rename_i k' hk
        simp only [Option.some.injEq] at h
        subst h
        simpa using posF_some hk
      · simp at h
noncomputable def renE (π : List Nat) (E : Env) : Env := π.map fun q => E.getD q hole
theorem renE_get {π : List Nat} {k q : Nat} (h : π[k]? = some q) {e : Option Nat × Value × Nat} (he : E[q]? = some e) : (renE π E)[k]? = some e := by
  unfold renE
  rw [List.getElem?_map, h]
  simp [List.getD, he]
theorem renE_inv {π : List Nat} {k : Nat} {e : Option Nat × Value × Nat} (he : (renE π E)[k]? = some e) (hne : e ≠ hole) : ∃ q, π[k]? = some q ∧ E[q]? = some e := by
  unfold renE at he
  rw [List.getElem?_map] at he
  cases hq : π[k]? with
  | none => rw [hq] at he; simp at he
  | some q =>
    rw [hq] at he
    simp only [Option.map_some, Option.some.injEq] at he
    refine ⟨q, rfl, ?_⟩
    cases hE : E[q]? with
    | none => rw [List.getD, hE] at he; simp at he; exact (hne he.symm).elim
    | some e' => rw [List.getD, hE] at he; simp at he; rw [he]
theorem renE_at {π : List Nat} {k q b sz : Nat} (h : posF q π = some k) : atRoot E q b sz → atRoot (renE π E) k b sz := fun ⟨hh, q1⟩ => ⟨hh, renE_get (posF_some h) q1⟩
section
variable {π : List Nat} {av av' : Nat → Prop}
theorem posL_rel {E : Env} : ∀ {l l' : List Nat} {vs : List Value}, posL π l = some l' → All2 (fun r x => ∃ b sz, atRoot E r b sz ∧ x = .pointer (some ⟨b, 0, none⟩)) l vs → All2 (fun r x => ∃ b sz, atRoot (renE π E) r b sz ∧ x = .pointer (some ⟨b, 0, none⟩)) l' vs
  | [], l', _, h, .nil => by
    have h : some [] = some l' := h
    simp only [Option.some.injEq] at h
    subst h; exact .nil
  | x :: l, l', _, h, .cons q k => by
    have h : (match posF x π, posL π l with
      | some y, some r => some (y :: r)
      | _, _ => none) = some l' := h
    split at h
    case h_2 => simp at h
    rename_i h1 h2
    simp only [Option.some.injEq] at h
    subst h
    obtain ⟨b, sz, q1, q2⟩ := q
    exact .cons ⟨b, sz, renE_at h1 q1, q2⟩ (posL_rel h2 k)
theorem posL_df {E : Env} : ∀ {l l' : List Nat} {ds : List Deferred}, posL π l = some l' → All2 (fun r (d : Deferred) => ∃ b sz, atRoot E r b sz ∧ d = { target := .collected b, args := #[] }) l ds → All2 (fun r (d : Deferred) => ∃ b sz, atRoot (renE π E) r b sz ∧ d = { target := .collected b, args := #[] }) l' ds
  | [], l', _, h, .nil => by
    have h : some [] = some l' := h
    simp only [Option.some.injEq] at h
    subst h; exact .nil
  | x :: l, l', _, h, .cons q k => by
    have h : (match posF x π, posL π l with
      | some y, some r => some (y :: r)
      | _, _ => none) = some l' := h
    split at h
    case h_2 => simp at h
    rename_i h1 h2
    simp only [Option.some.injEq] at h
    subst h
    obtain ⟨b, sz, q1, q2⟩ := q
    exact .cons ⟨b, sz, renE_at h1 q1, q2⟩ (posL_df h2 k)
theorem renC_rel (ha : ∀ b, av' b → av b) {c c' : C} {v : Value} (h : renC π c = some c') (hv : CRel E av w c v) : CRel (renE π E) av' w c' v := by
  unfold renC at h
  split at h
  · simp only [Option.some.injEq] at h; subst h; exact IRel.mono (Keeps.refl _ w) (fun b _ q => ha b q) hv
  · split at h
    case h_2 => simp at h
    rename_i hk
    simp only [Option.some.injEq] at h; subst h
    obtain ⟨b, sz, h1, h2⟩ := hv
    exact ⟨b, sz, renE_at hk h1, h2⟩
  · split at h
    case h_2 => simp at h
    rename_i hk
    simp only [Option.some.injEq] at h; subst h
    obtain ⟨e, ao, n, cap, h1, h2⟩ := hv
    exact ⟨e, ao, n, cap, renE_get (posF_some hk) h1, h2⟩
  · split at h
    case h_2 => simp at h
    rename_i hk
    simp only [Option.some.injEq] at h; subst h
    obtain ⟨b, sz, h1, h2⟩ := hv
    exact ⟨b, sz, renE_at hk h1, h2⟩
  · split at h
    case h_2 => simp at h
    rename_i hk
    simp only [Option.some.injEq] at h; subst h
    obtain ⟨b, sz, h1, h2⟩ := hv
    exact ⟨b, sz, renE_at hk h1, h2⟩
  · split at h
    case h_2 => simp at h
    rename_i hk
    simp only [Option.some.injEq] at h; subst h
    obtain ⟨vs, h1, h2⟩ := hv
    exact ⟨vs, h1, posL_rel hk h2⟩
theorem renCs_rel (ha : ∀ b, av' b → av b) : ∀ {l l' : List C} {vs : List Value}, renCs π l = some l' → All2 (CRel E av w) l vs → All2 (CRel (renE π E) av' w) l' vs
  | [], l', _, h, .nil => by
    have h : some [] = some l' := h
    simp only [Option.some.injEq] at h
    subst h; exact .nil
  | x :: l, l', _, h, .cons q k => by
    have h : (match renC π x, renCs π l with
      | some y, some r => some (y :: r)
      | _, _ => none) = some l' := h
    split at h
    case h_2 => simp at h
    rename_i h1 h2
    simp only [Option.some.injEq] at h
    subst h
    exact .cons (renC_rel ha h1 q) (renCs_rel ha h2 k)
theorem renD_rel (ha : ∀ b, av' b → av b) {d d' : D} {v : Value} (h : renD π d = some d') (hv : DRel E av w d v) : DRel (renE π E) av' w d' v := by
  unfold renD at h
  split at h
  · split at h
    case h_2 => simp at h
    rename_i hk
    simp only [Option.some.injEq] at h; subst h
    exact renC_rel ha hk hv
  · split at h
    case h_2 => simp at h
    rename_i hk
    simp only [Option.some.injEq] at h; subst h
    obtain ⟨vs, h1, h2⟩ := hv
    exact ⟨vs, h1, renCs_rel ha hk h2⟩
  · simp only [Option.some.injEq] at h; subst h
    obtain ⟨vs, h1, h2⟩ := hv
    cases h3 : vs.toList with
    | nil => exact ⟨vs, h1, by rw [h3]; exact .nil⟩
    | cons y l => rw [h3] at h2; cases h2
  · simp at h
theorem renSl_look : ∀ {sl sl' : Slots}, renSl π sl = some sl' → ∀ t d c, look sl' t = some (d, c) → ∃ d0, renD π d0 = some d ∧ look sl t = some (d0, c)
  | [], sl', h, t, d, c, hl => by
    have h : some [] = some sl' := h
    simp only [Option.some.injEq] at h
    subst h; simp [look] at hl
  | x :: sl, sl', h, t, d, c, hl => by
    have h : (match renD π x.2.1, renSl π sl with
      | some y, some r => some ((x.1, y, x.2.2) :: r)
      | _, _ => none) = some sl' := h
    split at h
    case h_2 => simp at h
    rename_i h1 h2
    simp only [Option.some.injEq] at h
    subst h
    obtain ⟨k, d1, c1⟩ := x
    simp only [look] at hl ⊢
    split at hl
    · rename_i hb
      simp only [Option.some.injEq, Prod.mk.injEq] at hl
      obtain ⟨rfl, rfl⟩ := hl
      exact ⟨d1, h1, rfl⟩
    · rename_i hb
      exact renSl_look h2 t d c hl
theorem renSl_nil : ∀ {sl sl' : Slots}, renSl π sl = some sl' → NilS sl → NilS sl'
  | [], sl', h, _ => by
    have h : some [] = some sl' := h
    simp only [Option.some.injEq] at h
    subst h; exact fun x hx => by cases hx
  | x :: sl, sl', h, hn => by
    have h : (match renD π x.2.1, renSl π sl with
      | some y, some r => some ((x.1, y, x.2.2) :: r)
      | _, _ => none) = some sl' := h
    split at h
    case h_2 => simp at h
    rename_i h1 h2
    simp only [Option.some.injEq] at h
    subst h
    intro z hz
    rcases List.mem_cons.1 hz with rfl | hz
    · exact hn x (List.mem_cons_self ..)
    · exact renSl_nil h2 (fun y hy => hn y (List.mem_cons_of_mem _ hy)) z hz
theorem renR_rel (ha : ∀ b, av' b → av b) {x y : Root} {base : Nat} {e : Option Nat × Value × Nat} (h : renR π x = some y) (hx : RootRel E av base w e x) : RootRel (renE π E) av' base w e y := by
  unfold renR at h
  split at h
  · split at h
    case h_2 => simp at h
    rename_i hk
    simp only [Option.some.injEq] at h; subst h
    obtain ⟨b, cs, Tc, p1, p2, p3, p4⟩ := hx
    have h4 := renCs_rel ha hk p4
    exact ⟨b, cs, Tc, p1, by rw [p2, p4.length, h4.length], p3, h4⟩
  · split at h
    case h_2 => simp at h
    rename_i hk
    simp only [Option.some.injEq] at h; subst h
    obtain ⟨p1, p2, xs, p3, p4⟩ := hx
    exact ⟨p1, p2, xs, p3, renCs_rel ha hk p4⟩
  · split at h
    case h_2 => simp at h
    rename_i hk
    simp only [Option.some.injEq] at h; subst h
    obtain ⟨b, db, tm, p1, p2, p3, p4, p5⟩ := hx
    refine ⟨b, db, tm, p1, p2, p3, fun t d c hl => ?_, renSl_nil hk p5⟩
    obtain ⟨d0, q1, q2⟩ := renSl_look hk t d c hl
    obtain ⟨s1, s2, s3⟩ := p4 t d0 c q2
    exact ⟨s1, fun q => renD_rel ha q1 (s2 q), s3⟩
  · rename_i n1 n2 n3
    simp only [Option.some.injEq] at h; subst h
    cases x with
    | dead => trivial
    | box l => exact (n1 _ rfl).elim
    | row el sz n l => exact (n2 _ _ _ _ rfl).elim
    | loop f N sl ps as bd st pend => exact (n3 _ _ _ _ _ _ _ _ rfl).elim
    | arr el sz n get =>
      obtain ⟨p1, p2, xs, p3, p4⟩ := hx
      refine ⟨p1, p2, xs, p3, fun i hi j hj => ?_⟩
      obtain ⟨x, p5, p6⟩ := p4 i hi j hj
      exact ⟨x, p5, IRel.mono (Keeps.refl _ w) (fun b _ q => ha b q) p6⟩
    | set l => exact hx
    | dfr => exact hx
theorem renRs_get {rs : List Root} : ∀ {l : List Nat} {rs' : List Root}, renRs π rs l = some rs' → rs'.length = l.length ∧ ∀ (k : Nat) (y : Root), rs'[k]? = some y → ∃ q x, l[k]? = some q ∧ rs[q]? = some x ∧ renR π x = some y
  | [], rs', h => by
    have h : some [] = some rs' := h
    simp only [Option.some.injEq] at h
    subst h
    exact ⟨rfl, fun k y hy => by simp at hy⟩
  | q :: l, rs', h => by
    have h : (match nthF rs q with
      | some x => match renR π x, renRs π rs l with
        | some y, some r => some (y :: r)
        | _, _ => none
      | none => none) = some rs' := h
    split at h
    case h_2 => simp at h
    rename_i x hx
    split at h
    case h_2 => simp at h
    rename_i y r h1 h2
    simp only [Option.some.injEq] at h
    subst h
    obtain ⟨h3, h4⟩ := renRs_get h2
    refine ⟨by simp [h3], fun k z hz => ?_⟩
    cases k with
    | zero =>
      simp at hz
      subst hz
      rw [nthF_get] at hx
      exact ⟨q, x, rfl, hx, h1⟩
    | succ k => simpa using h4 k z (by simpa using hz)
theorem renR_live {x y : Root} (h : renR π x = some y) : y.live → x.live := by
  unfold renR at h
  split at h
  · exact fun _ => trivial
  · exact fun _ => trivial
  · exact fun _ => trivial
  · simp only [Option.some.injEq] at h; subst h; exact id
theorem nodupB_spec : ∀ {l : List Nat}, nodupB l = true → ∀ (i j : Nat) (q : Nat), l[i]? = some q → l[j]? = some q → i = j
  | [], _, i, j, q, h, _ => by simp at h
  | x :: l, h, i, j, q, h1, h2 => by
    have h : (Bool.rec (nodupB l) false (memN x l) : Bool) = true := h
    cases hb : memN x l with
    | true => rw [hb] at h; simp at h
    | false =>
      rw [hb] at h
      have hx : x ∉ l := fun q => by rw [memN_spec.2 q] at hb; simp at hb
      cases i with
      | zero =>
        cases j with
        | zero => rfl
        | succ j =>
          simp at h1 h2
          subst h1
          exact (hx (List.mem_of_getElem? h2)).elim
      | succ i =>
        cases j with
        | zero =>
          simp at h1 h2
          subst h2
          exact (hx (List.mem_of_getElem? h1)).elim
        | succ j => rw [nodupB_spec h i j q (by simpa using h1) (by simpa using h2)]
theorem headB_spec : ∀ {n k : Nat} {l : List Nat}, headB n k l = true → ∀ i, i < n → l[i]? = some (k + i)
  | 0, k, l, _, i, hi => by omega
  | n + 1, k, [], h, i, hi => by
    have h : (false : Bool) = true := h
    simp at h
  | n + 1, k, x :: l, h, i, hi => by
    obtain ⟨h1, h2⟩ := Bool.rec_true (show (Bool.rec false (headB n (k + 1) l) (Nat.beq x k) : Bool) = true from h)
    cases i with
    | zero => simp [of_beq h1]
    | succ i =>
      have := headB_spec h2 i (by omega)
      rw [show k + (i + 1) = k + 1 + i by omega]
      simpa using this
end
theorem R.renamed {π : List Nat} (h : renS n0 π s = some s') (hlow : ∀ x ∈ sp, lowD n0 x.1 = true) (hn0 : n0 ≤ s.rs.length) (hR : R T N av0 w0 sp s a w E) (hn : NilS s.sl) : ∃ E', E'.take n0 = E.take n0 ∧ R T N av0 w0 sp s' a w E' ∧ NilS s'.sl := by
    unfold renS at h
    split at h
    case h_2 => simp at h
    rename_i sl rs df hsl hrs hdf
    obtain ⟨hb, h⟩ := Bool.rec_some h
    simp only [Bool.and_eq_true] at hb
    simp only [Option.some.injEq] at h
    subst h
    obtain ⟨hlen, hget⟩ := renRs_get hrs
    have hnd := nodupB_spec hb.1
    have hhead := headB_spec hb.2
    simp only [Nat.zero_add] at hhead
    have htake : (renE π E).take n0 = E.take n0 := by
      apply List.ext_getElem?
      intro i
      rw [List.getElem?_take, List.getElem?_take]
      split
      · rename_i hi
        have hlt : i < E.length := by rw [hR.len]; omega
        rw [renE_get (hhead i hi) (List.getElem?_eq_getElem hlt), List.getElem?_eq_getElem hlt]
      · rfl
    have hinv : ∀ {k b sz : Nat}, atRoot (renE π E) k b sz → ∃ q, π[k]? = some q ∧ atRoot E q b sz := fun ⟨hh, q⟩ => by
      obtain ⟨q, h1, h2⟩ := renE_inv q (by simp [hole])
      exact ⟨q, h1, hh, h2⟩
    have key : ∀ (k : Nat) (y : Root) (b sz : Nat), rs[k]? = some y → y.live → atRoot (renE π E) k b sz → ∃ q x, π[k]? = some q ∧ s.rs[q]? = some x ∧ x.live ∧ atRoot E q b sz := by
      intro k y b sz h1 h2 h3
      obtain ⟨q, x, h4, h5, h6⟩ := hget k y h1
      obtain ⟨q', h7, h8⟩ := hinv h3
      rw [h4] at h7
      simp only [Option.some.injEq] at h7
      subst h7
      exact ⟨q, x, h4, h5, renR_live h6 h2, h8⟩
    have hav : ∀ b, AV av0 rs (renE π E) b → AV av0 s.rs E b := by
      rintro b (q | ⟨k, y, sz, h1, h2, h3⟩)
      · exact .inl q
      · obtain ⟨q, x, _, h5, h6, h7⟩ := key k y b sz h1 h2 h3
        exact .inr ⟨q, x, sz, h5, h6, h7⟩
    refine ⟨renE π E, htake, ⟨hR.size, ?_, fun x hx => ?_, hR.below, by simp [renE, hlen], hR.outer, ?_, ?_, ?_, ?_, hR.glob.mono (Keeps.refl _ w) (fun b _ q => hav b q)⟩, renSl_nil hsl hn⟩
    · exact posL_df hdf hR.defers
    · have h1 := DRel.shrink (Kept.of_take E n0) (av'' := AV av0 rs (renE π E)) (fun b q => hav b q) (by rw [List.length_take, hR.len, Nat.min_eq_left hn0]; exact hlow x hx) (hR.spec x hx)
      rw [← htake] at h1
      exact DRel.mono (Kept.of_take (renE π E) n0).le (Keeps.refl _ w) (fun b _ q => q) h1
    · intro k y e h1 h2
      obtain ⟨q, x, h4, h5, h6⟩ := hget k y h1
      have hlt : q < E.length := by rw [hR.len]; exact (List.getElem?_eq_some_iff.1 h5).1
      have hE := List.getElem?_eq_getElem hlt
      rw [renE_get h4 hE] at h2
      simp only [Option.some.injEq] at h2
      subst h2
      exact renR_rel hav h6 (hR.roots q x _ h5 hE)
    · intro k y b sz h1 h2 h3
      obtain ⟨q, x, _, h5, h6, h7⟩ := key k y b sz h1 h2 h3
      exact hR.blk q x b sz h5 h6 h7
    · intro k k' y y' b sz sz' h1 h1' h2 h2' h3 h3'
      obtain ⟨q, x, h4, h5, h6, h7⟩ := key k y b sz h1 h2 h3
      obtain ⟨q', x', h4', h5', h6', h7'⟩ := key k' y' b sz' h1' h2' h3'
      have := hR.inj q q' x x' b sz sz' h5 h5' h6 h6' h7 h7'
      subst this
      exact hnd k k' q h4 h4'
    · intro t d c hl
      obtain ⟨d0, q1, q2⟩ := renSl_look hsl t d c hl
      obtain ⟨s1, s2, s3⟩ := hR.slots t d0 c q2
      exact ⟨s1, fun q => renD_rel hav q1 (s2 q), s3⟩
theorem Goal.rename (π : List Nat) (h : renS n0 π s = some s') (g : Goal P T N b cs ro n0 Post todo s') : Goal P T N b cs ro n0 Post todo s :=
  g.ghost fun av0 w0 sp a w E hlow hn0 hR hn => R.renamed h hlow hn0 hR hn
end
section
variable {P : Program} {T : Tab} {N : Nat} {av0 : Nat → Prop} {w0 : Kp} {sp : List (D × Value)} {s s' : VS} {a : Act} {w w' : World} {E E' : Env} {f : FuncId} {b : Frame} {cs : List Frame} {ro : Option Nat} {n0 : Nat} {Post : Option Code → VS → Prop} {todo : List Item}
def RtLe (x y : Root) : Prop := (y.live → x.live) ∧ ∀ (base : Nat) (E : Env) (w : World) e av, RootRel E av base w e x → RootRel E av base w e y
theorem RtLe.refl (x : Root) : RtLe x x := ⟨id, fun _ _ _ _ _ h => h⟩
def CLe (c c' : C) : Prop := ∀ (E : Env) (av : Nat → Prop) (w : World) (v : Value), CRel E av w c v → CRel E av w c' v
theorem CLe.refl (c : C) : CLe c c := fun _ _ _ _ h => h
theorem CLe.im {x y : I} (h : ILe x y) : CLe (.im x) (.im y) := fun _ av w v q => h av w v q
theorem CLe.nil (sz : Nat) (get : Nat → Nat → I) : CLe (.im (.v (.slice none 0 0))) (.im (.sl sz 0 get)) := CLe.im (ILe.nil sz get)
theorem All2.cle {E : Env} {av : Nat → Prop} {w : World} : ∀ {l l' : List C} {vs : List Value}, All2 CLe l l' → All2 (CRel E av w) l vs → All2 (CRel E av w) l' vs
  | _, _, _, .nil, .nil => .nil
  | _, _, _, .cons q k, .cons q' k' => .cons (q _ _ _ _ q') (All2.cle k k')
theorem RtLe.box {l l' : List C} (h : All2 CLe l l') : RtLe (.box l) (.box l') := ⟨fun _ => trivial, fun base E w e av q => by
  obtain ⟨b, vs, Tc, p1, p2, p3, p4⟩ := q
  have h4 := All2.cle h p4
  exact ⟨b, vs, Tc, p1, by rw [p2, p4.length, h4.length], p3, h4⟩⟩
theorem RtLe.arr {el sz n : Nat} {get get' : Nat → Nat → I} (h : ∀ i, i < n → ∀ j, j < sz → ILe (get i j) (get' i j)) : RtLe (.arr el sz n get) (.arr el sz n get') := ⟨fun _ => trivial, fun base E w e av q => by
  obtain ⟨p1, p2, xs, p3, p4⟩ := q
  exact ⟨p1, p2, xs, p3, fun i hi j hj => by
    obtain ⟨x, p5, p6⟩ := p4 i hi j hj
    exact ⟨x, p5, h i hi j hj _ _ _ p6⟩⟩⟩
theorem RtLe.dead (x : Root) : RtLe x .dead := ⟨fun h => h.elim, fun _ _ _ _ _ _ => trivial⟩
theorem RtLe.row {el sz n : Nat} {l : List C} {get : Nat → Nat → I} (h : ∀ i, i < n → ∀ j, j < sz → l[i * sz + j]? = some (.im (get i j))) : RtLe (.row el sz n l) (.arr el sz n get) := ⟨fun _ => trivial, fun base E w e av q => row_arr q h⟩
theorem All2.at_ {α β : Type} {Ra : α → β → Prop} {l : List α} {m : List β} (h : All2 Ra l m) {i : Nat} {y : β} (e : m[i]? = some y) : ∃ x, l[i]? = some x ∧ Ra x y := by
  induction h generalizing i with
  | nil => simp at e
  | cons q _ ih =>
    cases i with
    | zero => simp at e; subst e; exact ⟨_, rfl, q⟩
    | succ i => exact ih (by simpa using e)
theorem R.le (h : R T N av0 w0 sp s a w E) (hn : NilS s.sl) (h1 : wkS s.sl s'.sl) (h2 : All2 RtLe s.rs s'.rs) (h3 : s'.df = s.df) : R T N av0 w0 sp s' a w E := by
  have key : ∀ (q : Nat) (y : Root), s'.rs[q]? = some y → ∃ x, s.rs[q]? = some x ∧ RtLe x y := fun q y e => h2.at_ e
  have hav : ∀ b, AV av0 s'.rs E b → AV av0 s.rs E b := by
    rintro b (q | ⟨q, y, sz, g1, g2, g3⟩)
    · exact .inl q
    · obtain ⟨x, g4, g5⟩ := key q y g1
      exact .inr ⟨q, x, sz, g4, g5.1 g2, g3⟩
  have h' := h.upd (rs' := s'.rs) (Env.le_refl E) (Keeps.refl _ w) h.below (fun b _ q => hav b q) (by rw [h.len, h2.length]) (fun q y e g1 g2 => by
      obtain ⟨x, g4, g5⟩ := key q y g1
      exact g5.2 _ _ _ _ _ (RootRel.mono (Env.le_refl E) (Keeps.refl _ w) (fun b _ q => hav b q) (fun _ _ _ => rfl) (h.roots q x e g4 g2))) (fun q y b sz g1 g2 g3 => by
      obtain ⟨x, g4, g5⟩ := key q y g1
      exact h.blk q x b sz g4 (g5.1 g2) g3) (fun q q' y y' b sz sz' g1 g1' g2 g2' g3 g3' => by
      obtain ⟨x, g4, g5⟩ := key q y g1
      obtain ⟨x', g4', g5'⟩ := key q' y' g1'
      exact h.inj q q' x x' b sz sz' g4 g4' (g5.1 g2) (g5'.1 g2') g3 g3')
  exact ⟨h'.size, by rw [h3]; exact h'.defers, h'.spec, h'.below, h'.len, h'.outer, h'.roots, h'.blk, h'.inj, fun t d c hl => by
    obtain ⟨g1, d0, g2, g3⟩ := wkS_mem h1 _ (look_memX hl)
    have g1 : c = [] := g1
    subst g1
    obtain ⟨q1, q2, q3⟩ := h'.slots t d0 [] (lookF_look hn g2)
    exact ⟨q1, fun q => g3 _ _ _ _ (q2 q), q3⟩, h'.glob⟩
theorem Goal.le (h1 : wkS s.sl s'.sl) (h2 : All2 RtLe s.rs s'.rs) (h3 : s'.df = s.df) (g : Goal P T N b cs ro n0 Post todo s') : Goal P T N b cs ro n0 Post todo s :=
  Goal.ghost g fun av0 w0 sp a w E hlow hn0 hR hn => ⟨E, rfl, hR.le hn h1 h2 h3, fun x hx => (wkS_mem h1 x hx).1⟩
end
open Go.RowKit
noncomputable section
def mapF {α β : Type} (f : α → β) (l : List α) : List β := List.rec [] (fun x _ ih => f x :: ih) l
theorem mapF_map {α β : Type} (f : α → β) (l : List α) : mapF f l = l.map f := by
  induction l with
  | nil => rfl
  | cons x l ih => exact congrArg (f x :: ·) ih
def rhoF (π : List Nat) (n i : Nat) : Nat := match nthF π i with
  | some q => q
  | none => n + (i - π.length)
def mvC (ρ : Nat → Nat) (c : C) : C := match c with
  | .im x => .im x
  | .rt r i j => .rt (ρ r) i j
  | .sa r m => .sa (ρ r) m
  | .mp r => .mp (ρ r)
  | .clo f l => .clo f (mapF ρ l)
  | .yl r => .yl (ρ r)
def mvD (ρ : Nat → Nat) (d : D) : D := match d with
  | .c x => .c (mvC ρ x)
  | .a l => .a (mapF (mvC ρ) l)
  | .t l => .t (mapF (fun x => (x.1, mapF (mvC ρ) x.2)) l)
def mvSl (ρ : Nat → Nat) (l : Slots) : Slots := mapF (fun x => (x.1, mvD ρ x.2.1, x.2.2)) l
def mvR (ρ : Nat → Nat) (x : Root) : Root := match x with
  | .box l => .box (mapF (mvC ρ) l)
  | .row el sz n l => .row el sz n (mapF (mvC ρ) l)
  | .loop f N sl ps as bd st pend => .loop f N (mvSl ρ sl) ps as bd st pend
  | .dead => .dead
  | .arr el sz n get => .arr el sz n get
  | .set l => .set l
  | .dfr => .dfr
def mergeF (ρ : Nat → Nat) (π : List Nat) : List Root → List Root → List Root → List Root := List.rec (fun _ rs' RS => RS ++ mapF (mvR ρ) rs') (fun q _ ih rs rs' RS => match rs, rs' with
  | x :: rs, y :: rs' => match x with
    | .dead => ih rs rs' RS
    | _ => ih rs rs' (setAt RS q (mvR ρ y))
  | _, _ => []) π
def frmX (ρ : Nat → Nat) (RS : List Root) (q : Nat) (x y : Root) : Prop := match x with
  | .dead => y = .dead
  | x => nthF RS q = some (mvR ρ x)
def frmOK (ρ : Nat → Nat) (RS : List Root) (π : List Nat) : List Root → List Root → Prop := List.rec (fun rs _ => rs = []) (fun q _ ih rs rs' => match rs, rs' with
  | x :: rs, y :: rs' => frmX ρ RS q x y ∧ q < RS.length ∧ ih rs rs'
  | _, _ => False) π
end
section
variable {e E : Env} {av : Nat → Prop} {w : World} {ρ : Nat → Nat}
theorem All2.map_left {α β γ : Type} {S : β → γ → Prop} {f : α → β} : ∀ {l : List α} {m : List γ}, All2 S (l.map f) m ↔ All2 (fun x y => S (f x) y) l m
  | [], m => ⟨fun h => by cases h; exact .nil, fun h => by cases h; exact .nil⟩
  | x :: l, m => ⟨fun h => by cases h with | cons a b => exact .cons a (All2.map_left.1 b), fun h => by cases h with | cons a b => exact .cons a (All2.map_left.2 b)⟩
theorem All2.iff {α β : Type} {R S : α → β → Prop} (h : ∀ x y, R x y ↔ S x y) {l : List α} {m : List β} : All2 R l m ↔ All2 S l m := ⟨fun k => k.mono fun x y => (h x y).1, fun k => k.mono fun x y => (h x y).2⟩
theorem at_mv (he : ∀ i, e[i]? = E[ρ i]?) {r b sz : Nat} : atRoot e r b sz ↔ atRoot E (ρ r) b sz := by
  unfold atRoot; rw [he]
theorem CRel_mv (he : ∀ i, e[i]? = E[ρ i]?) {c : C} {v : Value} : CRel e av w c v ↔ CRel E av w (mvC ρ c) v := by
  cases c with
  | im x => exact Iff.rfl
  | rt r i j => simp only [CRel, mvC, at_mv he]
  | sa r m => simp only [CRel, mvC, he]
  | mp r => simp only [CRel, mvC, at_mv he]
  | yl r => simp only [CRel, mvC, at_mv he]
  | clo f l => simp only [CRel, mvC, mapF_map, All2.map_left, at_mv he]
theorem CRels_mv (he : ∀ i, e[i]? = E[ρ i]?) {l : List C} {m : List Value} : All2 (CRel e av w) l m ↔ All2 (CRel E av w) (mapF (mvC ρ) l) m := by
  rw [mapF_map, All2.map_left]
  exact All2.iff fun x y => CRel_mv he
theorem DRel_mv (he : ∀ i, e[i]? = E[ρ i]?) {d : D} {v : Value} : DRel e av w d v ↔ DRel E av w (mvD ρ d) v := by
  cases d with
  | c x => exact CRel_mv he
  | a l => simp only [DRel, mvD, CRels_mv he]
  | t l =>
    simp only [DRel, mvD, mapF_map (fun x : Bool × List C => (x.1, mapF (mvC ρ) x.2)), All2.map_left]
    refine exists_congr fun vs => and_congr Iff.rfl (All2.iff fun x y => ?_)
    obtain ⟨b, l⟩ := x
    cases b with
    | true => simp only [CRels_mv he]
    | false =>
      simp only
      constructor
      · rintro ⟨c, rfl, h⟩
        exact ⟨mvC ρ c, rfl, (CRel_mv he).1 h⟩
      · rintro ⟨c, h1, h⟩
        rw [mapF_map] at h1
        match l, h1 with
        | [c0], h1 =>
          simp only [List.map_cons, List.map_nil, List.cons.injEq, and_true] at h1
          subst h1
          exact ⟨c0, rfl, (CRel_mv he).2 h⟩
        | [], h1 => simp at h1
        | _ :: _ :: _, h1 => simp at h1
theorem DRels_mv (he : ∀ i, e[i]? = E[ρ i]?) {l : List D} {m : List Value} : All2 (DRel e av w) l m ↔ All2 (DRel E av w) (mapF (mvD ρ) l) m := by
  rw [mapF_map, All2.map_left]
  exact All2.iff fun x y => DRel_mv he
theorem look_mv : ∀ {sl : Slots} {t : Tmp}, look (mvSl ρ sl) t = (look sl t).map fun x => (mvD ρ x.1, x.2)
  | [], t => rfl
  | (k, d, c) :: sl, t => by
    show look ((k, mvD ρ d, c) :: mvSl ρ sl) t = _
    simp only [look]
    split
    · rfl
    · exact look_mv
theorem mvSl_nil {sl : Slots} : (∀ x ∈ mvSl ρ sl, x.2.2 = []) ↔ ∀ x ∈ sl, x.2.2 = [] := by
  unfold mvSl
  rw [mapF_map]
  refine ⟨fun h x hx => ?_, fun h y hy => ?_⟩
  · have := h _ (List.mem_map.2 ⟨x, hx, rfl⟩)
    exact this
  · obtain ⟨x, hx, rfl⟩ := List.mem_map.1 hy
    exact h x hx
theorem SlotsRel_mv (he : ∀ i, e[i]? = E[ρ i]?) {N : Nat} {sl : Slots} {tm : Array Value} : SlotsRel e av w N sl tm ↔ SlotsRel E av w N (mvSl ρ sl) tm := by
  constructor
  · intro h t d c hl
    rw [look_mv] at hl
    cases hx : look sl t with
    | none => rw [hx] at hl; simp at hl
    | some x =>
      rw [hx] at hl
      simp only [Option.map_some, Option.some.injEq, Prod.mk.injEq] at hl
      obtain ⟨rfl, rfl⟩ := hl
      obtain ⟨q1, q2, q3⟩ := h t x.1 x.2 hx
      exact ⟨q1, fun q => (DRel_mv he).1 (q2 q), q3⟩
  · intro h t d c hl
    obtain ⟨q1, q2, q3⟩ := h t (mvD ρ d) c (by rw [look_mv, hl]; rfl)
    exact ⟨q1, fun q => (DRel_mv he).2 (q2 q), q3⟩
theorem mapF_len {α β : Type} (f : α → β) (l : List α) : (mapF f l).length = l.length := by rw [mapF_map]; simp
theorem RootRel_mv (he : ∀ i, e[i]? = E[ρ i]?) {base : Nat} {ent : Option Nat × Value × Nat} {x : Root} : RootRel e av base w ent x ↔ RootRel E av base w ent (mvR ρ x) := by
  cases x with
  | dead => exact Iff.rfl
  | box l => simp only [RootRel, mvR, mapF_len, CRels_mv he]
  | arr el sz n get => exact Iff.rfl
  | row el sz n l => simp only [RootRel, mvR, CRels_mv he]
  | set l => exact Iff.rfl
  | dfr => exact Iff.rfl
  | loop f N sl ps as bd st pend =>
    simp only [RootRel, mvR, SlotsRel_mv he, mvSl_nil]
theorem mvR_live {x : Root} : (mvR ρ x).live ↔ x.live := by cases x <;> exact Iff.rfl
end
structure Frm (ρ : Nat → Nat) (π : List Nat) (rs rs' RS RS' : List Root) : Prop where
  lenπ : π.length = rs.length
  lt : ∀ q ∈ π, q < RS.length
  len : rs.length ≤ rs'.length
  len' : RS'.length = RS.length + (rs'.length - rs.length)
  img : ∀ (i : Nat) (x : Root), rs[i]? = some x → x.live → ∃ q y, π[i]? = some q ∧ RS[q]? = some (mvR ρ x) ∧ rs'[i]? = some y ∧ RS'[q]? = some (mvR ρ y)
  out : ∀ q : Nat, q < RS.length → (∀ (i : Nat) (x : Root), rs[i]? = some x → x.live → π[i]? ≠ some q) → RS'[q]? = RS[q]?
  new : ∀ j : Nat, RS'[RS.length + j]? = (rs'[rs.length + j]?).map (mvR ρ)
  dead : ∀ i : Nat, rs[i]? = some .dead → rs'[i]? = some .dead
theorem merge_frm {ρ : Nat → Nat} : ∀ {π : List Nat} {rs rs' RS RS0 : List Root}, nodupB π = true → RS.length = RS0.length → (∀ q ∈ π, RS[q]? = RS0[q]?) → frmOK ρ RS0 π rs rs' →
    Frm ρ π rs rs' RS (mergeF ρ π rs rs' RS)
  | [], rs, rs', RS, RS0, _, _, _, h => by
    have h : rs = [] := h
    subst h
    have e : mergeF ρ [] [] rs' RS = RS ++ rs'.map (mvR ρ) := by rw [← mapF_map]; rfl
    rw [e]
    refine ⟨rfl, fun q hq => (by cases hq), Nat.zero_le _, (by simp), fun i x hx => (by simp at hx), fun q hq _ => List.getElem?_append_left hq, fun j => ?_, fun i hi => (by simp at hi)⟩
    rw [List.getElem?_append_right (Nat.le_add_right _ _)]
    simp
  | q :: π, rs, rs', RS, RS0, hnd, hl, hsame, h => by
    have hnd0 : nodupB (q :: π) = true := hnd
    have hnd1 : (Bool.rec (nodupB π) false (memN q π) : Bool) = true := hnd
    have hq : q ∉ π := fun hm => by rw [memN_spec.2 hm] at hnd1; simp at hnd1
    have hnd2 : nodupB π = true := by
      cases hb : memN q π with
      | true => exact (hq (memN_spec.1 hb)).elim
      | false => rw [hb] at hnd1; exact hnd1
    match rs, rs', h with
    | x :: rs, y :: rs', h =>
      obtain ⟨h1, h2, h3⟩ : frmX ρ RS0 q x y ∧ q < RS0.length ∧ frmOK ρ RS0 π rs rs' := h
      by_cases hx : x.live
      · have e : mergeF ρ (q :: π) (x :: rs) (y :: rs') RS = mergeF ρ π rs rs' (RS.set q (mvR ρ y)) := by
          rw [← setAt_eq]
          cases x <;> first | exact hx.elim | rfl
        have h1 : RS0[q]? = some (mvR ρ x) := by
          rw [← nthF_get]
          cases x <;> first | exact hx.elim | exact h1
        have ih := merge_frm (RS := RS.set q (mvR ρ y)) (RS0 := RS0) hnd2 (by simpa using hl) (fun k hk => by
          have : k ≠ q := fun e => hq (e ▸ hk)
          rw [List.getElem?_set, if_neg (fun e => this e.symm)]
          exact hsame k (List.mem_cons_of_mem _ hk)) h3
        rw [e]
        have hqout : ∀ (i : Nat) (z : Root), rs[i]? = some z → z.live → π[i]? ≠ some q := fun i z _ _ hp => hq (List.mem_of_getElem? hp)
        have hql : q < RS.length := by rw [hl]; exact h2
        refine ⟨by simp [ih.lenπ], fun k hk => ?_, by simpa using ih.len, ?_, fun i z hz hzl => ?_, fun k hk hout => ?_, fun j => ?_, fun i hi => ?_⟩
        · rcases List.mem_cons.1 hk with rfl | hk
          · exact hql
          · simpa using ih.lt k hk
        · rw [ih.len']; simp
        · cases i with
          | zero =>
            simp at hz
            subst hz
            refine ⟨q, y, rfl, by rw [hsame q (List.mem_cons_self ..)]; exact h1, rfl, ?_⟩
            rw [ih.out q (by simpa using hql) hqout, List.getElem?_set, if_pos rfl, if_pos hql]
          | succ i =>
            obtain ⟨k, z', p1, p2, p3, p4⟩ := ih.img i z (by simpa using hz) hzl
            refine ⟨k, z', by simpa using p1, ?_, by simpa using p3, p4⟩
            have : q ≠ k := fun e => hq (e ▸ List.mem_of_getElem? p1)
            rwa [List.getElem?_set, if_neg this] at p2
        · have hne : q ≠ k := fun e => hout 0 x rfl hx (by simp [e])
          rw [ih.out k (by simpa using hk) (fun i z hz hzl hp => hout (i + 1) z (by simpa using hz) hzl (by simpa using hp)), List.getElem?_set, if_neg hne]
        · have := ih.new j
          simp only [List.length_set] at this
          rw [this, show (x :: rs).length + j = (rs.length + j) + 1 by simp; omega]
          simp
        · cases i with
          | zero => simp at hi; subst hi; exact hx.elim
          | succ i => simpa using ih.dead i (by simpa using hi)
      · have hx : x = .dead := by cases x <;> first | rfl | exact (hx trivial).elim
        subst hx
        have h1 : y = .dead := h1
        subst h1
        have ih := merge_frm (RS := RS) (RS0 := RS0) hnd2 hl (fun k hk => hsame k (List.mem_cons_of_mem _ hk)) h3
        show Frm ρ (q :: π) (.dead :: rs) (.dead :: rs') RS (mergeF ρ π rs rs' RS)
        refine ⟨by simp [ih.lenπ], fun k hk => ?_, by simpa using ih.len, ?_, fun i z hz hzl => ?_, fun k hk hout => ?_, fun j => ?_, fun i hi => ?_⟩
        · rcases List.mem_cons.1 hk with rfl | hk
          · rw [hl]; exact h2
          · exact ih.lt k hk
        · rw [ih.len']; simp
        · cases i with
          | zero => simp at hz; subst hz; exact hzl.elim
          | succ i =>
            obtain ⟨k, z', p1, p2, p3, p4⟩ := ih.img i z (by simpa using hz) hzl
            exact ⟨k, z', by simpa using p1, p2, by simpa using p3, p4⟩
        · exact ih.out k hk fun i z hz hzl hp => hout (i + 1) z (by simpa using hz) hzl (by simpa using hp)
        · rw [ih.new j, show (Root.dead :: rs).length + j = (rs.length + j) + 1 by simp; omega]
          simp
        · cases i with
          | zero => rfl
          | succ i => simpa using ih.dead i (by simpa using hi)
    | [], _, h => exact h.elim
    | _ :: _, [], h => exact h.elim
section
variable {P : Program} {T : Tab} {f : FuncId} {ds : List D} {rs rs' RS RS' : List Root} {d : D}
theorem LoCon.frm {π : List Nat} (h : LoCon T P f ds rs d rs') (hnd : nodupB π = true) (hF : Frm (rhoF π RS.length) π rs rs' RS RS') : LoCon T P f (mapF (mvD (rhoF π RS.length)) ds) RS (mvD (rhoF π RS.length) d) RS' := by
  refine ⟨h.out.1, ?_⟩
  intro N av0 w0 sp sl df a w E VS hR hv
  have hndp := nodupB_spec hnd
  let ρ := rhoF π RS.length
  have hEl : E.length = RS.length := hR.len
  have rho_in : ∀ {i q : Nat}, π[i]? = some q → ρ i = q := fun {i q} hi => by
    show rhoF π RS.length i = q
    unfold rhoF; rw [nthF_get, hi]
  have rho_out : ∀ {i : Nat}, π.length ≤ i → ρ i = RS.length + (i - π.length) := fun {i} hi => by
    show rhoF π RS.length i = _
    unfold rhoF; rw [nthF_get, List.getElem?_eq_none hi]
  let e := renE π E
  have hel : e.length = rs.length := by show (renE π E).length = _; unfold renE; simp [hF.lenπ]
  have he : ∀ i, e[i]? = E[ρ i]? := by
    intro i
    rcases Nat.lt_or_ge i π.length with hi | hi
    · have hq := List.getElem?_eq_getElem hi
      have hlt : π[i] < E.length := by rw [hEl]; exact hF.lt _ (List.getElem_mem hi)
      rw [rho_in hq, List.getElem?_eq_getElem hlt]
      exact renE_get hq (List.getElem?_eq_getElem hlt)
    · rw [rho_out hi, List.getElem?_eq_none (by rw [hel, ← hF.lenπ]; exact hi), List.getElem?_eq_none (by omega)]
  let own : Nat → Prop := fun b => ∃ i x sz, rs[i]? = some x ∧ x.live ∧ atRoot e i b sz
  let k0 : Kp := ⟨w, w0.base, own⟩
  let av1 : Nat → Prop := fun b => AV av0 RS E b ∧ ¬ own b
  have hbig : ∀ {i : Nat} {x : Root} {b sz : Nat}, rs[i]? = some x → x.live → atRoot e i b sz → ∃ q, π[i]? = some q ∧ RS[q]? = some (mvR ρ x) ∧ (mvR ρ x).live ∧ atRoot E q b sz := by
    intro i x b sz h1 h2 h3
    obtain ⟨q, y, p1, p2, _⟩ := hF.img i x h1 h2
    refine ⟨q, p1, p2, mvR_live.2 h2, ?_⟩
    have := (at_mv he).1 h3
    rwa [rho_in p1] at this
  have hownAV : ∀ {b : Nat}, own b → AV av0 RS E b ∧ w0.In b ∧ b < w.heap.size := by
    rintro b ⟨i, x, sz, h1, h2, h3⟩
    obtain ⟨q, _, p2, p3, p4⟩ := hbig h1 h2 h3
    exact ⟨.inr ⟨q, _, sz, p2, p3, p4⟩, hR.blk q _ b sz p2 p3 p4⟩
  have hAVlt : ∀ {b : Nat}, AV av0 RS E b → b < w.heap.size := by
    rintro b (q | ⟨q, x, sz, h1, h2, h3⟩)
    · exact hR.outer_lt q
    · exact (hR.blk q x b sz h1 h2 h3).2
  have hav0 : ∀ {b : Nat}, av0 b → ¬ own b := fun {b} q ho => (hR.outer b q).2 ((hownAV ho).2.1.own (hR.outer b q).1)
  have avEq : AV av1 rs e = AV av0 RS E := by
    funext b
    refine propext ⟨?_, fun q => ?_⟩
    · rintro (q | ⟨i, x, sz, h1, h2, h3⟩)
      · exact q.1
      · exact (hownAV ⟨i, x, sz, h1, h2, h3⟩).1
    · by_cases ho : own b
      · obtain ⟨i, x, sz, h1, h2, h3⟩ := ho
        exact .inr ⟨i, x, sz, h1, h2, h3⟩
      · exact .inl ⟨q, ho⟩
  have hsmall : R T 0 av1 k0 [] ⟨[], rs, []⟩ { tmps := #[], defers := [] } w e := by
    refine ⟨rfl, .nil, fun _ hx => (by cases hx), ⟨rfl, rfl, rfl, Nat.le_refl _, hR.below.base, fun _ _ _ => rfl⟩, hel, fun b q => ⟨hAVlt q.1, q.2⟩, ?_, ?_, ?_, fun t d c h1 => (by simp [look] at h1), ?_⟩
    · intro i x ent h1 h2
      by_cases hx : x.live
      · obtain ⟨q, y, p1, p2, _⟩ := hF.img i x h1 hx
        have h2 : e[i]? = some ent := h2
        rw [he, rho_in p1] at h2
        show RootRel e (AV av1 rs e) w0.base w ent x
        rw [avEq]
        exact (RootRel_mv he).2 (hR.roots q _ ent p2 h2)
      · have hx : x = .dead := by cases x <;> first | rfl | exact (hx trivial).elim
        subst hx; trivial
    · intro i x b sz h1 h2 h3
      obtain ⟨_, q1, q2⟩ := hownAV ⟨i, x, sz, h1, h2, h3⟩
      exact ⟨⟨q1.base, fun _ => ⟨i, x, sz, h1, h2, h3⟩⟩, q2⟩
    · intro i j x y b sz sz' h1 h1' h2 h2' h3 h3'
      obtain ⟨q, p1, p2, p3, p4⟩ := hbig h1 h2 h3
      obtain ⟨q', p1', p2', p3', p4'⟩ := hbig h1' h2' h3'
      have := hR.inj q q' _ _ b sz sz' p2 p2' p3 p3' p4 p4'
      subst this
      exact hndp i j q p1 p1'
    · show Globs T (AV av1 rs e) w
      rw [avEq]; exact hR.glob
  have hargs : All2 (DRel e (AV av1 rs e) w) ds VS := by
    rw [avEq]
    exact (DRels_mv he).2 hv
  refine (h.out.2 0 av1 k0 [] [] [] _ w e VS hsmall hargs).mono ?_
  rintro en w' ⟨v, e', rfl, hk, hR', hd⟩
  have hel' : e'.length = rs'.length := hR'.len
  let E' : Env := E ++ e'.drop rs.length
  have hEle : Env.le E E' := Env.le_append E _
  have hkept : Kept E E' := ⟨hEle, fun q hq => by
    have hlt := (List.getElem?_eq_some_iff.1 hq).1
    show (E ++ e'.drop rs.length)[q]? = some hole
    rw [List.getElem?_append_left hlt]; exact hq⟩
  have hE'in : ∀ {q : Nat}, q < RS.length → E'[q]? = E[q]? := fun {q} hq => by
    show (E ++ e'.drop rs.length)[q]? = _
    rw [List.getElem?_append_left (by rw [hEl]; exact hq)]
  have hE'new : ∀ j : Nat, E'[RS.length + j]? = e'[rs.length + j]? := fun j => by
    show (E ++ e'.drop rs.length)[RS.length + j]? = _
    rw [List.getElem?_append_right (by omega), List.getElem?_drop]
    congr 1; omega
  have hee : ∀ i, i < rs.length → e'[i]? = e[i]? := by
    intro i hi
    have hlt : i < e.length := by omega
    have h1 := List.getElem?_eq_getElem hlt
    by_cases h2 : e[i] = hole
    · rw [h2] at h1; rw [h1]; exact hk.free i h1
    · rw [h1]; exact hk.le i _ h1 h2
  have he' : ∀ i, e'[i]? = E'[ρ i]? := by
    intro i
    rcases Nat.lt_or_ge i π.length with hi | hi
    · have hq := List.getElem?_eq_getElem hi
      have hlt : π[i] < RS.length := hF.lt _ (List.getElem_mem hi)
      rw [hee i (by rw [← hF.lenπ]; exact hi), he, rho_in hq, hE'in hlt]
    · rw [rho_out hi, hE'new, hF.lenπ]
      congr 1
      rw [hF.lenπ] at hi; omega
  -- where a root lies
  have whr : ∀ (q : Nat) (z : Root), RS'[q]? = some z → (∃ i y, ρ i = q ∧ rs'[i]? = some y ∧ z = mvR ρ y ∧ (∀ ent, E'[q]? = some ent → e'[i]? = some ent)) ∨ (q < RS.length ∧ RS[q]? = some z ∧ ∀ (i : Nat) (x : Root), rs[i]? = some x → x.live → π[i]? ≠ some q) := by
    intro q z hz
    rcases Nat.lt_or_ge q RS.length with hq | hq
    · by_cases hex : ∃ (i : Nat) (x : Root), rs[i]? = some x ∧ x.live ∧ π[i]? = some q
      · obtain ⟨i, x, h1, h2, h3⟩ := hex
        obtain ⟨q', y, p1, p2, p3, p4⟩ := hF.img i x h1 h2
        rw [h3] at p1
        simp only [Option.some.injEq] at p1
        subst p1
        rw [hz] at p4
        simp only [Option.some.injEq] at p4
        exact .inl ⟨i, y, rho_in h3, p3, p4, fun ent he2 => by rw [he', rho_in h3]; exact he2⟩
      · refine .inr ⟨hq, ?_, fun i x h1 h2 h3 => hex ⟨i, x, h1, h2, h3⟩⟩
        rw [← hF.out q hq fun i x h1 h2 h3 => hex ⟨i, x, h1, h2, h3⟩]; exact hz
    · have e1 : q = RS.length + (q - RS.length) := by omega
      rw [e1, hF.new] at hz
      cases hy : rs'[rs.length + (q - RS.length)]? with
      | none => rw [hy] at hz; simp at hz
      | some y =>
        rw [hy] at hz
        simp only [Option.map_some, Option.some.injEq] at hz
        have hρ : ρ (rs.length + (q - RS.length)) = q := by
          rw [rho_out (by rw [hF.lenπ]; omega), hF.lenπ]; omega
        exact .inl ⟨_, y, hρ, hy, hz.symm, fun ent he2 => by rw [he', hρ]; exact he2⟩
  have hatE : ∀ {q b sz : Nat}, q < RS.length → atRoot E' q b sz → atRoot E q b sz := fun hq ⟨hh, h1⟩ => ⟨hh, by rw [← hE'in hq]; exact h1⟩
  have notown : ∀ {q b sz : Nat} {z : Root}, RS[q]? = some z → z.live → (∀ (i : Nat) (x : Root), rs[i]? = some x → x.live → π[i]? ≠ some q) → atRoot E q b sz → ¬ own b := by
    rintro q b sz z h1 h2 h3 h4 ⟨i, x, sz', g1, g2, g3⟩
    obtain ⟨q', p1, p2, p3, p4⟩ := hbig g1 g2 g3
    have := hR.inj q q' _ _ b sz sz' h1 p2 h2 p3 h4 p4
    subst this
    exact h3 i x g1 g2 p1
  have hsub : ∀ b, AV av0 RS' E' b → AV av1 rs' e' b := by
    rintro b (q | ⟨q, z, sz, h1, h2, h3⟩)
    · exact .inl ⟨.inl q, hav0 q⟩
    · rcases whr q z h1 with ⟨i, y, _, g2, rfl, g4⟩ | ⟨g1, g2, g3⟩
      · obtain ⟨hh, h3⟩ := h3
        exact .inr ⟨i, y, sz, g2, mvR_live.1 h2, hh, g4 _ h3⟩
      · have h4 := hatE g1 h3
        exact .inl ⟨.inr ⟨q, z, sz, g2, h2, h4⟩, notown g2 h2 g3 h4⟩
  have hold : ∀ b, b < w.heap.size → ¬ own b → w'.heap[b]? = w.heap[b]? := hR'.below.block
  have hsz : w.heap.size ≤ w'.heap.size := hR'.below.size
  have hkeeps : Keeps (AV av0 RS E) w w' := ⟨hsz, fun b hb hn => hold b hb fun ho => hn (hownAV ho).1⟩
  have hav : ∀ b, b < w.heap.size → AV av0 RS' E' b → AV av0 RS E b := by
    intro b hb q
    rcases hsub b q with q | ⟨i, y, sz, h1, h2, h3⟩
    · exact q.1
    · exact (hownAV ((hR'.blk i y b sz h1 h2 h3).1.own hb)).1
  have hbig2 := hR.upd (rs' := RS') (E' := E') (w' := w') hEle hkeeps (hR.below.grown hR'.below.os hR'.below.tape hR'.below.output hsz fun k hk hn => hold k hk fun ho => hn (hownAV ho).2.1) hav
    (by show (E ++ e'.drop rs.length).length = _; rw [List.length_append, List.length_drop, hel', hF.len', hEl])
    (by
      intro q z ent h1 h2
      rcases whr q z h1 with ⟨i, y, _, g2, rfl, g4⟩ | ⟨g1, g2, g3⟩
      · have := (RootRel_mv he').1 (hR'.roots i y ent g2 (g4 ent h2))
        exact RootRel.mono (Env.le_refl E') (Keeps.refl _ w') (fun b _ q => hsub b q) (fun _ _ _ => rfl) this
      · rw [hE'in g1] at h2
        refine RootRel.mono hEle hkeeps hav (fun hl b hb => ?_) (hR.roots q z ent g2 h2)
        obtain ⟨e1, e2, e3⟩ := ent
        have hb : e1 = some b := hb
        subst hb
        exact hold b (hR.blk q z b e3 g2 hl ⟨e2, h2⟩).2 (notown g2 hl g3 ⟨e2, h2⟩))
    (by
      intro q z b sz h1 h2 h3
      rcases whr q z h1 with ⟨i, y, _, g2, rfl, g4⟩ | ⟨g1, g2, g3⟩
      · obtain ⟨hh, h3⟩ := h3
        have hb := hR'.blk i y b sz g2 (mvR_live.1 h2) ⟨hh, g4 _ h3⟩
        exact ⟨⟨hb.1.base, fun hlt => (hownAV (hb.1.own (Nat.lt_of_lt_of_le hlt hR.below.size))).2.1.own hlt⟩, hb.2⟩
      · have hb := hR.blk q z b sz g2 h2 (hatE g1 h3)
        exact ⟨hb.1, Nat.lt_of_lt_of_le hb.2 hsz⟩)
    (by
      intro q q' z z' b sz sz' h1 h1' h2 h2' h3 h3'
      rcases whr q z h1 with ⟨i, y, p, g2, rfl, g4⟩ | ⟨g1, g2, g3⟩ <;> rcases whr q' z' h1' with ⟨i', y', p', g2', rfl, g4'⟩ | ⟨g1', g2', g3'⟩
      · obtain ⟨hh, h3⟩ := h3
        obtain ⟨hh', h3'⟩ := h3'
        have := hR'.inj i i' y y' b sz sz' g2 g2' (mvR_live.1 h2) (mvR_live.1 h2') ⟨hh, g4 _ h3⟩ ⟨hh', g4' _ h3'⟩
        rw [← p, ← p', this]
      · obtain ⟨hh, h3⟩ := h3
        have h4 := hatE g1' h3'
        have hb := hR.blk q' z' b sz' g2' h2' h4
        exact ((notown g2' h2' g3' h4) ((hR'.blk i y b sz g2 (mvR_live.1 h2) ⟨hh, g4 _ h3⟩).1.own hb.2)).elim
      · obtain ⟨hh', h3'⟩ := h3'
        have h4 := hatE g1 h3
        have hb := hR.blk q z b sz g2 h2 h4
        exact ((notown g2 h2 g3 h4) ((hR'.blk i' y' b sz' g2' (mvR_live.1 h2') ⟨hh', g4' _ h3'⟩).1.own hb.2)).elim
      · exact hR.inj q q' z z' b sz sz' g2 g2' h2 h2' (hatE g1 h3) (hatE g1' h3'))
  exact ⟨v, E', rfl, hkept, hbig2, DRel.mono (Env.le_refl E') (Keeps.refl _ w') (fun b _ q => hsub b q) ((DRel_mv he').1 hd)⟩
theorem LoCon.amid (h : LoCon T P f ds rs d rs') (π : List Nat) (RS : List Root) (hnd : nodupB π = true) (ok : frmOK (rhoF π RS.length) RS π rs rs') :
    LoCon T P f (mapF (mvD (rhoF π RS.length)) ds) RS (mvD (rhoF π RS.length) d) (mergeF (rhoF π RS.length) π rs rs' RS) :=
  h.frm hnd (merge_frm hnd rfl (fun _ _ => rfl) ok)
end
section
variable {P : Program} {T : Tab} {f : FuncId} {ds : List D} {rs : List Root} {d : D}
theorem place_set {q : Nat} {x : Root} {rs : List Root} (h : q < rs.length) : place q x rs = rs.set q x := by
  have e : Nat.beq q rs.length = false := by
    cases hb : Nat.beq q rs.length with
    | true => have := of_beq hb; omega
    | false => rfl
  unfold place
  rw [e]
  exact setAt_eq _ _ _
theorem WrCon.amid {i : Nat} {y : Root} (h : LoCon T P f ds rs d (rs.set i y)) (π : List Nat) (RS : List Root) (hnd : nodupB π = true) (ok : frmOK (rhoF π RS.length) RS π rs (rs.set i y)) {q : Nat} (hi : π[i]? = some q) (hl : ∃ x, rs[i]? = some x ∧ x.live) :
    WrCon T P f (mapF (mvD (rhoF π RS.length)) ds) RS (mvD (rhoF π RS.length) d) q (mvR (rhoF π RS.length) y) := by
  refine ⟨fun RS2 hlen hle => ?_⟩
  have F := merge_frm (RS := RS) hnd rfl (fun _ _ => rfl) ok
  have hndp := nodupB_spec hnd
  have hq : q < RS2.length := by rw [← hlen]; exact F.lt q (List.mem_of_getElem? hi)
  have hil : i < rs.length := by obtain ⟨x, h1, _⟩ := hl; exact (List.getElem?_eq_some_iff.1 h1).1
  rw [place_set hq]
  rw [hlen]
  rw [hlen] at F
  refine h.frm hnd ⟨F.lenπ, fun k hk => by rw [← hlen]; exact F.lt k hk, by simp, by simp, fun j x h1 h2 => ?_, fun k hk hout => ?_, fun j => ?_, fun j hj => F.dead j hj⟩
  · obtain ⟨k, z, p1, p2, p3, _⟩ := F.img j x h1 h2
    have p2' : RS2[k]? = some (mvR (rhoF π RS2.length) x) := by
      have := hle k (mvR (rhoF π RS2.length) x) (by rw [nthF_get]; exact p2) (mvR_live.2 h2)
      rwa [nthF_get] at this
    by_cases hji : j = i
    · subst hji
      rw [hi] at p1
      simp only [Option.some.injEq] at p1
      subst p1
      exact ⟨q, y, hi, p2', by rw [List.getElem?_set, if_pos rfl, if_pos hil], by rw [List.getElem?_set, if_pos rfl, if_pos hq]⟩
    · refine ⟨k, x, p1, p2', by rw [List.getElem?_set, if_neg (fun e => hji e.symm)]; exact h1, ?_⟩
      rw [List.getElem?_set, if_neg (fun e : q = k => hji (hndp j i k p1 (e ▸ hi)))]
      exact p2'
  · obtain ⟨x, h1, h2⟩ := hl
    have : q ≠ k := fun e => hout i x h1 h2 (e ▸ hi)
    rw [List.getElem?_set, if_neg this]
  · rw [List.getElem?_eq_none (by simp), List.getElem?_eq_none (by simp)]; rfl
end
open Go.RowKit
section
variable {P : Program} {T : Tab} {N : Nat} {av0 : Nat → Prop} {w0 : Kp} {sp : List (D × Value)} {s s' : VS} {a : Act} {w w' : World} {E E' : Env} {f : FuncId} {b : Frame} {cs : List Frame} {ro : Option Nat} {n0 : Nat} {Post : Option Code → VS → Prop} {todo : List Item}
def EndsG (rs : List Root) (d : D) (rs' : List Root) (d1 : D) (rs1 : List Root) : Prop :=
  ∃ (π : List Nat) (d2 : D) (rs2 rs3 : List Root), renS rs.length π ⟨[(0, d1, [])], rs1, []⟩ = some ⟨[(0, d2, [])], rs2, []⟩ ∧ All2 RtLe rs2 rs3 ∧ Ends rs d rs' d2 rs3
theorem R.endsG {rs rs' rs1 : List Root} {d d1 : D} {v : Value} (he : EndsG rs d rs' d1 rs1) (hlow : ∀ x ∈ sp, lowD rs.length x.1 = true) (h : R T N av0 w0 sp ⟨[], rs, []⟩ a w E) (h' : R T N av0 w0 sp ⟨[], rs1, []⟩ a w' E') (hk : Kept E E') (hv : DRel E' (AV av0 rs1 E') w' d1 v) :
    ∃ E'', Kept E E'' ∧ R T N av0 w0 sp ⟨[], rs', []⟩ a w' E'' ∧ DRel E'' (AV av0 rs' E'') w' d v := by
  obtain ⟨π, d2, rs2, rs3, h1, h2, h3⟩ := he
  have hlE : E.length = rs.length := h.len
  have hlE' : E'.length = rs1.length := h'.len
  have hle : rs.length ≤ rs1.length := by have := hk.len; omega
  have hR1 : R T 1 av0 w0 sp ⟨[(0, d1, [])], rs1, []⟩ { tmps := #[v], defers := [] } w' E' := ⟨rfl, .nil, h'.spec, h'.below, h'.len, h'.outer, h'.roots, h'.blk, h'.inj, fun t d c hl => by
    simp only [look] at hl
    split at hl
    · rename_i hb
      have hb := of_beq hb
      subst hb
      simp only [Option.some.injEq, Prod.mk.injEq] at hl
      obtain ⟨rfl, rfl⟩ := hl
      exact ⟨Nat.lt_succ_self 0, fun _ => hv, fun q => (q fun p hp => by cases hp).elim⟩
    · simp at hl, h'.glob⟩
  obtain ⟨E2, g1, g2, g3⟩ := R.renamed h1 hlow hle hR1 (fun x hx => by simp at hx; rw [hx])
  have hk2 : Kept E E2 := by
    have q1 : Kept E (E'.take rs.length) := by
      have := hk.take rs.length
      rwa [List.take_of_length_le (Nat.le_of_eq hlE)] at this
    rw [← g1] at q1
    exact q1.trans (Kept.of_take E2 _)
  have hR3 := g2.le (s' := ⟨[(0, d2, [])], rs3, []⟩) g3 ⟨⟨rfl, d2, rfl, DLe.refl _⟩, trivial⟩ h2 rfl
  have hv3 : DRel E2 (AV av0 rs3 E2) w' d2 v := (hR3.slots 0 d2 [] rfl).2.1 fun p hp => by cases hp
  have hR4 : R T 1 av0 w0 sp ⟨[], rs3, []⟩ { tmps := #[v], defers := [] } w' E2 := ⟨rfl, .nil, hR3.spec, hR3.below, hR3.len, hR3.outer, hR3.roots, hR3.blk, hR3.inj, fun t d c q => by simp [look] at q, hR3.glob⟩
  have hR0 : R T 1 av0 w0 sp ⟨[], rs, []⟩ { tmps := #[v], defers := [] } w E := ⟨rfl, .nil, h.spec, h.below, h.len, h.outer, h.roots, h.blk, h.inj, fun t d c q => by simp [look] at q, h.glob⟩
  obtain ⟨E3, p1, p2, p3⟩ := hR0.ends (fun t d c q => by simp [look] at q) hR4 hk2 h3 hv3
  have hdf : All2 (fun r (d : Deferred) => ∃ b sz, atRoot E3 r b sz ∧ d = { target := .collected b, args := #[] }) [] a.defers := by
    have := h'.defers
    revert this
    cases a.defers with
    | nil => exact fun _ => .nil
    | cons x l => exact fun q => by cases q
  exact ⟨E3, p1, ⟨h'.size, hdf, p2.spec, p2.below, p2.len, p2.outer, p2.roots, p2.blk, p2.inj, fun t d c q => by simp [look] at q, p2.glob⟩, p3⟩
theorem fun_conG (hty : TyOK P T) {fn : Func} (hf : P.funcs[f]? = some fn) (hname : (fn.name == "runtime.NumGoroutine") = false) {c : Code} (hc : fn.body = some c) {ds : List D} {rs : List Root} {d : D} {rs' : List Root} (hlen : ds.length ≤ fn.ntmps)
    (hg : ∀ (b : Frame) (cs : List Frame), b.fn = f → Goal P T fn.ntmps b cs none rs.length (leafQ T fn.results.toList (EndsG rs d rs')) [.code c] ⟨argSlots 0 ds, rs, []⟩) : LoCon T P f ds rs d rs' :=
  fun_conQ hty hf hname hc hlen (fun hq hlow h h' hk hv => R.endsG hq hlow h h' hk hv) hg
noncomputable def moveS (r j q m el sz n : Nat) (get : Nat → Nat → I) (l : List C) (s : VS) : VS := { s with rs := setAt (setAt s.rs q .dead) r (.box (setAt l j (.sa s.rs.length m))) ++ [.arr el sz n get] }
theorem Goal.moveBox {r j q m el sz n : Nat} {get : Nat → Nat → I} {l : List C} (hr : nthF s.rs r = some (.box l)) (hj : nthF l j = some (.sa q m)) (hq : nthF s.rs q = some (.arr el sz n get)) (g : Goal P T N b cs ro n0 Post todo (moveS r j q m el sz n get l s)) : Goal P T N b cs ro n0 Post todo s :=
  g.ghost fun av0 w0 sp a w E hlow hn0 hR hn => by
    rw [nthF_get] at hr hj hq
    have hrl : r < s.rs.length := (List.getElem?_eq_some_iff.1 hr).1
    have hql : q < s.rs.length := (List.getElem?_eq_some_iff.1 hq).1
    have hrq : r ≠ q := by intro e; subst e; rw [hr] at hq; cases hq
    have hqE : q < E.length := by rw [hR.len]; exact hql
    let e := E[q]
    have he : E[q]? = some e := List.getElem?_eq_getElem hqE
    let E' : Env := E ++ [e]
    have hEle := Env.le_append E [e]
    let rs1 := (s.rs.set q .dead).set r (.box (setAt l j (.sa s.rs.length m)))
    have hl1 : rs1.length = s.rs.length := by simp [rs1]
    have hat : ∀ {k bb z : Nat}, atRoot E' k bb z → (k < s.rs.length ∧ atRoot E k bb z) ∨ (k = s.rs.length ∧ atRoot E q bb z) := by
      rintro k bb z ⟨hh, h1⟩
      rcases Nat.lt_or_ge k E.length with hk | hk
      · rw [List.getElem?_append_left hk] at h1
        exact .inl ⟨by rw [← hR.len]; exact hk, hh, h1⟩
      · rw [List.getElem?_append_right hk] at h1
        rcases Nat.eq_zero_or_pos (k - E.length) with e0 | e0
        · rw [e0] at h1
          simp at h1
          refine .inr ⟨by rw [← hR.len]; omega, hh, ?_⟩
          rw [he, h1]
        · rw [List.getElem?_eq_none (by simp; omega)] at h1; simp at h1
    have key : ∀ (k : Nat) (y : Root) (bb z : Nat), (rs1 ++ [Root.arr el sz n get])[k]? = some y → y.live → atRoot E' k bb z → ∃ k0 x, s.rs[k0]? = some x ∧ x.live ∧ atRoot E k0 bb z ∧ k0 = (if k = s.rs.length then q else k) ∧ (k ≠ s.rs.length → k ≠ q) := by
      intro k y bb z h1 h2 h3
      rcases hat h3 with ⟨hk, h4⟩ | ⟨hk, h4⟩
      · rw [List.getElem?_append_left (by rw [hl1]; exact hk)] at h1
        have hne : k ≠ s.rs.length := by omega
        have hkq : k ≠ q := by
          intro e0
          subst e0
          simp only [rs1] at h1
          rw [List.getElem?_set, if_neg hrq, List.getElem?_set, if_pos rfl, if_pos hql] at h1
          simp only [Option.some.injEq] at h1
          subst h1; exact h2
        refine ⟨k, ?_⟩
        rw [if_neg hne]
        by_cases hkr : r = k
        · subst hkr
          exact ⟨_, hr, trivial, h4, rfl, fun _ => hkq⟩
        · simp only [rs1] at h1
          rw [List.getElem?_set, if_neg hkr, List.getElem?_set, if_neg (fun e0 => hkq e0.symm)] at h1
          exact ⟨y, h1, h2, h4, rfl, fun _ => hkq⟩
      · subst hk
        exact ⟨q, _, hq, trivial, h4, by simp, fun hn => (hn rfl).elim⟩
    have hav : ∀ bb, AV av0 (rs1 ++ [Root.arr el sz n get]) E' bb → AV av0 s.rs E bb := by
      rintro bb (h1 | ⟨k, y, z, h1, h2, h3⟩)
      · exact .inl h1
      · obtain ⟨k0, x, g1, g2, g3, _⟩ := key k y bb z h1 h2 h3
        exact .inr ⟨k0, x, z, g1, g2, g3⟩
    have hR2 := hR.upd (rs' := rs1 ++ [Root.arr el sz n get]) (E' := E') (w' := w) hEle (Keeps.refl _ w) hR.below (fun bb _ h1 => hav bb h1) (by simp [E', hl1, hR.len])
      (by
        intro k y ent h1 h2
        rcases Nat.lt_or_ge k s.rs.length with hk | hk
        · rw [List.getElem?_append_left (by rw [hl1]; exact hk)] at h1
          have h2 : (E ++ [e])[k]? = some ent := h2
          rw [List.getElem?_append_left (by rw [hR.len]; exact hk)] at h2
          simp only [rs1] at h1
          by_cases hkr : r = k
          · subst hkr
            rw [List.getElem?_set, if_pos rfl, if_pos (by simpa using hrl)] at h1
            simp only [Option.some.injEq] at h1
            subst h1
            obtain ⟨bb, vs, Tc, p1, p2, p3, p4⟩ := RootRel.mono (av' := AV av0 (rs1 ++ [Root.arr el sz n get]) E') hEle (Keeps.refl _ w) (fun b _ h => hav b h) (fun _ _ _ => rfl) (hR.roots r _ ent hr h2)
            refine ⟨bb, vs, Tc, p1, by rw [setAt_eq]; simpa using p2, p3, ?_⟩
            rw [setAt_eq]
            refine All2.of_get (by simpa using p4.length) fun i x v hx hv => ?_
            rw [List.getElem?_set] at hx
            split at hx
            · rename_i hji
              subst hji
              split at hx
              · simp only [Option.some.injEq] at hx
                subst hx
                obtain ⟨e', a', n', cap, q1, q2, q3, q4⟩ := p4.get hj hv
                have q1 : (E ++ [e])[q]? = some e' := q1
                rw [List.getElem?_append_left hqE, he] at q1
                refine ⟨e, a', n', cap, ?_, ?_, q3, q4⟩
                · show (E ++ [e])[s.rs.length]? = some e
                  rw [← hR.len]; simp
                · simp only [Option.some.injEq] at q1; rw [q1]; exact q2
              · simp at hx
            · exact p4.get hx hv
          · rw [List.getElem?_set, if_neg hkr, List.getElem?_set] at h1
            split at h1
            · first
              | (simp only [Option.some.injEq] at h1; subst h1; trivial)
              | (split at h1
                 · simp only [Option.some.injEq] at h1; subst h1; trivial
                 · simp at h1)
            · exact RootRel.mono hEle (Keeps.refl _ w) (fun b _ h => hav b h) (fun _ _ _ => rfl) (hR.roots k y ent h1 h2)
        · rw [List.getElem?_append_right (by rw [hl1]; exact hk), hl1] at h1
          rcases Nat.eq_zero_or_pos (k - s.rs.length) with e0 | e0
          · rw [e0] at h1
            simp at h1
            have hk0 : k = s.rs.length := by omega
            subst hk0
            have h2 : (E ++ [e])[s.rs.length]? = some ent := h2
            rw [← hR.len] at h2
            simp at h2
            subst h1 h2
            exact RootRel.mono hEle (Keeps.refl _ w) (fun b _ h => hav b h) (fun _ _ _ => rfl) (hR.roots q _ e hq he)
          · rw [List.getElem?_eq_none (by simp; omega)] at h1; simp at h1)
      (by
        intro k y bb z h1 h2 h3
        obtain ⟨k0, x, g1, g2, g3, _⟩ := key k y bb z h1 h2 h3
        exact hR.blk k0 x bb z g1 g2 g3)
      (by
        intro k k' y y' bb z z' h1 h1' h2 h2' h3 h3'
        obtain ⟨k0, x, g1, g2, g3, g4, g5⟩ := key k y bb z h1 h2 h3
        obtain ⟨k0', x', g1', g2', g3', g4', g5'⟩ := key k' y' bb z' h1' h2' h3'
        have := hR.inj k0 k0' x x' bb z z' g1 g1' g2 g2' g3 g3'
        rw [g4, g4'] at this
        split at this <;> split at this
        · omega
        · rename_i n1 n2; exact absurd this.symm (g5' n2)
        · rename_i n1 n2; exact absurd this (g5 n1)
        · exact this)
    refine ⟨E', ?_, ?_, hn⟩
    · show (E ++ [e]).take n0 = _
      rw [List.take_append_of_le_length (by rw [hR.len]; exact hn0)]
    · have : moveS r j q m el sz n get l s = { s with rs := rs1 ++ [Root.arr el sz n get] } := by
        simp only [moveS, rs1, setAt_eq]
      rw [this]
      exact hR2
end
end Go.V
