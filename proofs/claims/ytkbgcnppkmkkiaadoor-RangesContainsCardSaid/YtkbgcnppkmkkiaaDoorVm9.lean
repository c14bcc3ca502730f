/- What is handed to a callee, and what comes back. -/
import Derived.Test.YtkbgcnppkmkkiaaDoorVm8
set_option linter.unusedVariables false
namespace Go.V
open Go.RowKit
section
variable {P : Program} {T : Tab} {N : Nat} {av0 : Nat → Prop} {w0 : World} {sp : List (D × Value)} {s : VS} {a : Act} {w : World} {E : Env}

/-- A choice of blocks that may turn, in which no root's block is. -/
structure Spare (av' : Nat → Prop) (av0 : Nat → Prop) (s : VS) (E : Env) : Prop where
  le : ∀ b, av' b → AV av0 s.rs E b
  no : ∀ (r : Nat) (x : Root) (b sz : Nat), s.rs[r]? = some x → x.live → atRoot E r b sz → ¬ av' b
theorem Spare.none (av0 : Nat → Prop) (s : VS) (E : Env) : Spare (fun _ => False) av0 s E := ⟨fun _ h => h.elim, fun _ _ _ _ _ _ _ h => h⟩
theorem Spare.outer (h : R T N av0 w0 sp s a w E) : Spare av0 av0 s E := ⟨fun _ h => .inl h, fun r x b sz h1 h2 h3 h4 => by
  have := (h.blk r x b sz h1 h2 h3).1
  have := h.outer b h4
  omega⟩

theorem mapO_rel {α β γ : Type} {f : α → Option β} {Ra : α → γ → Prop} {Rb : β → γ → Prop} (h : ∀ x y v, f x = some y → Ra x v → Rb y v) : ∀ {l : List α} {r : List β} {vs : List γ}, mapO f l = some r → All2 Ra l vs → All2 Rb r vs
  | [], r, vs, e, hv => by cases hv; simp [mapO] at e; subst e; exact .nil
  | x :: l, r, vs, e, hv => by
    cases hv with
    | cons q1 q2 =>
      simp only [mapO] at e
      split at e
      · rename_i y r' h1 h2
        simp only [Option.some.injEq] at e
        subst e
        exact .cons (h _ _ _ h1 q1) (mapO_rel h h2 q2)
      · simp at e

theorem reifyR_rel (h : R T N av0 w0 sp s a w E) {av' : Nat → Prop} (ha : Spare av' av0 s E) {rec : List C → Option (List I)} (hrec : ∀ l r vs, rec l = some r → All2 (CRel E (AV av0 s.rs E) w) l vs → All2 (IRel av' w) r vs)
    {q : Nat} {x : I} (e : reifyR s.rs q rec = some x) {b sz : Nat} (hq : atRoot E q b sz) : IRel av' w x (.pointer (some ⟨b, 0, none⟩)) := by
  unfold reifyR at e
  split at e
  case h_2 => simp at e
  rename_i l hl
  rw [nth_eq] at hl
  split at e
  case h_2 => simp at e
  rename_i is his
  simp only [Option.some.injEq] at e
  subst e
  obtain ⟨hh, hE⟩ := hq
  obtain ⟨b', cs, Tc, q1, q2, q3, q4⟩ := h.roots q _ _ hl hE
  simp only [Option.some.injEq] at q1
  subst q1
  have hi := hrec l is _ his q4
  refine ⟨⟨b, 0, none⟩, rfl, rfl, ha.no q _ b sz hl trivial ⟨hh, hE⟩, (Array.getElem?_eq_some_iff.1 q3).1, fun j hj => ?_⟩
  obtain ⟨v, h1, h2⟩ := getL_rel hi hj
  exact ⟨v, by rw [Addr.add_mid, getElem?_lit q3]; simpa using h1, h2⟩

theorem reify1_rel (h : R T N av0 w0 sp s a w E) {av' : Nat → Prop} (ha : Spare av' av0 s E) {rec : List C → Option (List I)} (hrec : ∀ l r vs, rec l = some r → All2 (CRel E (AV av0 s.rs E) w) l vs → All2 (IRel av' w) r vs)
    (c : C) (x : I) (v : Value) (e : reify1 s.rs rec c = some x) (hv : CRel E (AV av0 s.rs E) w c v) : IRel av' w x v := by
  have hk : ∀ {x : I} {v : Value}, IRel (AV av0 s.rs E) w x v → IRel av' w x v := fun q => IRel.mono (Keeps.refl _ w) (fun b _ hb => ha.le b hb) q
  unfold reify1 at e
  split at e
  · simp only [Option.some.injEq] at e
    subst e
    exact hk hv
  · obtain ⟨b, sz, h1, rfl⟩ := hv
    have := reifyR_rel h ha hrec e h1
    simpa using this
  · rename_i q m
    split at e
    · rename_i el sz n get hl
      rw [nth_eq] at hl
      simp only [Option.some.injEq] at e
      subst e
      obtain ⟨e', ao, n', cap, h1, h2, h3, rfl⟩ := hv
      obtain ⟨q1, q2, xs, q3, q4⟩ := h.roots q _ _ hl h1
      rcases q3.2 with ⟨q5, q6⟩ | ⟨g, cap', cur, q5, q6, q7, q8, q9, q10, q11⟩
      · rw [h2] at q5
        simp only [Value.slice.injEq] at q5
        obtain ⟨rfl, rfl, rfl⟩ := q5
        exact ⟨none, 0, rfl, by omega, by omega, fun h0 => by omega⟩
      · rw [h2] at q5
        simp only [Value.slice.injEq] at q5
        obtain ⟨rfl, rfl, rfl⟩ := q5
        have hat : atRoot E q g e'.2.2 := by
          obtain ⟨e1, e2, e3⟩ := e'
          have h2 : e2 = _ := h2
          have q2 : e1 = e2.ownBlock := q2
          rw [h2] at q2
          exact ⟨e2, by rw [h1, q2]; rfl⟩
        refine ⟨_, cap, rfl, by omega, by omega, fun _ => ⟨_, rfl, rfl, ha.no q _ g _ hl trivial hat, (Array.getElem?_eq_some_iff.1 q7).1, fun i hi j hj => ?_⟩⟩
        obtain ⟨x, h5, h6⟩ := q4 i (by omega) j hj
        refine ⟨x, ?_, hk h6⟩
        have hlt : i * sz + j < n' * sz := by
          have := Nat.mul_le_mul_right sz (show i + 1 ≤ n' by omega)
          rw [Nat.add_mul, Nat.one_mul] at this
          omega
        rw [Addr.add_mid, getElem?_lit q7]
        rw [← q11, List.getElem?_take, if_pos hlt] at h5
        simpa using h5
    · rename_i el sz n l hl
      rw [nth_eq] at hl
      split at e
      case h_2 => simp at e
      rename_i l' hl'
      obtain ⟨rfl, hlen⟩ := takeN_eq _ _ _ hl'
      split at e
      case h_2 => simp at e
      rename_i is his
      simp only [Option.some.injEq] at e
      subst e
      obtain ⟨e', ao, n', cap, h1, h2, h3, rfl⟩ := hv
      obtain ⟨q1, q2, xs, q3, q4⟩ := h.roots q _ _ hl h1
      have hi := hrec _ _ _ his (q4.take (m * sz))
      have hil := hi.length
      have hxs : is.length = m * sz := by rw [hil, List.length_take, ← q4.length]; omega
      rcases q3.2 with ⟨q5, q6⟩ | ⟨g, cap', cur, q5, q6, q7, q8, q9, q10, q11⟩
      · rw [h2] at q5
        simp only [Value.slice.injEq] at q5
        obtain ⟨rfl, rfl, rfl⟩ := q5
        exact ⟨none, 0, rfl, by omega, by omega, fun h0 => by omega⟩
      · rw [h2] at q5
        simp only [Value.slice.injEq] at q5
        obtain ⟨rfl, rfl, rfl⟩ := q5
        have hat : atRoot E q g e'.2.2 := by
          obtain ⟨e1, e2, e3⟩ := e'
          have h2 : e2 = _ := h2
          have q2 : e1 = e2.ownBlock := q2
          rw [h2] at q2
          exact ⟨e2, by rw [h1, q2]; rfl⟩
        refine ⟨_, cap, rfl, by omega, by omega, fun _ => ⟨_, rfl, rfl, ha.no q _ g _ hl trivial hat, (Array.getElem?_eq_some_iff.1 q7).1, fun i hi' j hj => ?_⟩⟩
        have hlt : i * sz + j < m * sz := by
          have := Nat.mul_le_mul_right sz (show i + 1 ≤ m by omega)
          rw [Nat.add_mul, Nat.one_mul] at this
          omega
        obtain ⟨x, h5, h6⟩ := getL_rel hi (q := i * sz + j) (by omega)
        refine ⟨x, ?_, h6⟩
        rw [Addr.add_mid, getElem?_lit q7]
        rw [← q11, List.take_take, List.getElem?_take] at h5
        split at h5
        · simpa using h5
        · simp at h5
    · simp at e
  · rename_i q
    split at e
    case h_2 => simp at e
    rename_i l hl
    rw [nth_eq] at hl
    simp only [Option.some.injEq] at e
    subst e
    obtain ⟨b, sz, ⟨hh, h1⟩, rfl⟩ := hv
    obtain ⟨b', es, clock, q1, q2, q3⟩ := h.roots q _ _ hl h1
    have q1 : some b = some b' := q1
    simp only [Option.some.injEq] at q1
    subst q1
    exact ⟨b, es, clock, rfl, ha.no q _ b sz hl trivial ⟨hh, h1⟩, q2, q3⟩
  · simp only [Option.some.injEq] at e
    subst e
    obtain ⟨vs, rfl, h1⟩ := hv
    refine ⟨vs, rfl, ?_, fun j hj => by omega⟩
    have := h1.length
    simpa using this.symm
  · rename_i f q
    split at e
    case h_2 => simp at e
    rename_i x hx
    simp only [Option.some.injEq] at e
    subst e
    obtain ⟨vs, rfl, h1⟩ := hv
    have hlen := h1.length
    obtain ⟨u, hu, b, sz, h2, rfl⟩ := h1.nth (i := 0) (x := q) rfl
    refine ⟨vs, rfl, by simpa using hlen.symm, fun j hj => ?_⟩
    have : j = 0 := by omega
    subst this
    exact ⟨_, by simpa using hu, reifyR_rel h ha hrec hx h2⟩
  · rename_i f q q'
    split at e
    case h_2 => simp at e
    rename_i x y hx hy
    simp only [Option.some.injEq] at e
    subst e
    obtain ⟨vs, rfl, h1⟩ := hv
    have hlen := h1.length
    obtain ⟨u, hu, b, sz, h2, rfl⟩ := h1.nth (i := 0) (x := q) rfl
    obtain ⟨u', hu', b', sz', h2', rfl⟩ := h1.nth (i := 1) (x := q') rfl
    refine ⟨vs, rfl, by simpa using hlen.symm, fun j hj => ?_⟩
    rcases (show j = 0 ∨ j = 1 by omega) with rfl | rfl
    · exact ⟨_, by simpa using hu, reifyR_rel h ha hrec hx h2⟩
    · exact ⟨_, by simpa using hu', reifyR_rel h ha hrec hy h2'⟩
  · rename_i f q q' q''
    split at e
    case h_2 => simp at e
    rename_i x y z hx hy hz
    simp only [Option.some.injEq] at e
    subst e
    obtain ⟨vs, rfl, h1⟩ := hv
    have hlen := h1.length
    obtain ⟨u, hu, b, sz, h2, rfl⟩ := h1.nth (i := 0) (x := q) rfl
    obtain ⟨u', hu', b', sz', h2', rfl⟩ := h1.nth (i := 1) (x := q') rfl
    obtain ⟨u'', hu'', b'', sz'', h2'', rfl⟩ := h1.nth (i := 2) (x := q'') rfl
    refine ⟨vs, rfl, by simpa using hlen.symm, fun j hj => ?_⟩
    rcases (show j = 0 ∨ j = 1 ∨ j = 2 by omega) with rfl | rfl | rfl
    · exact ⟨_, by simpa using hu, reifyR_rel h ha hrec hx h2⟩
    · exact ⟨_, by simpa using hu', reifyR_rel h ha hrec hy h2'⟩
    · exact ⟨_, by simpa using hu'', reifyR_rel h ha hrec hz h2''⟩
  · simp at e

theorem reify_rel (h : R T N av0 w0 sp s a w E) {av' : Nat → Prop} (ha : Spare av' av0 s E) : ∀ (k : Nat) (l : List C) (r : List I) (vs : List Value), reify k s.rs l = some r → All2 (CRel E (AV av0 s.rs E) w) l vs → All2 (IRel av' w) r vs
  | 0, l, r, vs, e, hv => mapO_rel (fun c x v => reify1_rel h ha (fun _ _ _ q => by simp at q) c x v) e hv
  | k + 1, l, r, vs, e, hv => mapO_rel (fun c x v => reify1_rel h ha (fun l r vs => reify_rel h ha k l r vs) c x v) e hv

theorem reifyT_rel (h : R T N av0 w0 sp s a w E) {av' : Nat → Prop} (ha : Spare av' av0 s E) {E' : Env} : ∀ {l r : List (Bool × List C)} {vs : List Value}, reifyD.reifyT s.rs l = some r →
    All2 (fun (x : Bool × List C) y => match x with
      | (true, l) => ∃ cs : Array Value, y = .agg cs ∧ All2 (CRel E (AV av0 s.rs E) w) l cs.toList
      | (false, l) => ∃ c, l = [c] ∧ CRel E (AV av0 s.rs E) w c y) l vs →
    All2 (fun (x : Bool × List C) y => match x with
      | (true, l) => ∃ cs : Array Value, y = .agg cs ∧ All2 (CRel E' av' w) l cs.toList
      | (false, l) => ∃ c, l = [c] ∧ CRel E' av' w c y) r vs
  | [], r, vs, e, hv => by cases hv; simp [reifyD.reifyT] at e; subst e; exact .nil
  | (b, l) :: m, r, vs, e, hv => by
    cases hv with
    | cons q1 q2 =>
      simp only [reifyD.reifyT] at e
      split at e
      · rename_i x y h1 h2
        simp only [Option.some.injEq] at e
        subst e
        refine .cons ?_ (reifyT_rel h ha h2 q2)
        cases b with
        | true =>
          obtain ⟨cs, rfl, q3⟩ := q1
          exact ⟨cs, rfl, lift_of (reify_rel h ha 6 l x _ h1 q3)⟩
        | false =>
          obtain ⟨c, rfl, q3⟩ := q1
          have := reify_rel h ha 6 [c] x _ h1 (.cons q3 .nil)
          cases this with
          | cons q4 q5 => cases q5; exact ⟨_, rfl, q4⟩
      · simp at e

theorem reifyD_rel (h : R T N av0 w0 sp s a w E) {av' : Nat → Prop} (ha : Spare av' av0 s E) {E' : Env} {d d' : D} {v : Value} (e : reifyD s.rs d = some d') (hv : DRel E (AV av0 s.rs E) w d v) : DRel E' av' w d' v := by
  cases d with
  | c x =>
    simp only [reifyD] at e
    split at e
    · rename_i y hy
      simp only [Option.some.injEq] at e
      subst e
      have := reify_rel h ha 6 [x] [y] _ hy (.cons hv .nil)
      cases this with
      | cons q1 q2 => exact q1
    · simp at e
  | a l =>
    simp only [reifyD] at e
    split at e
    · rename_i r hr
      simp only [Option.some.injEq] at e
      subst e
      obtain ⟨cs, rfl, h1⟩ := hv
      exact ⟨cs, rfl, lift_of (reify_rel h ha 6 l r _ hr h1)⟩
    · simp at e
  | t l =>
    simp only [reifyD] at e
    split at e
    · rename_i r hr
      simp only [Option.some.injEq] at e
      subst e
      obtain ⟨vs, rfl, h1⟩ := hv
      exact ⟨vs, rfl, reifyT_rel h ha hr h1⟩
    · simp at e
theorem reifyDs_rel (h : R T N av0 w0 sp s a w E) {av' : Nat → Prop} (ha : Spare av' av0 s E) {E' : Env} : ∀ {ds is : List D} {vs : List Value}, reifyDs s.rs ds = some is → All2 (DRel E (AV av0 s.rs E) w) ds vs → All2 (DRel E' av' w) is vs
  | [], is, vs, e, hv => by cases hv; simp [reifyDs] at e; subst e; exact .nil
  | d :: ds, is, vs, e, hv => by
    cases hv with
    | cons q1 q2 =>
      simp only [reifyDs] at e
      split at e
      · rename_i x r h1 h2
        simp only [Option.some.injEq] at e
        subst e
        exact .cons (reifyD_rel h ha h1 q1) (reifyDs_rel h ha h2 q2)
      · simp at e

/-- Cells that refer to no root mean the same in every environment. -/
theorem pureC_rel {E E' : Env} {av : Nat → Prop} {w : World} : ∀ {l : List C} {vs : List Value}, pureC l = true → All2 (CRel E av w) l vs → All2 (CRel E' av w) l vs
  | [], vs, _, hv => by cases hv; exact .nil
  | c :: l, vs, hp, hv => by
    cases hv with
    | cons q1 q2 =>
      cases c with
      | im x => exact .cons q1 (pureC_rel (by simpa [pureC] using hp) q2)
      | _ => simp [pureC] at hp
theorem pureD_rel {E E' : Env} {av : Nat → Prop} {w : World} {d : D} {v : Value} (hp : pureD d = true) (hv : DRel E av w d v) : DRel E' av w d v := by
  cases d with
  | c x =>
    have := pureC_rel (E' := E') (l := [x]) hp (.cons (hv : CRel E av w x v) .nil)
    cases this with | cons q _ => exact q
  | a l => obtain ⟨cs, rfl, h⟩ := hv; exact ⟨cs, rfl, pureC_rel hp h⟩
  | t l =>
    obtain ⟨vs, rfl, h⟩ := hv
    refine ⟨vs, rfl, ?_⟩
    simp only [pureD, List.all_eq_true] at hp
    have : ∀ {l : List (Bool × List C)} {ws : List Value}, (∀ x ∈ l, pureC x.2 = true) → All2 (fun (x : Bool × List C) y => match x with
      | (true, l) => ∃ cs : Array Value, y = .agg cs ∧ All2 (CRel E av w) l cs.toList
      | (false, l) => ∃ c, l = [c] ∧ CRel E av w c y) l ws → All2 (fun (x : Bool × List C) y => match x with
      | (true, l) => ∃ cs : Array Value, y = .agg cs ∧ All2 (CRel E' av w) l cs.toList
      | (false, l) => ∃ c, l = [c] ∧ CRel E' av w c y) l ws := by
      intro l ws hl hw
      induction hw with
      | nil => exact .nil
      | cons q _ ih =>
        refine .cons ?_ (ih fun x hx => hl x (List.mem_cons_of_mem _ hx))
        rename_i x y l' m' _
        have hx := hl x (List.mem_cons_self ..)
        obtain ⟨b, k⟩ := x
        cases b with
        | true => obtain ⟨cs, rfl, q⟩ := q; exact ⟨cs, rfl, pureC_rel hx q⟩
        | false =>
          obtain ⟨c, hc, q⟩ := q
          have hc : k = [c] := hc
          subst hc
          have := pureC_rel (E' := E') (l := [c]) hx (.cons q .nil)
          cases this with | cons q _ => exact ⟨c, rfl, q⟩
    exact this hp h
/-- Plain cells mean the same whatever may turn. -/
theorem plainC_rel {E E' : Env} {av av' : Nat → Prop} {w w' : World} : ∀ {l : List C} {vs : List Value}, plainC l = true → All2 (CRel E av w) l vs → All2 (CRel E' av' w') l vs
  | [], vs, _, hv => by cases hv; exact .nil
  | c :: l, vs, hp, hv => by
    cases hv with
    | cons q1 q2 =>
      cases c with
      | im x =>
        cases x with
        | v x => exact .cons q1 (plainC_rel (by simpa [plainC] using hp) q2)
        | _ => simp [plainC] at hp
      | _ => simp [plainC] at hp
theorem plainD_rel {E E' : Env} {av av' : Nat → Prop} {w w' : World} {d : D} {v : Value} (hp : plainD d = true) (hv : DRel E av w d v) : DRel E' av' w' d v := by
  cases d with
  | c x =>
    have := plainC_rel (E' := E') (av' := av') (w' := w') (l := [x]) hp (.cons (hv : CRel E av w x v) .nil)
    cases this with | cons q _ => exact q
  | a l => obtain ⟨cs, rfl, h⟩ := hv; exact ⟨cs, rfl, plainC_rel hp h⟩
  | t l =>
    obtain ⟨vs, rfl, h⟩ := hv
    refine ⟨vs, rfl, ?_⟩
    simp only [plainD, List.all_eq_true] at hp
    have : ∀ {l : List (Bool × List C)} {ws : List Value}, (∀ x ∈ l, plainC x.2 = true) → All2 (fun (x : Bool × List C) y => match x with
      | (true, l) => ∃ cs : Array Value, y = .agg cs ∧ All2 (CRel E av w) l cs.toList
      | (false, l) => ∃ c, l = [c] ∧ CRel E av w c y) l ws → All2 (fun (x : Bool × List C) y => match x with
      | (true, l) => ∃ cs : Array Value, y = .agg cs ∧ All2 (CRel E' av' w') l cs.toList
      | (false, l) => ∃ c, l = [c] ∧ CRel E' av' w' c y) l ws := by
      intro l ws hl hw
      induction hw with
      | nil => exact .nil
      | cons q _ ih =>
        refine .cons ?_ (ih fun x hx => hl x (List.mem_cons_of_mem _ hx))
        rename_i x y l' m' _
        have hx := hl x (List.mem_cons_self ..)
        obtain ⟨b, k⟩ := x
        cases b with
        | true => obtain ⟨cs, rfl, q⟩ := q; exact ⟨cs, rfl, plainC_rel hx q⟩
        | false =>
          obtain ⟨c, hc, q⟩ := q
          have hc : k = [c] := hc
          subst hc
          have := plainC_rel (E' := E') (av' := av') (w' := w') (l := [c]) hx (.cons q .nil)
          cases this with | cons q _ => exact ⟨c, rfl, q⟩
    exact this hp h
/-- A plain value is one value alone. -/
theorem plainC_one {E E' : Env} {av av' : Nat → Prop} {w w' : World} : ∀ {l : List C} {vs vs' : List Value}, plainC l = true → All2 (CRel E av w) l vs → All2 (CRel E' av' w') l vs' → vs = vs'
  | [], vs, vs', _, h, h' => by cases h; cases h'; rfl
  | c :: l, vs, vs', hp, h, h' => by
    cases h with
    | cons q1 q2 => cases h' with
      | cons q3 q4 =>
        cases c with
        | im x => cases x with
          | v x => rw [plainC_one (by simpa [plainC] using hp) q2 q4, (q1 : IRel av w (.v x) _).1, (q3 : IRel av' w' (.v x) _).1]
          | _ => simp [plainC] at hp
        | _ => simp [plainC] at hp

theorem pure_reify {rs : List Root} {rec : List C → Option (List I)} : ∀ {l : List C} {is : List I}, pureC l = true → mapO (reify1 rs rec) l = some is → l = lift is
  | [], is, _, e => by simp [mapO] at e; subst e; rfl
  | c :: l, is, hp, e => by
    cases c with
    | im x =>
      simp only [mapO, reify1] at e
      split at e
      · rename_i y r h1 h2
        simp only [Option.some.injEq] at h1 e
        subst h1 e
        rw [pure_reify (by simpa [pureC] using hp) h2]
        rfl
      · simp at e
    | _ => simp [pureC] at hp
theorem pure_reify3 {rs : List Root} {l : List C} {is : List I} (hp : pureC l = true) (e : reify 6 rs l = some is) : l = lift is := pure_reify hp e
theorem pure_reifyT {rs : List Root} : ∀ {l r : List (Bool × List C)}, (∀ x ∈ l, pureC x.2 = true) → reifyD.reifyT rs l = some r → r = l
  | [], r, _, e => by simp [reifyD.reifyT] at e; exact e
  | (b, l) :: m, r, hp, e => by
    simp only [reifyD.reifyT] at e
    split at e
    · rename_i x y h1 h2
      simp only [Option.some.injEq] at e
      subst e
      rw [pure_reifyT (fun x hx => hp x (List.mem_cons_of_mem _ hx)) h2, ← pure_reify3 (hp (b, l) (List.mem_cons_self ..)) h1]
    · simp at e
theorem pure_reifyD {rs : List Root} {d d' : D} (hp : pureD d = true) (e : reifyD rs d = some d') : d' = d := by
  cases d with
  | c x =>
    simp only [reifyD] at e
    split at e
    · rename_i y hy
      simp only [Option.some.injEq] at e
      subst e
      have := pure_reify3 hp hy
      simp only [lift, List.cons.injEq, and_true] at this
      rw [this]
    · simp at e
  | a l =>
    simp only [reifyD] at e
    split at e
    · rename_i r hr
      simp only [Option.some.injEq] at e
      subst e
      rw [← pure_reify3 hp hr]
    · simp at e
  | t l =>
    simp only [reifyD] at e
    split at e
    · rename_i r hr
      simp only [Option.some.injEq] at e
      subst e
      rw [pure_reifyT (fun x hx => by simp only [pureD, List.all_eq_true] at hp; exact hp x hx) hr]
    · simp at e
theorem pure_reifyDs {rs : List Root} {E E' : Env} {av : Nat → Prop} {w : World} : ∀ {ds is : List D} {vs : List Value}, pureDs ds = true → reifyDs rs ds = some is → All2 (DRel E av w) ds vs → All2 (DRel E' av w) is vs
  | [], is, vs, _, e, hv => by cases hv; simp [reifyDs] at e; subst e; exact .nil
  | d :: ds, is, vs, hp, e, hv => by
    simp only [pureDs] at hp
    split at hp
    · rename_i h0
      cases hv with
      | cons q1 q2 =>
        simp only [reifyDs] at e
        split at e
        · rename_i x r h1 h2
          simp only [Option.some.injEq] at e
          subst e
          rw [pure_reifyD h0 h1]
          exact .cons (pureD_rel h0 q1) (pure_reifyDs hp h2 q2)
        · simp at e
    · simp at hp
end
end Go.V
