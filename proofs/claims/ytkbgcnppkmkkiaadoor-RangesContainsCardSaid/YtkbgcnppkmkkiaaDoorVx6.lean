/- The executor's calls, and one operation. -/
import Derived.Test.YtkbgcnppkmkkiaaDoorVx5
set_option linter.unusedVariables false
namespace Go.V
open Go.RowKit

/-- The environment has grown; all places kept free are still free. -/
structure Kept (E E' : Env) : Prop where
  le : Env.le E E'
  free : ∀ q : Nat, E[q]? = some hole → E'[q]? = some hole
theorem Kept.refl (E : Env) : Kept E E := ⟨Env.le_refl E, fun _ h => h⟩
theorem Kept.trans {E F G : Env} (h : Kept E F) (k : Kept F G) : Kept E G := ⟨h.le.trans k.le, fun q e => k.free q (h.free q e)⟩
theorem Kept.of_grew {E E' : Env} {b : Nat} (h : Grew b E E') (hb : E.length ≤ b) : Kept E E' := ⟨h.le, fun q e => h.free q (fun hq => by
  have := (List.getElem?_eq_some_iff.1 e).1
  omega) e⟩
theorem Kept.grew {E E' : Env} (h : Kept E E') (b : Nat) : Grew b E E' := ⟨h.le, fun q _ => h.free q⟩

/-- What is known of the calls that lie deeper. -/
structure LoOK (T : Tab) (P : Program) (lo : Lo) : Prop where
  call : ∀ f ds rs d rs', lo.call f ds rs = some (d, rs') → Enters P f ∧ ∀ (N : Nat) (av0 : Nat → Prop) (w0 : World) (sp : List (D × Value)) (sl : Slots) (df : List Nat) (a : Act) (w : World) (E : Env) (vs : List Value), R T N av0 w0 sp ⟨sl, rs, df⟩ a w E → All2 (DRel E (AV av0 rs E) w) ds vs →
    Go.Calls P f vs.toArray w fun e w' => ∃ v E', e = .returned v ∧ Kept E E' ∧ R T N av0 w0 sp ⟨sl, rs', df⟩ a w' E' ∧ DRel E' (AV av0 rs' E') w' d v
  yld : ∀ r ds rs d rs', lo.yld r ds rs = some (d, rs') → ∀ (N : Nat) (av0 : Nat → Prop) (w0 : World) (sp : List (D × Value)) (sl : Slots) (df : List Nat) (a : Act) (w : World) (E : Env) (vs : List Value), R T N av0 w0 sp ⟨sl, rs, df⟩ a w E → All2 (DRel E (AV av0 rs E) w) ds vs →
    ∃ b sz f tm as bd, atRoot E r b sz ∧ (Instr.yield b vs.toArray).run P w = .ok (.round b f tm as bd) w ∧
      RoundS P b f tm as bd w fun v w' => ∃ E', Kept E E' ∧ R T N av0 w0 sp ⟨sl, rs', df⟩ a w' E' ∧ DRel E' (AV av0 rs' E') w' d v

section
variable {P : Program} {T : Tab} {lo : Lo} {hi : Hint} {N : Nat} {av0 : Nat → Prop} {w0 : World} {sp : List (D × Value)} {s : VS} {a : Act} {w : World} {E : Env}

/-- The empty frame, in whatever world: what a call needs that is handed nothing of the caller's. -/
theorem R.none {av : Nat → Prop} (hav : ∀ b, av b → b < w.heap.size) (hg : Globs T av w) : R T 0 av w [] ⟨[], [], []⟩ { tmps := #[], defers := [] } w [] :=
  ⟨rfl, .nil, fun _ hx => (by cases hx), Below.refl _ _, rfl, hav, fun r x e h1 => (by simp at h1), fun r x b sz h1 => (by simp at h1), fun r r' x x' b sz sz' h1 => (by simp at h1), fun t d c h1 => (by simp [look] at h1), hg.mono (Keeps.refl _ w) (fun b _ q => q.elim id fun ⟨r, x, sz, h1, _⟩ => by simp at h1)⟩
theorem AV_nil {av : Nat → Prop} : ∀ b, AV av [] [] b ↔ av b := fun b => ⟨fun q => q.elim id fun ⟨r, x, sz, h1, _⟩ => by simp at h1, .inl⟩

/-- A call that only looks: a contract by itself. -/
theorem LoOK.pure (hl : LoOK T P lo) {f : FuncId} {is : List D} {d : D} {rs' : List Root} (e : lo.call f is [] = some (d, rs')) {d' : D} (e' : reifyD rs' d = some d') : Pure1 T P f is d' := by
  intro av w vs hav hgl hvs
  have h0 := (hl.call f is [] d rs' e).2 0 av w [] [] [] _ w [] vs (R.none hav hgl) (hvs.mono fun _ _ q => DRel.mono (Env.le_refl []) (Keeps.refl _ w) (fun b _ q => (AV_nil b).1 q) q)
  refine h0.mono ?_
  rintro e w' ⟨v, E', rfl, _, hR, hd⟩
  exact ⟨v, rfl, reifyD_rel hR (Spare.outer hR) e' hd, hR.below⟩

theorem calOf (hl : LoOK T P lo) : CalOK T P ⟨fun f is => match lo.call f is [] with
    | some (d, rs') => match reifyD rs' d with
      | some d' => some (none, d')
      | none => none
    | none => none, fun _ _ _ => none, fun _ _ _ => none⟩ where
  pur f ds p d e := by
    simp only at e
    split at e
    case h_2 => simp at e
    rename_i d0 rs' h1
    split at e
    case h_2 => simp at e
    rename_i d' h2
    simp only [Option.some.injEq, Prod.mk.injEq] at e
    obtain ⟨rfl, rfl⟩ := e
    exact ⟨(hl.call _ _ _ _ _ h1).1, fun _ => hl.pure h1 h2⟩
  eff _ _ _ _ _ _ e := by simp at e
  yld _ _ _ _ _ _ e := by simp at e

/-- A call met as one that only looks. -/
theorem purF_sound (hl : LoOK T P lo) (h : R T N av0 w0 sp s a w E) {f : FuncId} {ds : List D} {d : D} (e : purF lo s.rs f ds = some d) (hs : (pureDs ds || plainD d) = true) (hd : pureD d = true) {vs : List Value} (hv : All2 (DRel E (AV av0 s.rs E) w) ds vs) :
    Enters P f ∧ Go.Calls P f vs.toArray w fun e w' => ∃ v, e = .returned v ∧ Below w.heap.size w w' ∧ DRel E (AV av0 s.rs E) w' d v := by
  unfold purF at e
  split at e
  case h_2 => simp at e
  rename_i is hi
  split at e
  case h_2 => simp at e
  rename_i d0 rs' h1
  have hc := calOf hl
  have hp : (match lo.call f is [] with
    | some (d, rs') => match reifyD rs' d with
      | some d' => some ((none : Option Prop), d')
      | none => none
    | none => none) = some (none, d) := by rw [h1]; simp only [e]
  exact ⟨(hl.call _ _ _ _ _ h1).1, pur_call hc h hi hp trivial hs hd hv⟩

/-- Calls, behind which the relation is shown. -/
def CallsTo (T : Tab) (P : Program) (N : Nat) (av0 : Nat → Prop) (w0 : World) (sp : List (D × Value)) (s : VS) (a : Act) (w : World) (E : Env) (b : Nat) (e : Eff) (f : FuncId) (vs : List Value) : Prop :=
  Enters P f ∧ Go.Calls P f vs.toArray w fun en w' => ∃ v E', en = .returned v ∧ After T N av0 w0 sp s a w E b e v w' E'

theorem After.val_below (h : R T N av0 w0 sp s a w E) {b : Nat} {d : D} {v : Value} {w' : World} (hb : Below w.heap.size w w') (hd : DRel E (AV av0 s.rs E) w' d v) : After T N av0 w0 sp s a w E b (.val d) v w' E :=
  ⟨Grew.refl _ _, h.grown hb, fun d' hd' => by simp only [effD, Option.some.injEq] at hd'; subst hd'; exact hd⟩

theorem coldF_some {rs : List Root} {ds : List D} {e e' : Eff} (h : coldF rs ds e = some e') : (∃ l, e' = .cold l) ∨ (e' = e ∧ sasDs rs ds = some []) := by
  unfold coldF at h
  split at h
  · simp only [Option.some.injEq] at h; exact .inl ⟨_, h.symm⟩
  · rename_i hs; simp only [Option.some.injEq] at h; exact .inr ⟨h.symm, hs⟩
  · simp at h

theorem plainC_pure : ∀ {l : List C}, plainC l = true → pureC l = true
  | [], _ => rfl
  | c :: l, h => by
    cases c with
    | im x => cases x with
      | v x => simp only [plainC] at h; simp only [pureC]; exact plainC_pure h
      | _ => simp [plainC] at h
    | _ => simp [plainC] at h
theorem plainD_pure {d : D} (h : plainD d = true) : pureD d = true := by
  cases d with
  | c x => exact plainC_pure (l := [x]) h
  | a l => exact plainC_pure h
  | t l => simp only [plainD, pureD, List.all_eq_true] at h ⊢; exact fun x hx => plainC_pure (h x hx)

theorem sasL1_nil {rec : List C → Option (List Nat)} {rs : List Root} : ∀ {l : List C}, sasL1 rec rs l = some [] → pureC l = true
  | [], _ => rfl
  | x :: l, h => by
    have h : (match sasC rec rs x with
      | some a => match sasL1 rec rs l with
        | some b => some (a ++ b)
        | none => none
      | none => none) = some [] := h
    split at h
    case h_2 => simp at h
    rename_i m hm
    split at h
    case h_2 => simp at h
    rename_i k hk
    simp only [Option.some.injEq, List.append_eq_nil_iff] at h
    obtain ⟨rfl, rfl⟩ := h
    unfold sasC at hm
    split at hm
    · simp only [pureC]; exact sasL1_nil hk
    · split at hm
      · split at hm
        · simp at hm
        · simp at hm
      · simp at hm
    · simp at hm
theorem sasDs_nil {rs : List Root} : ∀ {ds : List D}, sasDs rs ds = some [] → pureDs ds = true
  | [], _ => rfl
  | d :: ds, h => by
    have h : (match sasD rs d, sasDs rs ds with
      | some a, some b => some (a ++ b)
      | _, _ => none) = some [] := h
    split at h
    case h_2 => simp at h
    rename_i m k hm hk
    simp only [Option.some.injEq, List.append_eq_nil_iff] at h
    obtain ⟨rfl, rfl⟩ := h
    have hd : pureD d = true := by
      cases d with
      | c x => exact sasL1_nil (l := [x]) hm
      | a l => exact sasL1_nil hm
      | t l => simp [sasD] at hm
    simp only [pureDs, hd]
    exact sasDs_nil hk

theorem pcallF_sound (hl : LoOK T P lo) (h : R T N av0 w0 sp s a w E) {b : Nat} {f : FuncId} {ds : List D} {e : Eff} (ef : pcallF lo s.rs f ds = some e) {vs : List Value} (hv : All2 (DRel E (AV av0 s.rs E) w) ds vs) :
    (∃ l, e = .cold l) ∨ CallsTo T P N av0 w0 sp s a w E b e f vs := by
  unfold pcallF at ef
  split at ef
  case h_2 => simp at ef
  rename_i d hd
  have fin : (pureDs ds || plainD d) = true → pureD d = true → CallsTo T P N av0 w0 sp s a w E b (.val d) f vs := fun h1 h2 => by
    obtain ⟨h3, h4⟩ := purF_sound hl h hd h1 h2 hv
    refine ⟨h3, h4.mono ?_⟩
    rintro en w' ⟨v, rfl, hb, hr⟩
    exact ⟨v, E, rfl, After.val_below h hb hr⟩
  cases hp : plainD d with
  | true =>
    rw [hp] at ef
    simp only [Option.some.injEq] at ef
    subst ef
    exact .inr (fin (by simp [hp]) (plainD_pure hp))
  | false =>
    rw [hp] at ef
    obtain ⟨h1, ef⟩ := Bool.rec_some (show (Bool.rec none (coldF s.rs ds (.val d)) (pureD d) : Option Eff) = some e from ef)
    rcases coldF_some ef with hc | ⟨rfl, hc⟩
    · exact .inl hc
    · exact .inr (fin (by simp [sasDs_nil hc]) h1)

theorem effF_sound (hl : LoOK T P lo) (h : R T N av0 w0 sp s a w E) {b : Nat} {f : FuncId} {ds : List D} {e : Eff} (ef : effF lo s.rs f ds = some e) {vs : List Value} (hv : All2 (DRel E (AV av0 s.rs E) w) ds vs) :
    CallsTo T P N av0 w0 sp s a w E b e f vs := by
  unfold effF at ef
  split at ef
  case h_2 => simp at ef
  rename_i d rs' hd
  simp only [Option.some.injEq] at ef
  subst ef
  obtain ⟨h1, h2⟩ := hl.call _ _ _ _ _ hd
  refine ⟨h1, (h2 N av0 w0 sp s.sl s.df a w E vs h hv).mono ?_⟩
  rintro en w' ⟨v, E', rfl, hk, hR, hr⟩
  exact ⟨v, E', rfl, hk.grew b, hR, fun d' hd' => by simp only [effD, Option.some.injEq] at hd'; subst hd'; exact hr⟩

theorem grown_of_below {w w' : World} (h : Below w.heap.size w w') : w.grownBy w' none := ⟨h.os, h.tape, h.output, h.size, fun k hk _ => h.block k hk⟩

theorem ownF_row {rs : List Root} {f : FuncId} {ds : List D} {b : Nat} {d : Option D} {ws : List (Nat × Root)} (e : ownF lo rs f ds b = some (.wr d ws)) :
    ∃ is q n rs' el sz l, reifyDs rs ds = some is ∧ lo.call f is [] = some (.c (.sa q n), rs') ∧ nth rs' q = some (.row el sz n l) ∧ pureC l = true ∧ d = some (.c (.sa b n)) ∧ ws = [(b, .row el sz n l)] := by
  unfold ownF at e
  split at e
  case h_2 => simp at e
  rename_i is hi
  split at e
  · rename_i q m rs' hc
    split at e
    case h_2 => simp at e
    rename_i el sz n l hl
    rw [nthF_eq] at hl
    obtain ⟨h1, e⟩ := Bool.rec_some e
    simp only [Bool.and_eq_true] at h1
    have h2 := of_beq h1.1
    subst h2
    simp only [Option.some.injEq, Eff.wr.injEq] at e
    exact ⟨is, q, m, rs', el, sz, l, hi, hc, hl, h1.2, e.1.symm, e.2.symm⟩
  · split at e
    case h_2 => simp at e
    obtain ⟨_, e⟩ := Bool.rec_some e
    simp at e
  · simp at e

theorem pureC_mono {E E' : Env} {av av' : Nat → Prop} {w w' : World} (hk : Keeps av w w') (ha : ∀ b, b < w.heap.size → av' b → av b) : ∀ {l : List C} {xs : List Value}, pureC l = true → All2 (CRel E av w) l xs → All2 (CRel E' av' w') l xs
  | [], _, _, .nil => .nil
  | c :: l, _, h, .cons q k => by
    cases c with
    | im x => exact .cons (IRel.mono (x := x) hk ha q) (pureC_mono hk ha (by simpa [pureC] using h) k)
    | _ => simp [pureC] at h

/-- A callee's own row becomes a root of the caller's. -/
theorem own_row (hl : LoOK T P lo) (h : R T N av0 w0 sp s a w E) {b : Nat} (hf : Free s E b) {f : FuncId} {ds is : List D} {q n el sz : Nat} {rs' : List Root} {l : List C} (hi : reifyDs s.rs ds = some is)
    (hc : lo.call f is [] = some (.c (.sa q n), rs')) (hq : nth rs' q = some (.row el sz n l)) (hp : pureC l = true) (hs : plainC l = true ∨ pureDs ds = true) {vs : List Value} (hv : All2 (DRel E (AV av0 s.rs E) w) ds vs) :
    CallsTo T P N av0 w0 sp s a w E b (.wr (some (.c (.sa b n))) [(b, .row el sz n l)]) f vs := by
  obtain ⟨h1, h2⟩ := hl.call _ _ _ _ _ hc
  refine ⟨h1, ?_⟩
  have avlt : ∀ b, AV av0 s.rs E b → b < w.heap.size := by
    rintro b (q | ⟨r, x, sz, h1, h2, h3⟩)
    · have := h.outer b q; have := h.size_le; omega
    · exact (h.blk r x b sz h1 h2 h3).2
  have key : ∃ av : Nat → Prop, (∀ b, av b → b < w.heap.size) ∧ Globs T av w ∧ All2 (DRel [] av w) is vs ∧ (plainC l = true ∨ ∀ k, AV av0 s.rs E k → av k) := by
    rcases hs with hs | hs
    · exact ⟨fun _ => False, fun _ q => q.elim, h.glob.mono (Keeps.refl _ w) (fun _ _ q => q.elim), reifyDs_rel h (Spare.none av0 s E) hi hv, .inl hs⟩
    · exact ⟨AV av0 s.rs E, avlt, h.glob, pure_reifyDs hs hi hv, .inr fun _ q => q⟩
  obtain ⟨av, hav, hgl, hvs, hcase⟩ := key
  refine (h2 0 av w [] [] [] _ w [] vs (R.none hav hgl) (hvs.mono fun _ _ q => DRel.mono (Env.le_refl []) (Keeps.refl _ w) (fun b _ q => (AV_nil b).1 q) q)).mono ?_
  rintro en w' ⟨v, E1, rfl, _, hR, hd⟩
  obtain ⟨e0, ao, n', cap, g1, g2, g3, rfl⟩ := hd
  rw [nth_eq] at hq
  obtain ⟨r1, r2, xs, r3, r4⟩ := hR.roots q _ _ hq g1
  have hvn : e0.2.1 = .slice ao n cap := by
    rcases r3.2 with ⟨q5, q6⟩ | ⟨g, cap2, cur, q5, _⟩
    · rw [g2] at q5 ⊢; simp only [Value.slice.injEq] at q5 ⊢; simp; omega
    · rw [g2] at q5 ⊢; simp only [Value.slice.injEq] at q5 ⊢; simp; omega
  have hb := hR.below
  have hown : w'.ownsRow w0.heap.size el sz (.slice ao n cap) n xs := by
    rw [hvn] at r3
    refine ⟨r3.1, r3.2.imp id ?_⟩
    rintro ⟨g, cap2, cur, q5, q6, q7⟩
    exact ⟨g, cap2, cur, q5, by have := h.size_le; omega, q7⟩
  have hblk : ∀ k, (Value.slice ao n cap).ownBlock = some k → w.heap.size ≤ k ∧ k < w'.heap.size ∧ atRoot E1 q k e0.2.2 := by
    intro k hk
    have hat : atRoot E1 q k e0.2.2 := by
      obtain ⟨e1, e2, e3⟩ := e0
      have r2 : e1 = e2.ownBlock := r2
      have hvn : e2 = _ := hvn
      rw [hvn, hk] at r2
      exact ⟨e2, by rw [g1, r2]⟩
    have := hR.blk q _ k e0.2.2 hq trivial hat
    exact ⟨this.1, this.2, hat⟩
  obtain ⟨E', h4, h5, h6, h7⟩ := h.make hf (dead := Option.none) (x := .row el sz n l) (e := ((Value.slice ao n cap).ownBlock, .slice ao n cap, sz)) (w' := w') (row := Option.none) (grown_of_below hb) (fun k hk => by cases hk)
    (fun k hk => .inr (hblk k hk).1) (fun k hk => (hblk k hk).2.1) (fun E' av' hE hav' hav2 hk => ⟨rfl, rfl, xs, hown, by
      rcases hcase with hpl | hcase
      · exact plainC_rel hpl r4
      · refine pureC_mono (Keeps.refl _ w') (fun k hk' q => ?_) hp r4
        rcases hav2 k q with q | q
        · exact .inl (hcase k q)
        · exact .inr ⟨_, _, _, hq, trivial, (hblk k q).2.2⟩⟩)
  · refine ⟨_, E', rfl, h6, h4, fun d hd => ?_⟩
    simp only [effD, Option.some.injEq] at hd
    subst hd
    rcases hown.2 with ⟨q5, q6⟩ | ⟨g, cap2, cur, q5, _⟩
    · exact ⟨_, ao, n, cap, h5, rfl, Nat.le_refl _, rfl⟩
    · exact ⟨_, ao, n, cap, h5, rfl, Nat.le_refl _, rfl⟩

theorem ocallF_sound (hl : LoOK T P lo) (h : R T N av0 w0 sp s a w E) {b : Nat} (hf : Free s E b) {f : FuncId} {ds : List D} {e : Eff} (ef : ocallF lo s.rs f ds b = some e) {vs : List Value} (hv : All2 (DRel E (AV av0 s.rs E) w) ds vs) :
    (∃ l, e = .cold l) ∨ CallsTo T P N av0 w0 sp s a w E b e f vs := by
  unfold ocallF at ef
  split at ef
  · rename_i d hd
    simp only [Option.some.injEq] at ef
    subst ef
    right
    unfold ownF at hd
    split at hd
    case h_2 => simp at hd
    rename_i is hi
    split at hd
    · split at hd
      · obtain ⟨_, hd⟩ := Bool.rec_some hd; simp at hd
      · simp at hd
    · rename_i d0 rs0 _ hcall
      split at hd
      case h_2 => simp at hd
      rename_i d' hre
      obtain ⟨hp, hd⟩ := Bool.rec_some hd
      simp only [Option.some.injEq, Eff.val.injEq] at hd
      subst hd
      obtain ⟨h3, h4⟩ := purF_sound hl h (f := f) (ds := ds) (d := d') (by simp only [purF, hi, hcall, hre]) (by simp [hp]) (plainD_pure hp) hv
      refine ⟨h3, h4.mono ?_⟩
      rintro en w' ⟨v, rfl, hb, hr⟩
      exact ⟨v, E, rfl, After.val_below h hb hr⟩
    · simp at hd
  · rename_i d q el sz n l ho
    obtain ⟨is, q', n', rs', el', sz', l', hi, hc, hq, hp, hd, hws⟩ := ownF_row ho
    simp only [List.cons.injEq, Prod.mk.injEq, Root.row.injEq, and_true] at hws
    obtain ⟨rfl, rfl, rfl, rfl, rfl⟩ := hws
    subst hd
    cases hpl : plainC l with
    | true =>
      rw [hpl] at ef
      simp only [Option.some.injEq] at ef
      subst ef
      exact .inr (own_row hl h hf hi hc hq hp (.inl hpl) hv)
    | false =>
      rw [hpl] at ef
      rcases coldF_some (show coldF s.rs ds _ = some e from ef) with hc' | ⟨rfl, hc'⟩
      · exact .inl hc'
      · exact .inr (own_row hl h hf hi hc hq hp (.inr (sasDs_nil hc')) hv)
  · simp at ef

theorem callF_sound (hl : LoOK T P lo) (h : R T N av0 w0 sp s a w E) {b : Nat} (hf : Free s E b) {f : FuncId} {ds : List D} {e : Eff} (ef : callF lo hi s.rs b f ds = some e) {vs : List Value} (hv : All2 (DRel E (AV av0 s.rs E) w) ds vs) :
    (∃ l, e = .cold l) ∨ CallsTo T P N av0 w0 sp s a w E b e f vs := by
  unfold callF at ef
  split at ef
  · exact pcallF_sound hl h ef hv
  · exact .inr (effF_sound hl h ef hv)
  · exact ocallF_sound hl h hf ef hv
  · cases hp : pureDs ds with
    | true => rw [hp] at ef; exact pcallF_sound hl h ef hv
    | false => rw [hp] at ef; exact .inr (effF_sound hl h ef hv)

theorem calleeC_rel (h : R T N av0 w0 sp s a w E) {c : C} {f : FuncId} {caps : List D} (e : calleeC c = some (f, caps)) {fv : Value} (hc : CRel E (AV av0 s.rs E) w c fv) :
    ∃ cs : Array Value, fv = .func (.func f) #[] cs ∧ All2 (DRel E (AV av0 s.rs E) w) caps cs.toList := by
  refine calleeD_rel h (fd := .c c) ?_ hc
  unfold calleeC at e
  split at e
  · exact e
  · exact e
  · simp at e

theorem valueF_sound (hl : LoOK T P lo) (h : R T N av0 w0 sp s a w E) (hn : NilS s.sl) {b : Nat} (hf : Free s E b) {o : Oper} {c : Call} (ho : o.op = .call c) {f : Operand} (hcal : c.callee = .value f) {e : Eff} (ef : valueF lo hi b s f c.args.toList = some e)
    {next : Act → World → Prop} (hnext : ∀ v w' E', After T N av0 w0 sp s a w E b e v w' E' → next (a.put o.dst v) w') : (∃ l, e = .cold l) ∨ Op1 P true o a w next := by
  have hnd : ∀ c', o.op ≠ .defer c' := fun c' q => by rw [ho] at q; cases q
  unfold valueF at ef
  split at ef
  case h_2 => simp at ef
  rename_i c0 ds hc0 hds
  have hc0 := h.evF hn (cellF_some hc0)
  have hds := evs_rel h (CondsHold.nil a) (evsF_evs hn hds)
  split at ef
  · rename_i r
    obtain ⟨b', sz, hat, hfv⟩ := hc0
    unfold yldF at ef
    split at ef
    case h_2 => simp at ef
    rename_i d rs' hy
    simp only [Option.some.injEq] at ef
    subst ef
    right
    obtain ⟨b2, sz2, fr, tm, as, bd, hat2, h1, h2⟩ := hl.yld _ _ _ _ _ hy N av0 w0 sp s.sl s.df a w E _ h hds
    obtain ⟨q1, q2⟩ := hat
    obtain ⟨q3, q4⟩ := hat2
    rw [q2] at q4
    simp only [Option.some.injEq, Prod.mk.injEq] at q4
    obtain ⟨rfl, rfl, rfl⟩ := q4
    refine .round rfl b' fr tm as bd w hnd ?_ fun c' cs => ?_
    · have hargs : (List.map a.eval c.args.toList).toArray = c.args.map a.eval := by apply Array.ext'; simp
      rw [hargs] at h1
      simp only [execOp, ho, resolve, hcal, hfv, Deferred.ofValue, Sem.run_bind, Sem.run_pure, Result.andThen_ok, invoke]
      simpa using h1
    · obtain ⟨v, w', ⟨E', hk, h3, h4⟩, h5⟩ := h2 c' cs
      exact ⟨v, w', hnext v w' E' ⟨hk.grew b, h3, fun d' hd' => by simp only [effD, Option.some.injEq] at hd'; subst hd'; exact h4⟩, h5⟩
  · split at ef
    case h_2 => simp at ef
    rename_i g caps hcl
    obtain ⟨cs, hfv, hcs⟩ := calleeC_rel h hcl hc0
    rcases callF_sound hl h hf ef (hds.append hcs) with hq | ⟨he, hcall⟩
    · exact .inl hq
    right
    have hvs : (List.map a.eval c.args.toList ++ cs.toList).toArray = c.args.map a.eval ++ cs := by
      apply Array.ext'
      simp
    refine .enter g (List.map a.eval c.args.toList ++ cs.toList).toArray w hnd ?_ (hcall.mono ?_)
    · rw [hvs]; exact run_callee ho hcal hfv he
    · rintro en w' ⟨v, E', rfl, ha⟩
      exact ⟨v, rfl, hnext v w' E' ha⟩

/-- One operation. -/
theorem effO_sound (hty : TyOK P T) (hl : LoOK T P lo) (h : R T N av0 w0 sp s a w E) (hn : NilS s.sl) {b : Nat} (hf : Free s E b) {o : Oper} {e : Eff} (ef : effO T lo hi b s o.dst o.op = some e)
    {next : Act → World → Prop} (hnext : ∀ v w' E', After T N av0 w0 sp s a w E b e v w' E' → next (a.put o.dst v) w') : (∃ l, e = .cold l) ∨ Op1 P true o a w next := by
  unfold effO at ef
  split at ef
  · rename_i d hd
    simp only [Option.some.injEq] at ef
    subst ef
    obtain ⟨v, h1, h2⟩ := lookO_sound hty h hn hd
    refine .inr (.value v w (fun c q => ?_) h1 (hnext v w E ⟨Grew.refl _ _, h, fun d' hd' => by simp only [effD, Option.some.injEq] at hd'; subst hd'; exact h2⟩))
    rw [q] at hd; simp [lookO] at hd
  · generalize hop : o.op = op at ef
    have hnd : ∀ {op'}, o.op = op' → (∀ c, op' ≠ .defer c) → ∀ c, o.op ≠ .defer c := fun q k c => by rw [q]; exact k c
    cases op with
    | box t x =>
      obtain ⟨E', ha⟩ := boxF_sound h hn hf t ef
      exact .inr (.value _ _ (hnd hop fun _ => Op.noConfusion) (by simp only [execOp, hop]; rfl) (hnext _ _ _ ha))
    | alloc t =>
      obtain ⟨v, w', E', hr, ha⟩ := allocF_sound hty h hf ef
      exact .inr (.value v w' (hnd hop fun _ => Op.noConfusion) (hr o hop) (hnext _ _ _ ha))
    | store t x v =>
      obtain ⟨hd, w', hr, ha⟩ := storeF_sound hty h hn ef b
      exact .inr (.skip w' (hnd hop fun _ => Op.noConfusion) (by simp only [execOp, hop]; simp [hr]) (hnext _ _ _ ha))
    | buildSlice t n ps =>
      obtain ⟨v, w', E', hr, ha⟩ := bsF_sound hty h hn hf ef
      exact .inr (.value v w' (hnd hop fun _ => Op.noConfusion) (by simp only [execOp, hop]; exact run_value hr) (hnext _ _ _ ha))
    | makeMap t r =>
      obtain ⟨rfl, E', ha⟩ := mkmapF_sound h hf ef
      exact .inr (.value _ _ (hnd hop fun _ => Op.noConfusion) (by simp only [execOp, hop]; rfl) (hnext _ _ _ ha))
    | makeSlice t l c =>
      obtain ⟨v, w', E', hr, ha⟩ := mkslF_sound hty h hn hf ef
      exact .inr (.value v w' (hnd hop fun _ => Op.noConfusion) (by simp only [execOp, hop]; exact run_value hr) (hnext _ _ _ ha))
    | mapUpdate t m k v =>
      obtain ⟨hd, w', hr, ha⟩ := mapuF_sound hty h hn ef b
      exact .inr (.skip w' (hnd hop fun _ => Op.noConfusion) (by simp only [execOp, hop]; simp [hr]) (hnext _ _ _ ha))
    | call c =>
      have ef : callO T lo hi b s c = some e := ef
      unfold callO at ef
      split at ef
      · rename_i hcal
        obtain ⟨v, w', E', hr, ha⟩ := appF_sound hty h hn hf ef o.type
        refine .inr (.value v w' (hnd hop fun _ => Op.noConfusion) ?_ (hnext _ _ _ ha))
        have hargs : (List.map a.eval c.args.toList).toArray = c.args.map a.eval := by apply Array.ext'; simp
        rw [hargs] at hr
        have hts : c.argTypes.toList.toArray = c.argTypes := rfl
        rw [hts] at hr
        simp only [execOp, hop, resolve, hcal, Sem.run_bind, Sem.run_pure, Result.andThen_ok, invoke, builtin]
        simp [hr]
      · rename_i f hcal
        exact valueF_sound hl h hn hf hop hcal ef hnext
      · simp at ef
    | _ => simp [workO] at ef
end
end Go.V
