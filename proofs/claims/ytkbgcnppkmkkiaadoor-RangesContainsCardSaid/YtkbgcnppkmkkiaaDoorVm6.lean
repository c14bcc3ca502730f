/- How the relation goes on: a slot is written, a root is made or written. -/
import Derived.Test.YtkbgcnppkmkkiaaDoorVm4
import Derived.Test.YtkbgcnppkmkkiaaDoorVm5
set_option linter.unusedVariables false
namespace Go.V
open Go.RowKit
section
variable {P : Program} {T : Tab} {N : Nat} {av0 : Nat → Prop} {w0 : World} {sp : List (D × Value)} {s : VS} {a : Act} {w : World} {E : Env}

theorem condFree_ne : ∀ {c : Cond} {t : Tmp}, condFree t c = true → ∀ p ∈ c, p.1 ≠ t
  | [], t, _, p, hp => by cases hp
  | x :: c, t, h, p, hp => by
    simp only [condFree] at h
    split at h
    · simp at h
    · rename_i hx
      cases hp with
      | head => intro e; subst e; simp [Nat.beq_refl] at hx
      | tail _ hp => exact condFree_ne h p hp
theorem free_look : ∀ {sl : Slots} {t : Tmp}, free t sl = true → ∀ {t' d c}, look sl t' = some (d, c) → condFree t c = true
  | [], t, _, t', d, c, h => by simp [look] at h
  | x :: sl, t, hf, t', d, c, h => by
    obtain ⟨k, d', c'⟩ := x
    simp only [free] at hf
    split at hf
    · rename_i h1
      simp only [look] at h
      split at h
      · simp only [Option.some.injEq, Prod.mk.injEq] at h
        obtain ⟨rfl, rfl⟩ := h
        exact h1
      · exact free_look hf h
    · simp at hf

theorem getD_set_other {a : Act} {t t' : Tmp} {v : Value} (h : t' ≠ t) : (a.put (some t) v).tmps.getD t' undef = a.tmps.getD t' undef := by
  simp [Act.put, Array.getElem?_setIfInBounds_ne (Ne.symm h)]
theorem getD_set_same {a : Act} {t : Tmp} {v : Value} (h : t < a.tmps.size) : (a.put (some t) v).tmps.getD t undef = v := by
  simp [Act.put, h]

theorem okDst_spec {t : Nat} {g : Cond} {sl : Slots} (h : okDst N t g sl = true) : t < N ∧ free t sl = true ∧ condFree t g = true := by
  unfold okDst at h
  split at h
  · rename_i h1
    split at h
    · rename_i h2
      exact ⟨toNat_of_blt h1, h2, h⟩
    · simp at h
  · simp at h

theorem holds_put {a : Act} {t : Tmp} {v : Value} {c : Cond} (h : condFree t c = true) : CondsHold (a.put (some t) v) c ↔ CondsHold a c := by
  have := condFree_ne h
  constructor <;> intro q p hp
  · have := q p hp; rwa [getD_set_other (condFree_ne h p hp)] at this
  · rw [getD_set_other (condFree_ne h p hp)]; exact q p hp

/-- A slot is written. -/
theorem R.put (h : R T N av0 w0 sp s a w E) {t : Nat} {d : D} {g : Cond} {v : Value} (hok : okDst N t g s.sl = true)
    (h1 : CondsHold a g → DRel E (AV av0 s.rs E) w d v) (h2 : ¬ CondsHold a g → v = undef) : R T N av0 w0 sp { s with sl := (t, d, g) :: s.sl } (a.put (some t) v) w E := by
  obtain ⟨hN, hf, hg⟩ := okDst_spec hok
  refine ⟨by simp [Act.put, h.size], h.defers, h.spec, h.below, h.len, h.outer, h.roots, h.blk, h.inj, ?_, h.glob⟩
  intro t' d' c' hl
  simp only [look] at hl
  split at hl
  · rename_i he
    have he := of_beq he
    simp only [Option.some.injEq, Prod.mk.injEq] at hl
    obtain ⟨rfl, rfl⟩ := hl
    subst he
    have hsz : t < a.tmps.size := by rw [h.size]; exact hN
    rw [getD_set_same hsz]
    refine ⟨hN, fun q => h1 ((holds_put hg).1 q), fun q => h2 fun q' => q ((holds_put hg).2 q')⟩
  · rename_i he
    have hne : t' ≠ t := by intro e; subst e; simp [Nat.beq_refl] at he
    obtain ⟨q1, q2, q3⟩ := h.slots t' d' c' hl
    rw [getD_set_other hne]
    have hc := free_look hf hl
    exact ⟨q1, fun q => q2 ((holds_put hc).1 q), fun q => q3 fun q' => q ((holds_put hc).2 q')⟩

theorem R.skip_put (h : R T N av0 w0 sp s a w E) : R T N av0 w0 sp s (a.put none undef) w E := h

theorem wantsD_out (h : R T N av0 w0 sp s a w E) {g0 : Cond} (hg0 : CondsHold a g0) {p : Prop} : ∀ {g : Cond}, CondsHold a g → wantsD s g0 p g → p
  | [], _, q => q
  | (t, b) :: g, hg, q => by
    simp only [wantsD] at q
    split at q
    · rename_i x c hl
      split at q
      · rename_i hs
        have h1 := ((h.slots t _ _ hl).2.1 (sub_hold hg0 hs)).1
        have h2 := hg (t, b) (List.mem_cons_self ..)
        simp only at h2
        rw [h1] at h2
        simp only [Value.bool.injEq] at h2
        exact wantsD_out h hg0 (fun p hp => hg p (List.mem_cons_of_mem _ hp)) (q h2)
      · exact q.elim
    · exact q.elim

theorem andK_out (h : R T N av0 w0 sp s a w E) {g : Cond} (hg : CondsHold a g) {p : Option Prop} {K : Prop} (e : andK s g p K) : need p ∧ K := by
  cases p with
  | none => exact ⟨trivial, e⟩
  | some p => exact ⟨wantsD_out h hg hg e.1, e.2⟩
theorem andK_snd {g : Cond} {p : Option Prop} {K : Prop} (e : andK s g p K) : K := by
  cases p with
  | none => exact e
  | some p => exact e.2
theorem AV_mono {rs rs' : List Root} {E E' : Env} {av0 : Nat → Prop} {n : Nat} (h : ∀ r x b sz, rs'[r]? = some x → x.live → atRoot E' r b sz → b < n → AV av0 rs E b) : ∀ b, b < n → AV av0 rs' E' b → AV av0 rs E b := by
  rintro b hb (q | ⟨r, x, sz, h1, h2, h3⟩)
  · exact .inl q
  · exact h r x b sz h1 h2 h3 hb

/-- The roots are others, and the memory. -/
theorem R.upd (h : R T N av0 w0 sp s a w E) {rs' : List Root} {E' : Env} {w' : World} (hE : Env.le E E') (hk : Keeps (AV av0 s.rs E) w w') (hb : Below w0.heap.size w0 w')
    (hav : ∀ b, b < w.heap.size → AV av0 rs' E' b → AV av0 s.rs E b) (hlen : E'.length = rs'.length)
    (hr : ∀ (r : Nat) (x : Root) (e : Option Nat × Value × Nat), rs'[r]? = some x → E'[r]? = some e → RootRel E' (AV av0 rs' E') w0.heap.size w' e x)
    (hblk : ∀ (r : Nat) (x : Root) (b sz : Nat), rs'[r]? = some x → x.live → atRoot E' r b sz → w0.heap.size ≤ b ∧ b < w'.heap.size)
    (hinj : ∀ (r r' : Nat) (x x' : Root) (b sz sz' : Nat), rs'[r]? = some x → rs'[r']? = some x' → x.live → x'.live → atRoot E' r b sz → atRoot E' r' b sz' → r = r') :
    R T N av0 w0 sp { s with rs := rs' } a w' E' :=
  ⟨h.size, h.defers.mono fun _ _ ⟨b, sz, q, e⟩ => ⟨b, sz, hE.at_ q, e⟩, fun x hx => DRel.mono hE hk hav (h.spec x hx), hb, hlen, h.outer, hr, hblk, hinj, fun t d c hl => by
    obtain ⟨q1, q2, q3⟩ := h.slots t d c hl
    exact ⟨q1, fun q => DRel.mono hE hk hav (q2 q), q3⟩, h.glob.mono hk hav⟩

theorem R.size_le (h : R T N av0 w0 sp s a w E) : w0.heap.size ≤ w.heap.size := h.below.size

theorem RootRel.mono {E E' : Env} {av av' : Nat → Prop} {base : Nat} {w w' : World} {e : Option Nat × Value × Nat} {x : Root} (hE : Env.le E E') (hk : Keeps av w w') (ha : ∀ b, b < w.heap.size → av' b → av b)
    (hs : x.live → ∀ b, e.1 = some b → w'.heap[b]? = w.heap[b]?) (h : RootRel E av base w e x) : RootRel E' av' base w' e x := by
  cases x with
  | dead => trivial
  | box l =>
    obtain ⟨b, cs, Tc, q1, q2, q3, q4⟩ := h
    exact ⟨b, cs, Tc, q1, q2, by rw [hs trivial b q1]; exact q3, q4.mono fun _ _ q => CRel.mono hE hk ha q⟩
  | arr el sz n get =>
    obtain ⟨q1, q2, xs, q3, q4⟩ := h
    refine ⟨q1, q2, xs, ?_, fun i hi j hj => ?_⟩
    · obtain ⟨h1, h2⟩ := q3
      refine ⟨h1, ?_⟩
      rcases h2 with h2 | ⟨g, cap, cur, h3, h4, h5, h6⟩
      · exact .inl h2
      · refine .inr ⟨g, cap, cur, h3, h4, ?_, h6⟩
        rw [hs trivial g (by rw [q2, h3]; rfl)]
        exact h5
    · obtain ⟨x, h1, h2⟩ := q4 i hi j hj
      exact ⟨x, h1, IRel.mono hk ha h2⟩
  | row el sz n l =>
    obtain ⟨q1, q2, xs, q3, q4⟩ := h
    refine ⟨q1, q2, xs, ?_, q4.mono fun _ _ q => CRel.mono hE hk ha q⟩
    obtain ⟨h1, h2⟩ := q3
    refine ⟨h1, ?_⟩
    rcases h2 with h2 | ⟨g, cap, cur, h3, h4, h5, h6⟩
    · exact .inl h2
    · refine .inr ⟨g, cap, cur, h3, h4, ?_, h6⟩
      rw [hs trivial g (by rw [q2, h3]; rfl)]
      exact h5
  | set l =>
    obtain ⟨b, es, clock, q1, q2, q3⟩ := h
    exact ⟨b, es, clock, q1, by rw [hs trivial b q1]; exact q2, q3⟩
  | dfr =>
    obtain ⟨b, q1, q2⟩ := h
    exact ⟨b, q1, by rw [hs trivial b q1]; exact q2⟩
  | loop f N sl ps as bd st pend =>
    obtain ⟨b, db, tm, q1, q2, q3, q4, q5⟩ := h
    exact ⟨b, db, tm, q1, by rw [hs trivial b q1]; exact q2, q3, q4.mono hE hk ha, q5⟩

theorem atRoot_append {E : Env} {e : Option Nat × Value × Nat} {r b sz : Nat} (h : atRoot (E ++ [e]) r b sz) : atRoot E r b sz ∨ (r = E.length ∧ e.1 = some b ∧ e.2.2 = sz) := by
  obtain ⟨hh, h⟩ := h
  rcases Nat.lt_trichotomy r E.length with hr | hr | hr
  · rw [List.getElem?_append_left hr] at h; exact .inl ⟨hh, h⟩
  · subst hr
    rw [List.getElem?_append_right (Nat.le_refl _)] at h
    simp at h
    subst h
    exact .inr ⟨rfl, rfl, rfl⟩
  · rw [List.getElem?_eq_none (by simp; omega)] at h
    simp at h

/-- One more root, its block new. -/
theorem R.new (h : R T N av0 w0 sp s a w E) {x : Root} {e : Option Nat × Value × Nat} {w' : World} (hs : w'.heap.size = w.heap.size + 1) (hold : ∀ b, b < w.heap.size → w'.heap[b]? = w.heap[b]?)
    (hb : Below w.heap.size w w') (he : e.1 = some w.heap.size) (hx : RootRel (E ++ [e]) (AV av0 (s.rs ++ [x]) (E ++ [e])) w0.heap.size w' e x) :
    R T N av0 w0 sp { s with rs := s.rs ++ [x] } a w' (E ++ [e]) := by
  have hle := h.size_le
  have key : ∀ r y b sz, (s.rs ++ [x])[r]? = some y → y.live → atRoot (E ++ [e]) r b sz → (s.rs[r]? = some y ∧ atRoot E r b sz) ∨ (r = E.length ∧ b = w.heap.size) := by
    intro r y b sz h1 h2 h3
    rcases atRoot_append h3 with h4 | ⟨h4, h5, _⟩
    · refine .inl ⟨?_, h4⟩
      obtain ⟨hh, h4⟩ := h4
      have := (List.getElem?_eq_some_iff.1 h4).1
      rw [h.len] at this
      rwa [List.getElem?_append_left this] at h1
    · refine .inr ⟨h4, ?_⟩
      rw [he] at h5
      exact (Option.some.inj h5).symm
  refine h.upd (Env.le_append _ _) ⟨by omega, fun b q _ => hold b q⟩ ⟨hb.os.trans h.below.os, hb.tape.trans h.below.tape, hb.output.trans h.below.output, by omega, fun k hk => (hold k (by omega)).trans (h.below.block k hk)⟩
    (AV_mono fun r y b sz h1 h2 h3 h4 => ?_) (by simp [h.len]) ?_ ?_ ?_
  · rcases key r y b sz h1 h2 h3 with ⟨h5, h6⟩ | ⟨_, h6⟩
    · exact .inr ⟨r, y, sz, h5, h2, h6⟩
    · omega
  · intro r y e' h1 h2
    rcases Nat.lt_trichotomy r E.length with hr | hr | hr
    · rw [List.getElem?_append_left (by rw [← h.len]; exact hr)] at h1
      rw [List.getElem?_append_left hr] at h2
      refine RootRel.mono (av := AV av0 s.rs E) (Env.le_append _ _) ⟨by omega, fun b q _ => hold b q⟩ (AV_mono fun r y b sz h1 h2 h3 h4 => ?_) (fun hl b q => ?_) (h.roots r y e' h1 h2)
      · rcases key r y b sz h1 h2 h3 with ⟨h5, h6⟩ | ⟨_, h6⟩
        · exact .inr ⟨r, y, sz, h5, h2, h6⟩
        · omega
      · obtain ⟨e1, e2, e3⟩ := e'
        have q : e1 = some b := q
        subst q
        exact hold b (h.blk r y b e3 h1 hl ⟨e2, h2⟩).2
    · subst hr
      rw [h.len, List.getElem?_append_right (Nat.le_refl _)] at h1
      rw [List.getElem?_append_right (Nat.le_refl _)] at h2
      simp at h1 h2
      subst h1 h2
      exact hx
    · rw [List.getElem?_eq_none (by simp; omega)] at h2
      simp at h2
  · intro r y b sz h1 h2 h3
    rcases key r y b sz h1 h2 h3 with ⟨h5, h6⟩ | ⟨_, h6⟩
    · have := h.blk r y b sz h5 h2 h6; omega
    · omega
  · intro r r' y y' b sz sz' h1 h1' h2 h2' h3 h3'
    rcases key r y b sz h1 h2 h3 with ⟨h5, h6⟩ | ⟨h6, h7⟩ <;> rcases key r' y' b sz' h1' h2' h3' with ⟨h5', h6'⟩ | ⟨h6', h7'⟩
    · exact h.inj r r' y y' b sz sz' h5 h5' h2 h2' h6 h6'
    · have := h.blk r y b sz h5 h2 h6; omega
    · have := h.blk r' y' b sz' h5' h2' h6'; omega
    · omega
end
end Go.V
