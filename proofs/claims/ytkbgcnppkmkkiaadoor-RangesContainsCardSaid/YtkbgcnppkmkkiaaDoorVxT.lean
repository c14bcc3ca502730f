/- The roots that a call has made are forgotten; what it has written stays. -/
import Derived.Test.YtkbgcnppkmkkiaaDoorVxC
import Derived.Test.YtkbgcnppkmkkiaaDoorVxA
set_option linter.unusedVariables false
namespace Go.V
open Go.RowKit
section
variable {P : Program} {T : Tab} {N : Nat} {av0 : Nat → Prop} {w0 : World} {sp : List (D × Value)} {a : Act} {w : World} {E E' : Env} {av av' av'' : Nat → Prop} {w' : World}

theorem eqV_eq {x y : Value} (h : eqV x y = true) : x = y := by
  unfold eqV at h
  split at h
  · rename_i a b
    have : a = b := by simpa using h
    rw [this]
  · rw [beqB_eq h]
  · simp at h
theorem eqC1_eq {x y : C} (h : eqC1 x y = true) : x = y := by
  unfold eqC1 at h
  split at h
  · rw [eqV_eq h]
  · simp only [Bool.and_eq_true] at h; rw [of_beq h.1, of_beq h.2.1, of_beq h.2.2]
  · simp only [Bool.and_eq_true] at h; rw [of_beq h.1, of_beq h.2]
  · rw [of_beq h]
  · simp at h
theorem eqCs_eq : ∀ {l m : List C}, eqCs l m = true → l = m
  | [], [], _ => rfl
  | [], y :: m, h => by
    have h : (false : Bool) = true := h
    simp at h
  | x :: l, [], h => by
    have h : (false : Bool) = true := h
    simp at h
  | x :: l, y :: m, h => by
    have h : (Bool.rec false (eqCs l m) (eqC1 x y) : Bool) = true := h
    cases hb : eqC1 x y with
    | false => rw [hb] at h; simp at h
    | true => rw [hb] at h; rw [eqC1_eq hb, eqCs_eq h]
theorem eqR1_eq {x y : Root} (h : eqR1 x y = true) : x = y := by
  unfold eqR1 at h
  split at h
  · rfl
  · rw [eqCs_eq h]
  · simp at h

theorem Kept.back (hk : Kept E E') {r : Nat} (hr : r < E.length) {e : Option Nat × Value × Nat} (h : E'[r]? = some e) (he : e ≠ hole) : E[r]? = some e := by
  have h1 := List.getElem?_eq_getElem hr
  by_cases h2 : E[r] = hole
  · rw [h2] at h1
    have := hk.free r h1
    rw [h] at this
    simp only [Option.some.injEq] at this
    exact (he this).elim
  · have := hk.le r _ h1 h2
    rw [h] at this
    simp only [Option.some.injEq] at this
    rw [h1, this]
theorem Kept.atRoot (hk : Kept E E') {r b sz : Nat} (hr : r < E.length) (h : atRoot E' r b sz) : atRoot E r b sz := by
  obtain ⟨hd, h⟩ := h
  exact ⟨hd, hk.back hr h (by simp [hole])⟩
theorem allLt_spec {n : Nat} : ∀ {l : List Nat}, allLt n l = true → ∀ r ∈ l, r < n
  | [], _, r, hr => by simp at hr
  | x :: l, h, r, hr => by
    have h : (Bool.rec false (allLt n l) (Nat.blt x n) : Bool) = true := h
    cases hb : Nat.blt x n with
    | false => rw [hb] at h; simp at h
    | true =>
      rw [hb] at h
      rcases List.mem_cons.1 hr with rfl | hr
      · exact toNat_of_blt hb
      · exact allLt_spec h r hr
theorem All2.shrink {α β : Type} {R S : α → β → Prop} {l : List α} {m : List β} (h : All2 R l m) (k : ∀ x ∈ l, ∀ y, R x y → S x y) : All2 S l m := by
  induction h with
  | nil => exact .nil
  | cons q _ ih => exact .cons (k _ (List.mem_cons_self ..) _ q) (ih fun x hx => k x (List.mem_cons_of_mem _ hx))
/-- Cells in an environment that has grown, in the one before. -/
theorem CRel.shrink (hk : Kept E E') (ha : ∀ b, av'' b → av' b) {x : C} {v : Value} (hx : lowC E.length x = true) (h : CRel E' av' w' x v) : CRel E av'' w' x v := by
  cases x with
  | im x => exact IRel.mono (Keeps.refl _ w') (fun b _ q => ha b q) h
  | rt r i j => obtain ⟨b, sz, h1, h2⟩ := h; exact ⟨b, sz, hk.atRoot (toNat_of_blt hx) h1, h2⟩
  | sa r m => obtain ⟨e, a, n, cap, h1, h2, h3⟩ := h; exact ⟨e, a, n, cap, hk.back (toNat_of_blt hx) h1 (by intro q; subst q; simp [hole, undef] at h2), h2, h3⟩
  | mp r => obtain ⟨b, sz, h1, h2⟩ := h; exact ⟨b, sz, hk.atRoot (toNat_of_blt hx) h1, h2⟩
  | yl r => obtain ⟨b, sz, h1, h2⟩ := h; exact ⟨b, sz, hk.atRoot (toNat_of_blt hx) h1, h2⟩
  | clo f l =>
    obtain ⟨vs, h1, h2⟩ := h
    exact ⟨vs, h1, h2.shrink fun r hr y ⟨b, sz, q, q2⟩ => ⟨b, sz, hk.atRoot (allLt_spec hx r hr) q, q2⟩⟩
theorem lowCs_spec {n : Nat} : ∀ {l : List C}, lowCs n l = true → ∀ x ∈ l, lowC n x = true
  | [], _, x, hx => by simp at hx
  | y :: l, h, x, hx => by
    have h : (Bool.rec false (lowCs n l) (lowC n y) : Bool) = true := h
    cases hb : lowC n y with
    | false => rw [hb] at h; simp at h
    | true =>
      rw [hb] at h
      rcases List.mem_cons.1 hx with rfl | hx
      · exact hb
      · exact lowCs_spec h x hx
theorem lowCs_of {n : Nat} : ∀ {l : List C}, (∀ x ∈ l, lowC n x = true) → lowCs n l = true
  | [], _ => rfl
  | y :: l, h => by
    show (Bool.rec false (lowCs n l) (lowC n y) : Bool) = true
    rw [h y (List.mem_cons_self ..)]
    exact lowCs_of fun x hx => h x (List.mem_cons_of_mem _ hx)
theorem lowT_spec {n : Nat} : ∀ {l : List (Bool × List C)}, lowT n l = true → ∀ x ∈ l, lowCs n x.2 = true
  | [], _, x, hx => by simp at hx
  | y :: l, h, x, hx => by
    have h : (Bool.rec false (lowT n l) (lowCs n y.2) : Bool) = true := h
    cases hb : lowCs n y.2 with
    | false => rw [hb] at h; simp at h
    | true =>
      rw [hb] at h
      rcases List.mem_cons.1 hx with rfl | hx
      · exact hb
      · exact lowT_spec h x hx
theorem DRel.shrink (hk : Kept E E') (ha : ∀ b, av'' b → av' b) {d : D} {v : Value} (hd : lowD E.length d = true) (h : DRel E' av' w' d v) : DRel E av'' w' d v := by
  cases d with
  | c x => exact CRel.shrink hk ha hd h
  | a l => obtain ⟨cs, h1, h2⟩ := h; exact ⟨cs, h1, h2.shrink fun x hx y q => CRel.shrink hk ha (lowCs_spec hd x hx) q⟩
  | t l =>
    obtain ⟨vs, h1, h2⟩ := h
    refine ⟨vs, h1, h2.shrink ?_⟩
    rintro ⟨b, l'⟩ hx y q
    have hlow := lowT_spec hd _ hx
    cases b with
    | true => obtain ⟨cs, q1, q2⟩ := q; exact ⟨cs, q1, q2.shrink fun x hx y q => CRel.shrink hk ha (lowCs_spec hlow x hx) q⟩
    | false =>
      obtain ⟨c, q1, q2⟩ := q
      have q1 : l' = [c] := q1
      refine ⟨c, q1, CRel.shrink hk ha (lowCs_spec hlow c ?_) q2⟩
      simp only [q1]; exact List.mem_cons_self ..
theorem lt_of_at {r b sz : Nat} (h : atRoot E r b sz) : r < E.length := by obtain ⟨hd, h⟩ := h; exact (List.getElem?_eq_some_iff.1 h).1
theorem blt_of {a b : Nat} (h : a < b) : Nat.blt a b = true := by simpa [Nat.blt_eq] using h
theorem allLt_of {n : Nat} : ∀ {l : List Nat}, (∀ r ∈ l, r < n) → allLt n l = true
  | [], _ => rfl
  | x :: l, h => by
    show (Bool.rec false (allLt n l) (Nat.blt x n) : Bool) = true
    rw [blt_of (h x (List.mem_cons_self ..))]
    exact allLt_of fun r hr => h r (List.mem_cons_of_mem _ hr)
theorem All2.left {α β : Type} {R : α → β → Prop} {l : List α} {m : List β} (h : All2 R l m) : ∀ x ∈ l, ∃ y, R x y := by
  induction h with
  | nil => intro x hx; simp at hx
  | cons q _ ih =>
    intro x hx
    rcases List.mem_cons.1 hx with rfl | hx
    · exact ⟨_, q⟩
    · exact ih x hx
theorem CRel.low {x : C} {v : Value} (h : CRel E av w x v) : lowC E.length x = true := by
  cases x with
  | im x => rfl
  | rt r i j => obtain ⟨b, sz, h1, _⟩ := h; exact blt_of (lt_of_at h1)
  | sa r m => obtain ⟨e, a, n, cap, h1, _⟩ := h; exact blt_of (List.getElem?_eq_some_iff.1 h1).1
  | mp r => obtain ⟨b, sz, h1, _⟩ := h; exact blt_of (lt_of_at h1)
  | yl r => obtain ⟨b, sz, h1, _⟩ := h; exact blt_of (lt_of_at h1)
  | clo f l =>
    obtain ⟨vs, _, h2⟩ := h
    exact allLt_of fun r hr => by
      obtain ⟨_, b, sz, h1, _⟩ := h2.left r hr
      exact lt_of_at h1
theorem L.low {l : List C} {cs : List Value} (h : All2 (CRel E av w) l cs) : lowCs E.length l = true := lowCs_of fun x hx => by
  obtain ⟨y, q⟩ := h.left x hx
  exact CRel.low q
theorem DRel.low {d : D} {v : Value} (h : DRel E av w d v) : lowD E.length d = true := by
  cases d with
  | c x => exact CRel.low h
  | a l => obtain ⟨cs, _, h2⟩ := h; exact L.low h2
  | t l =>
    obtain ⟨vs, _, h2⟩ := h
    show lowT E.length l = true
    have key : ∀ x ∈ l, lowCs E.length x.2 = true := fun x hx => by
      obtain ⟨y, q⟩ := h2.left x hx
      obtain ⟨b, l'⟩ := x
      cases b with
      | true => obtain ⟨cs, _, q2⟩ := q; exact L.low q2
      | false =>
        obtain ⟨c, q1, q2⟩ := q
        have q1 : l' = [c] := q1
        subst q1
        exact lowCs_of fun x hx => by
          rcases List.mem_cons.1 hx with rfl | hx
          · exact CRel.low q2
          · simp at hx
    clear h2
    induction l with
    | nil => rfl
    | cons y l ih =>
      show (Bool.rec false (lowT E.length l) (lowCs E.length y.2) : Bool) = true
      rw [key y (List.mem_cons_self ..)]
      exact ih fun x hx => key x (List.mem_cons_of_mem _ hx)

/-- What has been written, and what is as before. -/
theorem diffW_spec {n : Nat} : ∀ {rs rs' : List Root} {k : Nat} {ws : List (Nat × Root)}, diffW n rs rs' k = some ws →
    (∀ p ∈ ws, k ≤ p.1) ∧ ∀ (pre : List Root), pre.length = k → ∀ (q : Nat) (x : Root), (writes ws (pre ++ rs))[q]? = some x → (q < k ∧ pre[q]? = some x) ∨ (k ≤ q ∧ rs'[q - k]? = some x ∧ (rs[q - k]? = some x ∨ lowR n x = true))
  | [], rs', k, ws, h => by
    have h : some [] = some ws := h
    simp only [Option.some.injEq] at h
    subst h
    refine ⟨fun p hp => by simp at hp, fun pre hpre q x hx => ?_⟩
    have hx : (pre ++ [])[q]? = some x := hx
    rw [List.append_nil] at hx
    exact .inl ⟨by rw [← hpre]; exact (List.getElem?_eq_some_iff.1 hx).1, hx⟩
  | x0 :: rs, [], k, ws, h => by
    have h : (none : Option (List (Nat × Root))) = some ws := h
    simp at h
  | x0 :: rs, y :: rs', k, ws, h => by
    have h : (Bool.rec (Bool.rec none (match diffW n rs rs' (k + 1) with
      | some ws => some ((k, y) :: ws)
      | none => none) (lowR n y)) (diffW n rs rs' (k + 1)) (eqR1 x0 y) : Option (List (Nat × Root))) = some ws := h
    cases hb : eqR1 x0 y with
    | true =>
      rw [hb] at h
      obtain ⟨h1, h2⟩ := diffW_spec (rs := rs) (rs' := rs') (k := k + 1) h
      refine ⟨fun p hp => by have := h1 p hp; omega, fun pre hpre q x hx => ?_⟩
      have e : pre ++ x0 :: rs = (pre ++ [x0]) ++ rs := by simp
      rw [e] at hx
      rcases h2 (pre ++ [x0]) (by simp [hpre]) q x hx with ⟨h3, h4⟩ | ⟨h3, h4, h5⟩
      · by_cases hq : q < k
        · rw [List.getElem?_append_left (by omega)] at h4
          exact .inl ⟨hq, h4⟩
        · have : q = k := by omega
          subst this
          rw [List.getElem?_append_right (by omega)] at h4
          simp [hpre] at h4
          subst h4
          right
          rw [Nat.sub_self]
          exact ⟨Nat.le_refl _, by simp [eqR1_eq hb], .inl (by simp)⟩
      · right
        have : q - k = (q - (k + 1)) + 1 := by omega
        rw [this]
        exact ⟨by omega, by simpa using h4, by simpa using h5⟩
    | false =>
      rw [hb] at h
      obtain ⟨hlow, h⟩ := Bool.rec_some (show (Bool.rec none (match diffW n rs rs' (k + 1) with
        | some ws => some ((k, y) :: ws)
        | none => none) (lowR n y) : Option (List (Nat × Root))) = some ws from h)
      split at h
      case h_2 => simp at h
      rename_i ws' hws
      simp only [Option.some.injEq] at h
      subst h
      obtain ⟨h1, h2⟩ := diffW_spec (rs := rs) (rs' := rs') (k := k + 1) hws
      refine ⟨fun p hp => by
        rcases List.mem_cons.1 hp with rfl | hp
        · exact Nat.le_refl _
        · have := h1 p hp; omega, fun pre hpre q x hx => ?_⟩
      have hx : (writes ws' (setAt (pre ++ x0 :: rs) k y))[q]? = some x := hx
      have e : setAt (pre ++ x0 :: rs) k y = (pre ++ [y]) ++ rs := by
        rw [setAt_eq, List.set_append]
        simp [hpre]
      rw [e] at hx
      rcases h2 (pre ++ [y]) (by simp [hpre]) q x hx with ⟨h3, h4⟩ | ⟨h3, h4, h5⟩
      · by_cases hq : q < k
        · rw [List.getElem?_append_left (by omega)] at h4
          exact .inl ⟨hq, h4⟩
        · have : q = k := by omega
          subst this
          rw [List.getElem?_append_right (by omega)] at h4
          simp [hpre] at h4
          subst h4
          right
          rw [Nat.sub_self]
          exact ⟨Nat.le_refl _, by simp, .inr hlow⟩
      · right
        have : q - k = (q - (k + 1)) + 1 := by omega
        rw [this]
        exact ⟨by omega, by simpa using h4, by simpa using h5⟩
theorem writes_length : ∀ (ws : List (Nat × Root)) (rs : List Root), (writes ws rs).length = rs.length
  | [], rs => rfl
  | p :: ws, rs => by
    show (writes ws (setAt rs p.1 p.2)).length = _
    rw [writes_length ws, setAt_eq]; simp

theorem R.dead_hole {s : VS} (h : R T N av0 w0 sp s a w E) {r : Nat} (hE : E[r]? = some hole) {x : Root} (hx : s.rs[r]? = some x) : x = .dead := by
  have hrel := h.roots r _ _ hx hE
  cases x with
  | dead => rfl
  | box l => obtain ⟨b, _, _, h1, _⟩ := hrel; simp [hole] at h1
  | arr el sz n get =>
    obtain ⟨_, _, xs, h1, _⟩ := hrel
    rcases h1.2 with ⟨h2, _⟩ | ⟨g, cap, cur, h2, _⟩ <;> simp [hole, undef] at h2
  | row el sz n l =>
    obtain ⟨_, _, xs, h1, _⟩ := hrel
    rcases h1.2 with ⟨h2, _⟩ | ⟨g, cap, cur, h2, _⟩ <;> simp [hole, undef] at h2
  | set l => obtain ⟨b, _, _, h1, _⟩ := hrel; simp [hole] at h1
  | loop f M sl ps as bd st pend => obtain ⟨b, _, _, h1, _⟩ := hrel; simp [hole] at h1
  | dfr => obtain ⟨b, h1, _⟩ := hrel; simp [hole] at h1

theorem look_memX : ∀ {sl : Slots} {t : Tmp} {x : D × Cond}, look sl t = some x → (t, x) ∈ sl
  | [], t, x, h => by simp [look] at h
  | (k, d, c) :: sl, t, x, h => by
    simp only [look] at h
    split at h
    · rename_i hb
      simp only [Option.some.injEq] at h
      rw [← of_beq hb, ← h]
      exact List.mem_cons_self ..
    · exact List.mem_cons_of_mem _ (look_memX h)
/-- Behind a call: of its own roots nothing is kept. -/
theorem R.trim {sl : Slots} {rs rs' : List Root} {df : List Nat} (h : R T N av0 w0 sp ⟨sl, rs, df⟩ a w E) (h' : R T N av0 w0 sp ⟨sl, rs', df⟩ a w' E') (hk : Kept E E') {ws : List (Nat × Root)} (hw : diffW rs.length rs rs' 0 = some ws)
    {d : D} (hd : lowD rs.length d = true) {v : Value} (hv : DRel E' (AV av0 rs' E') w' d v) : R T N av0 w0 sp ⟨sl, writes ws rs, df⟩ a w' E ∧ DRel E (AV av0 (writes ws rs) E) w' d v := by
  have hlen : E.length = rs.length := h.len
  have key : ∀ (q : Nat) (x : Root), (writes ws rs)[q]? = some x → rs'[q]? = some x ∧ (rs[q]? = some x ∨ lowR E.length x = true) := by
    intro q x hx
    rw [hlen]
    rcases (diffW_spec hw).2 [] rfl q x hx with ⟨h1, _⟩ | ⟨_, h2, h3⟩
    · omega
    · exact ⟨h2, h3⟩
  have hav : ∀ b, AV av0 (writes ws rs) E b → AV av0 rs' E' b := by
    rintro b (q | ⟨r, x, sz, h1, h2, h3⟩)
    · exact .inl q
    · exact .inr ⟨r, x, sz, (key r x h1).1, h2, hk.le.at_ h3⟩
  refine ⟨⟨h.size, h.defers, fun x hx => DRel.shrink hk hav (DRel.low (h.spec x hx)) (h'.spec x hx), h'.below, by rw [show (VS.mk sl (writes ws rs) df).rs.length = rs.length from writes_length ws rs]; exact hlen, h.outer, ?_, ?_, ?_, ?_, h'.glob.mono (Keeps.refl _ w') (fun b _ q => hav b q)⟩, DRel.shrink hk hav (by rw [hlen]; exact hd) hv⟩
  · intro q x e hx hE
    obtain ⟨k1, k2⟩ := key q x hx
    by_cases he : e = hole
    · subst he
      have := h'.dead_hole (hk.free q hE) k1
      subst this
      trivial
    · have hE' := hk.le q e hE he
      have hpost := h'.roots q x e k1 hE'
      have low : ∀ {l : List C} {cs : List Value}, (lowCs E.length l = true) → All2 (CRel E' (AV av0 rs' E') w') l cs → All2 (CRel E (AV av0 (writes ws rs) E) w') l cs := fun hl hc => hc.shrink fun x hx y q => CRel.shrink hk hav (lowCs_spec hl x hx) q
      cases x with
      | dead => trivial
      | box l =>
        obtain ⟨b, cs, Tc, p1, p2, p3, p4⟩ := hpost
        refine ⟨b, cs, Tc, p1, p2, p3, low ?_ p4⟩
        rcases k2 with k2 | k2
        · obtain ⟨_, _, _, _, _, _, p5⟩ := h.roots q _ e k2 hE
          exact L.low p5
        · exact k2
      | row el sz n l =>
        obtain ⟨p1, p2, xs, p3, p4⟩ := hpost
        refine ⟨p1, p2, xs, p3, low ?_ p4⟩
        rcases k2 with k2 | k2
        · obtain ⟨_, _, _, _, p5⟩ := h.roots q _ e k2 hE
          exact L.low p5
        · exact k2
      | arr el sz n get =>
        obtain ⟨p1, p2, xs, p3, p4⟩ := hpost
        refine ⟨p1, p2, xs, p3, fun i hi j hj => ?_⟩
        obtain ⟨x, p5, p6⟩ := p4 i hi j hj
        exact ⟨x, p5, IRel.mono (Keeps.refl _ w') (fun b _ q => hav b q) p6⟩
      | set l => exact hpost
      | dfr => exact hpost
      | loop f M sl' ps as bd st pend =>
        obtain ⟨b, db, tm, p1, p2, p3, p4, p5⟩ := hpost
        rcases k2 with k2 | k2
        · obtain ⟨b', db', tm', r1, r2, r3, r4, r5⟩ := h.roots q _ e k2 hE
          refine ⟨b, db, tm, p1, p2, p3, fun t d c hl => ?_, p5⟩
          have hcn : c = [] := p5 _ (look_memX hl)
          subst hcn
          obtain ⟨s1, s2, s3⟩ := p4 t d [] hl
          obtain ⟨s4, s5, s6⟩ := r4 t d [] hl
          exact ⟨s1, fun q => DRel.shrink hk hav (DRel.low (s5 fun p hp => by cases hp)) (s2 q), s3⟩
        · simp [lowR] at k2
  · intro q x b sz hx hlv hat
    exact h'.blk q x b sz (key q x hx).1 hlv (hk.le.at_ hat)
  · intro q q' x x' b sz sz' hx hx' hl hl' hat hat'
    exact h'.inj q q' x x' b sz sz' (key q x hx).1 (key q' x' hx').1 hl hl' (hk.le.at_ hat) (hk.le.at_ hat')
  · intro t d c hl
    obtain ⟨s1, s2, s3⟩ := h'.slots t d c hl
    obtain ⟨s4, s5, s6⟩ := h.slots t d c hl
    exact ⟨s1, fun q => DRel.shrink hk hav (DRel.low (s5 q)) (s2 q), s3⟩
end
end Go.V
