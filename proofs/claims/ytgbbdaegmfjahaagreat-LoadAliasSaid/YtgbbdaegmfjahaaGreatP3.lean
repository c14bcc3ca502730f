/- The roots that a call has made are forgotten; what it has written stays. -/
import Derived.Test.YtgbbdaegmfjahaaGreatP2
import Derived.OrdersIn
import Derived.RangeFuncNested
import Derived.RangeFuncLeaves
set_option linter.unusedVariables false
namespace Go.V
open Go.RowKit
section
variable {P : Program} {T : Tab} {N : Nat} {av0 : Nat → Prop} {w0 : Kp} {sp : List (D × Value)} {a : Act} {w : World} {E E' : Env} {av av' av'' : Nat → Prop} {w' : World}
theorem eqV_eq {x y : Value} (h : eqV x y = true) : x = y := by
  unfold eqV at h
  split at h
  · rename_i a b
    have : a = b := by simpa using h
    rw [this]
  · rw [beqB_eq h]
  · simp at h
theorem eqC1_eq {x y : C} (h : eqC1 x y = true) : x = y := by
  unfold eqC1 at h
  split at h
  · rw [eqV_eq h]
  · simp only [Bool.and_eq_true] at h; rw [of_beq h.1, of_beq h.2.1, of_beq h.2.2]
  · simp only [Bool.and_eq_true] at h; rw [of_beq h.1, of_beq h.2]
  · rw [of_beq h]
  · simp at h
theorem eqCs_eq : ∀ {l m : List C}, eqCs l m = true → l = m
  | [], [], _ => rfl
  | [], y :: m, h => by
    have h : (false : Bool) = true := h
    simp at h
  | x :: l, [], h => by
    have h : (false : Bool) = true := h
    simp at h
  | x :: l, y :: m, h => by
    have h : (Bool.rec false (eqCs l m) (eqC1 x y) : Bool) = true := h
    cases hb : eqC1 x y with
    | false => rw [hb] at h; simp at h
    | true => rw [hb] at h; rw [eqC1_eq hb, eqCs_eq h]
theorem eqR1_eq {x y : Root} (h : eqR1 x y = true) : x = y := by
  unfold eqR1 at h
  split at h
  · rfl
  · rw [eqCs_eq h]
  · simp at h
theorem Kept.back (hk : Kept E E') {r : Nat} (hr : r < E.length) {e : Option Nat × Value × Nat} (h : E'[r]? = some e) (he : e ≠ hole) : E[r]? = some e := by
  have h1 := List.getElem?_eq_getElem hr
  by_cases h2 : E[r] = hole
  · rw [h2] at h1
    have := hk.free r h1
    rw [h] at this
    simp only [Option.some.injEq] at this
    exact (he this).elim
  · have := hk.le r _ h1 h2
    rw [h] at this
    simp only [Option.some.injEq] at this
    rw [h1, this]
theorem Kept.atRoot (hk : Kept E E') {r b sz : Nat} (hr : r < E.length) (h : atRoot E' r b sz) : atRoot E r b sz := by
  obtain ⟨hd, h⟩ := h
  exact ⟨hd, hk.back hr h (by simp [hole])⟩
theorem allLt_spec {n : Nat} : ∀ {l : List Nat}, allLt n l = true → ∀ r ∈ l, r < n
  | [], _, r, hr => by simp at hr
  | x :: l, h, r, hr => by
    have h : (Bool.rec false (allLt n l) (Nat.blt x n) : Bool) = true := h
    cases hb : Nat.blt x n with
    | false => rw [hb] at h; simp at h
    | true =>
      rw [hb] at h
      rcases List.mem_cons.1 hr with rfl | hr
      · exact toNat_of_blt hb
      · exact allLt_spec h r hr
theorem All2.shrink {α β : Type} {R S : α → β → Prop} {l : List α} {m : List β} (h : All2 R l m) (k : ∀ x ∈ l, ∀ y, R x y → S x y) : All2 S l m := by
  induction h with
  | nil => exact .nil
  | cons q _ ih => exact .cons (k _ (List.mem_cons_self ..) _ q) (ih fun x hx => k x (List.mem_cons_of_mem _ hx))
theorem CRel.shrink (hk : Kept E E') (ha : ∀ b, av'' b → av' b) {x : C} {v : Value} (hx : lowC E.length x = true) (h : CRel E' av' w' x v) : CRel E av'' w' x v := by
  cases x with
  | im x => exact IRel.mono (Keeps.refl _ w') (fun b _ q => ha b q) h
  | rt r i j => obtain ⟨b, sz, h1, h2⟩ := h; exact ⟨b, sz, hk.atRoot (toNat_of_blt hx) h1, h2⟩
  | sa r m => obtain ⟨e, a, n, cap, h1, h2, h3⟩ := h; exact ⟨e, a, n, cap, hk.back (toNat_of_blt hx) h1 (by intro q; subst q; simp [hole, undef] at h2), h2, h3⟩
  | mp r => obtain ⟨b, sz, h1, h2⟩ := h; exact ⟨b, sz, hk.atRoot (toNat_of_blt hx) h1, h2⟩
  | yl r => obtain ⟨b, sz, h1, h2⟩ := h; exact ⟨b, sz, hk.atRoot (toNat_of_blt hx) h1, h2⟩
  | clo f l =>
    obtain ⟨vs, h1, h2⟩ := h
    exact ⟨vs, h1, h2.shrink fun r hr y ⟨b, sz, q, q2⟩ => ⟨b, sz, hk.atRoot (allLt_spec hx r hr) q, q2⟩⟩
theorem lowCs_spec {n : Nat} : ∀ {l : List C}, lowCs n l = true → ∀ x ∈ l, lowC n x = true
  | [], _, x, hx => by simp at hx
  | y :: l, h, x, hx => by
    have h : (Bool.rec false (lowCs n l) (lowC n y) : Bool) = true := h
    cases hb : lowC n y with
    | false => rw [hb] at h; simp at h
    | true =>
      rw [hb] at h
      rcases List.mem_cons.1 hx with rfl | hx
      · exact hb
      · exact lowCs_spec h x hx
theorem lowCs_of {n : Nat} : ∀ {l : List C}, (∀ x ∈ l, lowC n x = true) → lowCs n l = true
  | [], _ => rfl
  | y :: l, h => by
    show (Bool.rec false (lowCs n l) (lowC n y) : Bool) = true
    rw [h y (List.mem_cons_self ..)]
    exact lowCs_of fun x hx => h x (List.mem_cons_of_mem _ hx)
theorem lowT_spec {n : Nat} : ∀ {l : List (Bool × List C)}, lowT n l = true → ∀ x ∈ l, lowCs n x.2 = true
  | [], _, x, hx => by simp at hx
  | y :: l, h, x, hx => by
    have h : (Bool.rec false (lowT n l) (lowCs n y.2) : Bool) = true := h
    cases hb : lowCs n y.2 with
    | false => rw [hb] at h; simp at h
    | true =>
      rw [hb] at h
      rcases List.mem_cons.1 hx with rfl | hx
      · exact hb
      · exact lowT_spec h x hx
theorem DRel.shrink (hk : Kept E E') (ha : ∀ b, av'' b → av' b) {d : D} {v : Value} (hd : lowD E.length d = true) (h : DRel E' av' w' d v) : DRel E av'' w' d v := by
  cases d with
  | c x => exact CRel.shrink hk ha hd h
  | a l => obtain ⟨cs, h1, h2⟩ := h; exact ⟨cs, h1, h2.shrink fun x hx y q => CRel.shrink hk ha (lowCs_spec hd x hx) q⟩
  | t l =>
    obtain ⟨vs, h1, h2⟩ := h
    refine ⟨vs, h1, h2.shrink ?_⟩
    rintro ⟨b, l'⟩ hx y q
    have hlow := lowT_spec hd _ hx
    cases b with
    | true => obtain ⟨cs, q1, q2⟩ := q; exact ⟨cs, q1, q2.shrink fun x hx y q => CRel.shrink hk ha (lowCs_spec hlow x hx) q⟩
    | false =>
      obtain ⟨c, q1, q2⟩ := q
      have q1 : l' = [c] := q1
      refine ⟨c, q1, CRel.shrink hk ha (lowCs_spec hlow c ?_) q2⟩
      simp only [q1]; exact List.mem_cons_self ..
theorem lt_of_at {r b sz : Nat} (h : atRoot E r b sz) : r < E.length := by obtain ⟨hd, h⟩ := h; exact (List.getElem?_eq_some_iff.1 h).1
theorem blt_of {a b : Nat} (h : a < b) : Nat.blt a b = true := by simpa [Nat.blt_eq] using h
theorem allLt_of {n : Nat} : ∀ {l : List Nat}, (∀ r ∈ l, r < n) → allLt n l = true
  | [], _ => rfl
  | x :: l, h => by
    show (Bool.rec false (allLt n l) (Nat.blt x n) : Bool) = true
    rw [blt_of (h x (List.mem_cons_self ..))]
    exact allLt_of fun r hr => h r (List.mem_cons_of_mem _ hr)
theorem All2.left {α β : Type} {R : α → β → Prop} {l : List α} {m : List β} (h : All2 R l m) : ∀ x ∈ l, ∃ y, R x y := by
  induction h with
  | nil => intro x hx; simp at hx
  | cons q _ ih =>
    intro x hx
    rcases List.mem_cons.1 hx with rfl | hx
    · exact ⟨_, q⟩
    · exact ih x hx
theorem CRel.low {x : C} {v : Value} (h : CRel E av w x v) : lowC E.length x = true := by
  cases x with
  | im x => rfl
  | rt r i j => obtain ⟨b, sz, h1, _⟩ := h; exact blt_of (lt_of_at h1)
  | sa r m => obtain ⟨e, a, n, cap, h1, _⟩ := h; exact blt_of (List.getElem?_eq_some_iff.1 h1).1
  | mp r => obtain ⟨b, sz, h1, _⟩ := h; exact blt_of (lt_of_at h1)
  | yl r => obtain ⟨b, sz, h1, _⟩ := h; exact blt_of (lt_of_at h1)
  | clo f l =>
    obtain ⟨vs, _, h2⟩ := h
    exact allLt_of fun r hr => by
      obtain ⟨_, b, sz, h1, _⟩ := h2.left r hr
      exact lt_of_at h1
theorem L.low {l : List C} {cs : List Value} (h : All2 (CRel E av w) l cs) : lowCs E.length l = true := lowCs_of fun x hx => by
  obtain ⟨y, q⟩ := h.left x hx
  exact CRel.low q
theorem DRel.low {d : D} {v : Value} (h : DRel E av w d v) : lowD E.length d = true := by
  cases d with
  | c x => exact CRel.low h
  | a l => obtain ⟨cs, _, h2⟩ := h; exact L.low h2
  | t l =>
    obtain ⟨vs, _, h2⟩ := h
    show lowT E.length l = true
    have key : ∀ x ∈ l, lowCs E.length x.2 = true := fun x hx => by
      obtain ⟨y, q⟩ := h2.left x hx
      obtain ⟨b, l'⟩ := x
      cases b with
      | true => obtain ⟨cs, _, q2⟩ := q; exact L.low q2
      | false =>
        obtain ⟨c, q1, q2⟩ := q
        have q1 : l' = [c] := q1
        subst q1
        exact lowCs_of fun x hx => by
          rcases List.mem_cons.1 hx with rfl | hx
          · exact CRel.low q2
          · simp at hx
    clear h2
    induction l with
    | nil => rfl
    | cons y l ih =>
      show (Bool.rec false (lowT E.length l) (lowCs E.length y.2) : Bool) = true
      rw [key y (List.mem_cons_self ..)]
      exact ih fun x hx => key x (List.mem_cons_of_mem _ hx)
theorem diffW_spec {n : Nat} : ∀ {rs rs' : List Root} {k : Nat} {ws : List (Nat × Root)}, diffW n rs rs' k = some ws →
    (∀ p ∈ ws, k ≤ p.1) ∧ ∀ (pre : List Root), pre.length = k → ∀ (q : Nat) (x : Root), (writes ws (pre ++ rs))[q]? = some x → (q < k ∧ pre[q]? = some x) ∨ (k ≤ q ∧ rs'[q - k]? = some x ∧ (rs[q - k]? = some x ∨ lowR n x = true))
  | [], rs', k, ws, h => by
    have h : some [] = some ws := h
    simp only [Option.some.injEq] at h
    subst h
    refine ⟨fun p hp => by simp at hp, fun pre hpre q x hx => ?_⟩
    have hx : (pre ++ [])[q]? = some x := hx
    rw [List.append_nil] at hx
    exact .inl ⟨by rw [← hpre]; exact (List.getElem?_eq_some_iff.1 hx).1, hx⟩
  | x0 :: rs, [], k, ws, h => by
    have h : (none : Option (List (Nat × Root))) = some ws := h
    simp at h
  | x0 :: rs, y :: rs', k, ws, h => by
    have h : (Bool.rec (Bool.rec none (match diffW n rs rs' (k + 1) with
      | some ws => some ((k, y) :: ws)
      | none => none) (lowR n y)) (diffW n rs rs' (k + 1)) (eqR1 x0 y) : Option (List (Nat × Root))) = some ws := h
    cases hb : eqR1 x0 y with
    | true =>
      rw [hb] at h
      obtain ⟨h1, h2⟩ := diffW_spec (rs := rs) (rs' := rs') (k := k + 1) h
      refine ⟨fun p hp => by have := h1 p hp; omega, fun pre hpre q x hx => ?_⟩
      have e : pre ++ x0 :: rs = (pre ++ [x0]) ++ rs := by simp
      rw [e] at hx
      rcases h2 (pre ++ [x0]) (by simp [hpre]) q x hx with ⟨h3, h4⟩ | ⟨h3, h4, h5⟩
      · by_cases hq : q < k
        · rw [List.getElem?_append_left (by omega)] at h4
          exact .inl ⟨hq, h4⟩
        · have : q = k := by omega
          subst this
          rw [List.getElem?_append_right (by omega)] at h4
          simp [hpre] at h4
          subst h4
          right
          rw [Nat.sub_self]
          exact ⟨Nat.le_refl _, by simp [eqR1_eq hb], .inl (by simp)⟩
      · right
        have : q - k = (q - (k + 1)) + 1 := by omega
        rw [this]
        exact ⟨by omega, by simpa using h4, by simpa using h5⟩
    | false =>
      rw [hb] at h
      obtain ⟨hlow, h⟩ := Bool.rec_some (show (Bool.rec none (match diffW n rs rs' (k + 1) with
        | some ws => some ((k, y) :: ws)
        | none => none) (lowR n y) : Option (List (Nat × Root))) = some ws from h)
      split at h
      case h_2 => simp at h
      rename_i ws' hws
      simp only [Option.some.injEq] at h
      subst h
      obtain ⟨h1, h2⟩ := diffW_spec (rs := rs) (rs' := rs') (k := k + 1) hws
      refine ⟨fun p hp => by
        rcases List.mem_cons.1 hp with rfl | hp
        · exact Nat.le_refl _
        · have := h1 p hp; omega, fun pre hpre q x hx => ?_⟩
      have hx : (writes ws' (setAt (pre ++ x0 :: rs) k y))[q]? = some x := hx
      have e : setAt (pre ++ x0 :: rs) k y = (pre ++ [y]) ++ rs := by
        rw [setAt_eq, List.set_append]
        simp [hpre]
      rw [e] at hx
      rcases h2 (pre ++ [y]) (by simp [hpre]) q x hx with ⟨h3, h4⟩ | ⟨h3, h4, h5⟩
      · by_cases hq : q < k
        · rw [List.getElem?_append_left (by omega)] at h4
          exact .inl ⟨hq, h4⟩
        · have : q = k := by omega
          subst this
          rw [List.getElem?_append_right (by omega)] at h4
          simp [hpre] at h4
          subst h4
          right
          rw [Nat.sub_self]
          exact ⟨Nat.le_refl _, by simp, .inr hlow⟩
      · right
        have : q - k = (q - (k + 1)) + 1 := by omega
        rw [this]
        exact ⟨by omega, by simpa using h4, by simpa using h5⟩
theorem diffW_ok : DiffOK fun rs rs' => diffW rs.length rs rs' 0 := fun rs rs' ws h q x hx => by
  rcases (diffW_spec h).2 [] rfl q x hx with ⟨h1, _⟩ | ⟨_, h2, h3⟩
  · omega
  · exact ⟨h2, h3⟩
theorem writes_length : ∀ (ws : List (Nat × Root)) (rs : List Root), (writes ws rs).length = rs.length
  | [], rs => rfl
  | p :: ws, rs => by
    show (writes ws (setAt rs p.1 p.2)).length = _
    rw [writes_length ws, setAt_eq]; simp
theorem R.dead_hole {s : VS} (h : R T N av0 w0 sp s a w E) {r : Nat} (hE : E[r]? = some hole) {x : Root} (hx : s.rs[r]? = some x) : x = .dead := by
  have hrel := h.roots r _ _ hx hE
  cases x with
  | dead => rfl
  | box l => obtain ⟨b, _, _, h1, _⟩ := hrel; simp [hole] at h1
  | arr el sz n get =>
    obtain ⟨_, _, xs, h1, _⟩ := hrel
    rcases h1.2 with ⟨h2, _⟩ | ⟨g, cap, cur, h2, _⟩ <;> simp [hole, undef] at h2
  | row el sz n l =>
    obtain ⟨_, _, xs, h1, _⟩ := hrel
    rcases h1.2 with ⟨h2, _⟩ | ⟨g, cap, cur, h2, _⟩ <;> simp [hole, undef] at h2
  | set l => obtain ⟨b, _, _, h1, _⟩ := hrel; simp [hole] at h1
  | loop f M sl ps as bd st pend => obtain ⟨b, _, _, h1, _⟩ := hrel; simp [hole] at h1
  | dfr => obtain ⟨b, h1, _⟩ := hrel; simp [hole] at h1
theorem look_memX : ∀ {sl : Slots} {t : Tmp} {x : D × Cond}, look sl t = some x → (t, x) ∈ sl
  | [], t, x, h => by simp [look] at h
  | (k, d, c) :: sl, t, x, h => by
    simp only [look] at h
    split at h
    · rename_i hb
      simp only [Option.some.injEq] at h
      rw [← of_beq hb, ← h]
      exact List.mem_cons_self ..
    · exact List.mem_cons_of_mem _ (look_memX h)
theorem R.trim {sl : Slots} {rs rs' : List Root} {df : List Nat} (h : R T N av0 w0 sp ⟨sl, rs, df⟩ a w E) (h' : R T N av0 w0 sp ⟨sl, rs', df⟩ a w' E') (hk : Kept E E') {ws : List (Nat × Root)} (hw : ∀ (q : Nat) (x : Root), (writes ws rs)[q]? = some x → rs'[q]? = some x ∧ (rs[q]? = some x ∨ lowR rs.length x = true))
    {d : D} (hd : lowD rs.length d = true) {v : Value} (hv : DRel E' (AV av0 rs' E') w' d v) : R T N av0 w0 sp ⟨sl, writes ws rs, df⟩ a w' E ∧ DRel E (AV av0 (writes ws rs) E) w' d v := by
  have hlen : E.length = rs.length := h.len
  have key : ∀ (q : Nat) (x : Root), (writes ws rs)[q]? = some x → rs'[q]? = some x ∧ (rs[q]? = some x ∨ lowR E.length x = true) := by
    intro q x hx
    rw [hlen]
    exact hw q x hx
  have hav : ∀ b, AV av0 (writes ws rs) E b → AV av0 rs' E' b := by
    rintro b (q | ⟨r, x, sz, h1, h2, h3⟩)
    · exact .inl q
    · exact .inr ⟨r, x, sz, (key r x h1).1, h2, hk.le.at_ h3⟩
  refine ⟨⟨h.size, h.defers, fun x hx => DRel.shrink hk hav (DRel.low (h.spec x hx)) (h'.spec x hx), h'.below, by rw [show (VS.mk sl (writes ws rs) df).rs.length = rs.length from writes_length ws rs]; exact hlen, h.outer, ?_, ?_, ?_, ?_, h'.glob.mono (Keeps.refl _ w') (fun b _ q => hav b q)⟩, DRel.shrink hk hav (by rw [hlen]; exact hd) hv⟩
  · intro q x e hx hE
    obtain ⟨k1, k2⟩ := key q x hx
    by_cases he : e = hole
    · subst he
      have := h'.dead_hole (hk.free q hE) k1
      subst this
      trivial
    · have hE' := hk.le q e hE he
      have hpost := h'.roots q x e k1 hE'
      have low : ∀ {l : List C} {cs : List Value}, (lowCs E.length l = true) → All2 (CRel E' (AV av0 rs' E') w') l cs → All2 (CRel E (AV av0 (writes ws rs) E) w') l cs := fun hl hc => hc.shrink fun x hx y q => CRel.shrink hk hav (lowCs_spec hl x hx) q
      cases x with
      | dead => trivial
      | box l =>
        obtain ⟨b, cs, Tc, p1, p2, p3, p4⟩ := hpost
        refine ⟨b, cs, Tc, p1, p2, p3, low ?_ p4⟩
        rcases k2 with k2 | k2
        · obtain ⟨_, _, _, _, _, _, p5⟩ := h.roots q _ e k2 hE
          exact L.low p5
        · exact k2
      | row el sz n l =>
        obtain ⟨p1, p2, xs, p3, p4⟩ := hpost
        refine ⟨p1, p2, xs, p3, low ?_ p4⟩
        rcases k2 with k2 | k2
        · obtain ⟨_, _, _, _, p5⟩ := h.roots q _ e k2 hE
          exact L.low p5
        · exact k2
      | arr el sz n get =>
        obtain ⟨p1, p2, xs, p3, p4⟩ := hpost
        refine ⟨p1, p2, xs, p3, fun i hi j hj => ?_⟩
        obtain ⟨x, p5, p6⟩ := p4 i hi j hj
        exact ⟨x, p5, IRel.mono (Keeps.refl _ w') (fun b _ q => hav b q) p6⟩
      | set l => exact hpost
      | dfr => exact hpost
      | loop f M sl' ps as bd st pend =>
        obtain ⟨b, db, tm, p1, p2, p3, p4, p5⟩ := hpost
        rcases k2 with k2 | k2
        · obtain ⟨b', db', tm', r1, r2, r3, r4, r5⟩ := h.roots q _ e k2 hE
          refine ⟨b, db, tm, p1, p2, p3, fun t d c hl => ?_, p5⟩
          have hcn : c = [] := p5 _ (look_memX hl)
          subst hcn
          obtain ⟨s1, s2, s3⟩ := p4 t d [] hl
          obtain ⟨s4, s5, s6⟩ := r4 t d [] hl
          exact ⟨s1, fun q => DRel.shrink hk hav (DRel.low (s5 fun p hp => by cases hp)) (s2 q), s3⟩
        · simp [lowR] at k2
  · intro q x b sz hx hlv hat
    exact h'.blk q x b sz (key q x hx).1 hlv (hk.le.at_ hat)
  · intro q q' x x' b sz sz' hx hx' hl hl' hat hat'
    exact h'.inj q q' x x' b sz sz' (key q x hx).1 (key q' x' hx').1 hl hl' (hk.le.at_ hat) (hk.le.at_ hat')
  · intro t d c hl
    obtain ⟨s1, s2, s3⟩ := h'.slots t d c hl
    obtain ⟨s4, s5, s6⟩ := h.slots t d c hl
    exact ⟨s1, fun q => DRel.shrink hk hav (DRel.low (s5 q)) (s2 q), s3⟩
end
open Go.RowKit
section
variable {P : Program} {T : Tab} {lo : Lo} {hi : Hint} {N : Nat} {av0 : Nat → Prop} {w0 : Kp} {sp : List (D × Value)} {s : VS} {a : Act} {w : World} {E : Env} {ρ : Option Nat}
theorem hid_eq (l : List Nat) (s : VS) : hid l s = ⟨s.sl, hides l s.rs, s.df⟩ := by cases l <;> rfl
theorem hides_nth : ∀ (l : List Nat) (rs : List Root) {q : Nat} {x : Root}, nthF (hides l rs) q = some x → x.live → q ∉ l ∧ nthF rs q = some x
  | [], rs, q, x, h, _ => ⟨by simp, h⟩
  | k :: l, rs, q, x, h, hx => by
    obtain ⟨h1, h2⟩ := hides_nth l (setAt rs k .dead) h hx
    rw [nthF_get, setAt_eq, List.getElem?_set] at h2
    split at h2
    · split at h2
      · simp only [Option.some.injEq] at h2; subst h2; exact hx.elim
      · simp at h2
    · rename_i hq
      refine ⟨?_, by rw [nthF_get]; exact h2⟩
      simp only [List.mem_cons, not_or]
      exact ⟨fun e => hq e.symm, h1⟩
theorem Upd.on_df (u : Upd) (s : VS) : (u.on s).df = s.df := by
  unfold Upd.on putU
  cases u.dst with
  | none => rfl
  | some t => cases u.val <;> rfl
theorem Upd.on_nil (u : Upd) {s : VS} (h : NilS s.sl) : NilS (u.on s).sl := by
  unfold Upd.on putU
  cases u.dst with
  | none => exact h
  | some t => cases u.val with
    | none => exact h
    | some d => exact h.cons _ _
theorem setS_df {us : Nat → Upd} {s0 : VS} {L : Nat → Bool} : ∀ n, (setS us s0 L n).df = s0.df
  | 0 => rfl
  | n + 1 => by
    simp only [setS]
    split
    · rw [Upd.on_df, setS_df n]
    · exact setS_df n
theorem setS_nil {us : Nat → Upd} {s0 : VS} {L : Nat → Bool} (h : NilS s0.sl) : ∀ n, NilS (setS us s0 L n).sl
  | 0 => h
  | n + 1 => by
    simp only [setS]
    split
    · exact Upd.on_nil _ (setS_nil h n)
    · exact setS_nil h n
theorem setS_congr {us : Nat → Upd} {s0 : VS} {L L' : Nat → Bool} : ∀ {n : Nat}, (∀ k, k < n → L k = L' k) → setS us s0 L n = setS us s0 L' n
  | 0, _ => rfl
  | n + 1, h => by
    simp only [setS]
    rw [h n (by omega), setS_congr (n := n) fun k hk => h k (by omega)]
theorem setS_shift {u : Upd} {us : Nat → Upd} {s : VS} : ∀ k, setS (fun | 0 => u | k + 1 => us k) s (fun _ => true) (k + 1) = setS us (u.on s) (fun _ => true) k
  | 0 => rfl
  | k + 1 => by
    rw [setS, setS_shift k]
    rfl
structure SecAt (T : Tab) (lo : Lo) (hi : Hint) (N : Nat) (ops : List Oper) (ancs : List Nat) (W : List (Nat × List Nat)) (i b : Nat) (s : VS) (o : Oper) (m : Nat) (u : Upd) : Prop where
  ev : evalU T lo hi ancs i b ops (hid (freeR ancs i m W) s) o = some (.ok u)
  ok : okT N u.dst u.val = true
  sub : subN (u.ws.map (·.1)) (wroteF i W) = true
  apart : apartN (u.ws.map (·.1)) (freeR ancs i m W) = true
  ex : exB u.ex (freeR ancs i m W) = true
theorem secondF_spec {ops : List Oper} {ancs : List Nat} {W : List (Nat × List Nat)} : ∀ {l : List Oper} {ms : List Nat} {i b : Nat} {s sF : VS}, secondF T lo hi N ops ancs W l ms i b s = some sF →
    ∃ us : Nat → Upd, sF = setS us s (fun _ => true) l.length ∧ ∀ k o, l[k]? = some o → ∃ m, ms[k]? = some m ∧ SecAt T lo hi N ops ancs W (i + k) (b + holesN (l.take k)) (setS us s (fun _ => true) k) o m (us k)
  | [], ms, i, b, s, sF, h => by
    have h : some s = some sF := h
    simp only [Option.some.injEq] at h
    exact ⟨fun _ => ⟨none, none, [], none, false⟩, h.symm, fun k o hk => by simp at hk⟩
  | o :: l, [], i, b, s, sF, h => by
    have h : (none : Option VS) = some sF := h
    simp at h
  | o :: l, m :: ms, i, b, s, sF, h => by
    have h : (match evalU T lo hi ancs i b ops (hid (freeR ancs i m W) s) o with
      | some (.ok u) => (Bool.rec none (secondF T lo hi N ops ancs W l ms (i + 1) (b + makesN o.op) (u.on s)) (okT N u.dst u.val && (subN (u.ws.map (·.1)) (wroteF i W) && (apartN (u.ws.map (·.1)) (freeR ancs i m W) && exB u.ex (freeR ancs i m W)))) : Option VS)
      | _ => none) = some sF := h
    split at h
    case h_2 => simp at h
    rename_i u hu
    obtain ⟨h1, h2⟩ := Bool.rec_some h
    simp only [Bool.and_eq_true] at h1
    obtain ⟨us, h3, h4⟩ := secondF_spec h2
    refine ⟨fun | 0 => u | k + 1 => us k, ?_, fun k o' hk => ?_⟩
    · rw [List.length_cons, setS_shift]; exact h3
    · cases k with
      | zero =>
        simp at hk
        subst hk
        exact ⟨m, rfl, hu, h1.1, h1.2.1, h1.2.2.1, h1.2.2.2⟩
      | succ k =>
        obtain ⟨m', h5, h6⟩ := h4 k o' (by simpa using hk)
        refine ⟨m', by simpa using h5, ?_⟩
        rw [setS_shift]
        have e1 : i + (k + 1) = i + 1 + k := by omega
        have e2 : b + holesN (List.take (k + 1) (o :: l)) = b + makesN o.op + holesN (l.take k) := by
          show b + (makesN o.op + holesN (l.take k)) = _
          omega
        rw [e1, e2]
        exact h6
theorem firstF_second {ops : List Oper} {ancs : List Nat} : ∀ {l : List Oper} {k b : Nat} {W : List (Nat × List Nat)} {s s' : VS}, firstF T lo hi N ancs ops l k b W s = some (.ok [] s') →
    W = [] ∧ ∀ ms : List Nat, ms.length = l.length → secondF T lo hi N ops ancs [] l ms k b s = some s'
  | [], k, b, W, s, s', h => by
    have h : some (Run1.ok W s) = some (.ok [] s') := h
    simp only [Option.some.injEq, Run1.ok.injEq] at h
    obtain ⟨rfl, rfl⟩ := h
    exact ⟨rfl, fun ms _ => rfl⟩
  | o :: l, k, b, W, s, s', h => by
    have h : (match evalU T lo hi ancs k b ops s o with
      | some (.ok u) => (Bool.rec none (firstF T lo hi N ancs ops l (k + 1) (b + makesN o.op) (addW k u W) (u.on s)) (okT N u.dst u.val) : Option Run1)
      | some (.cold c) => some (.cold c)
      | none => none) = some (.ok [] s') := h
    split at h
    · rename_i u hu
      obtain ⟨h1, h2⟩ := Bool.rec_some h
      obtain ⟨h3, h4⟩ := firstF_second h2
      have h5 : u.ws = [] ∧ W = [] := by
        unfold addW at h3
        split at h3
        · rename_i hw; exact ⟨hw, h3⟩
        · simp at h3
      refine ⟨h5.2, fun ms hms => ?_⟩
      cases ms with
      | nil => simp at hms
      | cons m ms =>
        show (match evalU T lo hi ancs k b ops s o with
          | some (.ok u) => (Bool.rec none (secondF T lo hi N ops ancs [] l ms (k + 1) (b + makesN o.op) (u.on s)) (okT N u.dst u.val && (subN (u.ws.map (·.1)) (wroteF k []) && (apartN (u.ws.map (·.1)) (freeR ancs k m []) && exB u.ex (freeR ancs k m [])))) : Option VS)
          | _ => none) = some s'
        have hex : exB u.ex (freeR ancs k m []) = true := by
          show exB u.ex [] = true
          cases u.ex <;> rfl
        rw [hu]
        simp only [h1, h5.1, hex]
        exact h4 ms (by simpa using hms)
    · simp at h
    · simp at h
theorem firstF_keys {ops : List Oper} {ancs : List Nat} : ∀ {l : List Oper} {k b : Nat} {W W' : List (Nat × List Nat)} {s s' : VS}, firstF T lo hi N ancs ops l k b W s = some (.ok W' s') → (∀ x ∈ W, x.1 < k) → ∀ x ∈ W', x.1 < k + l.length
  | [], k, b, W, W', s, s', h, hk => by
    have h : some (Run1.ok W s) = some (.ok W' s') := h
    simp only [Option.some.injEq, Run1.ok.injEq] at h
    obtain ⟨rfl, rfl⟩ := h
    exact hk
  | o :: l, k, b, W, W', s, s', h, hk => by
    have h : (match evalU T lo hi ancs k b ops s o with
      | some (.ok u) => (Bool.rec none (firstF T lo hi N ancs ops l (k + 1) (b + makesN o.op) (addW k u W) (u.on s)) (okT N u.dst u.val) : Option Run1)
      | some (.cold c) => some (.cold c)
      | none => none) = some (.ok W' s') := h
    split at h
    · rename_i u hu
      obtain ⟨h1, h2⟩ := Bool.rec_some h
      intro x hx
      have := firstF_keys h2 (fun x hx => by
        unfold addW at hx
        split at hx
        · have := hk x hx; omega
        · rcases List.mem_append.1 hx with hx | hx
          · have := hk x hx; omega
          · simp at hx; subst hx; simp) x hx
      simp only [List.length_cons]
      omega
    · simp at h
    · simp at h
theorem memN_spec {n : Nat} : ∀ {l : List Nat}, memN n l = true ↔ n ∈ l
  | [] => by simp [memN]
  | x :: l => by
    have : memN n (x :: l) = (Bool.rec (memN n l) true (Nat.beq x n) : Bool) := rfl
    rw [this]
    cases hb : Nat.beq x n with
    | true => simp [of_beq hb]
    | false =>
      have : x ≠ n := fun e => by rw [e, Nat.beq_refl] at hb; simp at hb
      simp only [List.mem_cons]
      rw [memN_spec]
      exact ⟨.inr, fun h => h.elim (fun e => (this e.symm).elim) id⟩
theorem apartN_spec {m : List Nat} : ∀ {l : List Nat}, apartN l m = true → ∀ q ∈ l, q ∉ m
  | [], _, q, hq => by simp at hq
  | x :: l, h, q, hq => by
    have h : (Bool.rec (apartN l m) false (memN x m) : Bool) = true := h
    cases hb : memN x m with
    | true => rw [hb] at h; simp at h
    | false =>
      rw [hb] at h
      rcases List.mem_cons.1 hq with rfl | hq
      · intro hm; rw [memN_spec.2 hm] at hb; simp at hb
      · exact apartN_spec h q hq
theorem subN_spec {m : List Nat} : ∀ {l : List Nat}, subN l m = true → ∀ q ∈ l, q ∈ m
  | [], _, q, hq => by simp at hq
  | x :: l, h, q, hq => by
    obtain ⟨h1, h2⟩ := Bool.rec_true (show (Bool.rec false (subN l m) (memN x m) : Bool) = true from h)
    rcases List.mem_cons.1 hq with rfl | hq
    · exact memN_spec.1 h1
    · exact subN_spec h2 q hq
theorem findF_mem {α : Type} {k : Nat} {x : α} : ∀ {l : List (Nat × α)}, findF k l = some x → (k, x) ∈ l
  | [], h => by simp [findF] at h
  | y :: l, h => by
    have h : (Bool.rec (findF k l) (some y.2) (Nat.beq y.1 k) : Option α) = some x := h
    cases hb : Nat.beq y.1 k with
    | true =>
      rw [hb] at h
      simp only [Option.some.injEq] at h
      have hk := of_beq hb
      rw [← hk, ← h]
      exact List.mem_cons_self ..
    | false => rw [hb] at h; exact List.mem_cons_of_mem _ (findF_mem h)
theorem wroteF_mem {k q : Nat} {W : List (Nat × List Nat)} (h : q ∈ wroteF k W) : ∃ l, (k, l) ∈ W ∧ q ∈ l := by
  unfold wroteF at h
  split at h
  · rename_i l hl; exact ⟨l, findF_mem hl, h⟩
  · simp at h
def Loose (A : List Nat) (i m j : Nat) : Prop := j ≠ i ∧ m.testBit j = false ∧ ∀ x, A[j]? = some x → x.testBit i = false
theorem freeR_cons {A : List Nat} {i m : Nat} {x : Nat × List Nat} {W : List (Nat × List Nat)} : freeR A i m (x :: W) = (Bool.rec (x.2 ++ freeR A i m W) (freeR A i m W) (Nat.beq x.1 i || (Nat.testBit m x.1 || (match nthF A x.1 with
    | some x => Nat.testBit x i
    | none => false))) : List Nat) := rfl
theorem freeR_mem {A : List Nat} {i m : Nat} {q : Nat} : ∀ {W : List (Nat × List Nat)} {x : Nat × List Nat}, x ∈ W → q ∈ x.2 → Loose A i m x.1 → q ∈ freeR A i m W
  | [], x, h, _, _ => by simp at h
  | y :: W, x, h, hq, hl => by
    rw [freeR_cons]
    rcases List.mem_cons.1 h with rfl | h
    · have h1 : Nat.beq x.1 i = false := by
        cases hb : Nat.beq x.1 i with
        | true => exact (hl.1 (of_beq hb)).elim
        | false => rfl
      have h2 : (match nthF A x.1 with
        | some x => Nat.testBit x i
        | none => false) = false := by
        rw [nthF_get]
        split
        · rename_i y hy; exact hl.2.2 y hy
        · rfl
      rw [h1, hl.2.1, h2]
      exact List.mem_append_left _ hq
    · have := freeR_mem h hq hl
      generalize (Nat.beq y.1 i || _) = b
      cases b with
      | true => exact this
      | false => exact List.mem_append_right _ this
theorem freeR_nil {A : List Nat} {i m : Nat} : ∀ {W : List (Nat × List Nat)}, (∀ x ∈ W, ¬ Loose A i m x.1) → freeR A i m W = []
  | [], _ => rfl
  | x :: W, h => by
    rw [freeR_cons]
    have ih := freeR_nil (A := A) (i := i) (m := m) (W := W) fun y hy => h y (List.mem_cons_of_mem _ hy)
    have hx := h x (List.mem_cons_self ..)
    cases hb : (Nat.beq x.1 i || (Nat.testBit m x.1 || (match nthF A x.1 with
      | some x => Nat.testBit x i
      | none => false))) with
    | true => exact ih
    | false =>
      simp only [Bool.or_eq_false_iff] at hb
      refine (hx ⟨fun e => ?_, hb.2.1, fun y hy => ?_⟩).elim
      · rw [e, Nat.beq_refl] at hb; simp at hb
      · have := hb.2.2
        rw [nthF_get, hy] at this
        exact this
theorem compB_spec {i m : Nat} : ∀ {l : List Nat} {k : Nat}, compB i m l k = true → ∀ j x, l[j]? = some x → k + j = i ∨ m.testBit (k + j) = true ∨ x.testBit i = true
  | [], k, _, j, x, hx => by simp at hx
  | y :: l, k, h, j, x, hx => by
    obtain ⟨h1, h2⟩ := Bool.rec_true (show (Bool.rec false (compB i m l (k + 1)) (Nat.beq k i || (Nat.testBit m k || Nat.testBit y i)) : Bool) = true from h)
    cases j with
    | zero =>
      simp at hx
      subst hx
      simp only [Bool.or_eq_true] at h1
      rcases h1 with h1 | h1 | h1
      · exact .inl (of_beq h1)
      · exact .inr (.inl h1)
      · exact .inr (.inr h1)
    | succ j =>
      have := compB_spec h2 j x (by simpa using hx)
      rwa [show k + 1 + j = k + (j + 1) by omega] at this
theorem barB_spec {A : List Nat} {i m : Nat} (hm : A[i]? = some m) (h : barB A i = true) {j x : Nat} (hx : A[j]? = some x) : ¬ Loose A i m j := by
  unfold barB at h
  rw [nthF_get, hm] at h
  simp only at h
  rintro ⟨h1, h2, h3⟩
  rcases compB_spec h j x hx with h4 | h4 | h4
  · omega
  · rw [Nat.zero_add] at h4; rw [h2] at h4; simp at h4
  · rw [h3 x hx] at h4; simp at h4
theorem evalU_inv {A : List Nat} {i b : Nat} {ops : List Oper} {s : VS} {o : Oper} {u : Upd} (h : evalU T lo hi A i b ops s o = some (.ok u)) :
    (wantF ops s.sl o.guard = some false ∧ u = ⟨o.dst, some (.t []), [], none, false⟩) ∨
    (wantF ops s.sl o.guard = some true ∧ ∃ e, effO T lo hi b s o.dst o.op = some e ∧ (∀ l, e ≠ .cold l) ∧ u.dst = o.dst ∧
      ((∃ d, e = .val d ∧ u.val = some d ∧ u.ws = [] ∧ u.al = none) ∨ (∃ d ws, e = .wr d ws ∧ u.val = d ∧ u.ws = ws ∧ u.al = none) ∨ (∃ d rs, e = .all d rs ∧ u.val = some d ∧ u.ws = [] ∧ u.al = some rs ∧ barB A i = true) ∨
        (∃ d rs, e = .all d rs ∧ u.val = some d ∧ lo.diff s.rs rs = some u.ws ∧ u.al = none ∧ u.ex = true ∧ lowD s.rs.length d = true))) := by
  unfold evalU at h
  split at h
  · rename_i hw
    refine .inr ⟨hw, ?_⟩
    unfold updE at h
    split at h
    · rename_i d he
      simp only [Option.some.injEq, Fst.ok.injEq] at h
      subst h
      exact ⟨_, he, fun _ => Eff.noConfusion, rfl, .inl ⟨d, rfl, rfl, rfl, rfl⟩⟩
    · rename_i d ws he
      simp only [Option.some.injEq, Fst.ok.injEq] at h
      subst h
      exact ⟨_, he, fun _ => Eff.noConfusion, rfl, .inr (.inl ⟨d, ws, rfl, rfl, rfl, rfl⟩)⟩
    · simp at h
    · rename_i d rs he
      cases hb : barB A i with
      | false =>
        rw [hb] at h
        have h : allU lo o.dst d s.rs rs = some (.ok u) := h
        unfold allU at h
        split at h
        case h_2 => simp at h
        rename_i ws hws
        obtain ⟨h1, h⟩ := Bool.rec_some h
        simp only [Option.some.injEq, Fst.ok.injEq] at h
        subst h
        exact ⟨_, he, fun _ => Eff.noConfusion, rfl, .inr (.inr (.inr ⟨d, rs, rfl, rfl, hws, rfl, rfl, h1⟩))⟩
      | true =>
        rw [hb] at h
        simp only [Option.some.injEq, Fst.ok.injEq] at h
        subst h
        exact ⟨_, he, fun _ => Eff.noConfusion, rfl, .inr (.inr (.inl ⟨d, rs, rfl, rfl, rfl, rfl, rfl⟩))⟩
    · simp at h
  · rename_i hw
    simp only [Option.some.injEq, Fst.ok.injEq] at h
    exact .inl ⟨hw, h.symm⟩
  · simp at h
theorem evalU_dst {A : List Nat} {i b : Nat} {ops : List Oper} {s : VS} {o : Oper} {u : Upd} (h : evalU T lo hi A i b ops s o = some (.ok u)) : u.dst = o.dst := by
  rcases evalU_inv h with ⟨_, rfl⟩ | ⟨_, e, _, _, h, _⟩
  · rfl
  · exact h
theorem evalU_al {A : List Nat} {i b : Nat} {ops : List Oper} {s : VS} {o : Oper} {u : Upd} (h : evalU T lo hi A i b ops s o = some (.ok u)) (ha : u.al ≠ none) : barB A i = true := by
  rcases evalU_inv h with ⟨_, rfl⟩ | ⟨_, e, _, _, _, h | h | h | h⟩
  · exact (ha rfl).elim
  · obtain ⟨_, _, _, _, h⟩ := h; exact (ha h).elim
  · obtain ⟨_, _, _, _, _, h⟩ := h; exact (ha h).elim
  · obtain ⟨_, _, _, _, _, _, h⟩ := h; exact h
  · obtain ⟨_, _, _, _, _, h, _⟩ := h; exact (ha h).elim
structure Open (T : Tab) (lo : Lo) (hi : Hint) (N : Nat) (ops : List Oper) (A : List Nat) (W : List (Nat × List Nat)) (us : Nat → Upd) (s0 : VS) (b0 : Nat) : Prop where
  anc : Anc ops A
  below : ∀ (i m : Nat), A[i]? = some m → ∀ j, m.testBit j = true → j < i
  order : ∀ (i : Nat) (o : Oper) (m : Nat), ops[i]? = some o → A[i]? = some m → guardB m o.guard = true ∧ readB ops m o.op.operands.toList = true
  dist : ∀ (i j : Nat) (o o' : Oper) (t : Tmp), ops[i]? = some o → ops[j]? = some o' → o.dst = some t → o'.dst = some t → i = j
  keys : ∀ x ∈ W, x.1 < ops.length
  sec : ∀ (k : Nat) (o : Oper), ops[k]? = some o → ∃ m, A[k]? = some m ∧ SecAt T lo hi N ops A W k (b0 + holesN (ops.take k)) (setS us s0 (fun _ => true) k) o m (us k)
def Closed (A : List Nat) (L : Nat → Bool) : Prop := ∀ (j m : Nat), A[j]? = some m → L j = true → ∀ k, m.testBit k = true → L k = true
section
variable {ops : List Oper} {A : List Nat} {W : List (Nat × List Nat)} {us : Nat → Upd} {s0 : VS} {b0 : Nat} {L : Nat → Bool} {i m : Nat} {o : Oper}
theorem Open.get (hO : Open T lo hi N ops A W us s0 b0) {k : Nat} (hk : k < ops.length) : ∃ o m, ops[k]? = some o ∧ A[k]? = some m ∧ SecAt T lo hi N ops A W k (b0 + holesN (ops.take k)) (setS us s0 (fun _ => true) k) o m (us k) := by
  obtain ⟨m, h1, h2⟩ := hO.sec k ops[k] (List.getElem?_eq_getElem hk)
  exact ⟨_, m, List.getElem?_eq_getElem hk, h1, h2⟩
theorem Open.dst (hO : Open T lo hi N ops A W us s0 b0) {k : Nat} {o : Oper} (ho : ops[k]? = some o) {t : Tmp} (h : (slotV t).touch (us k)) : o.dst = some t := by
  obtain ⟨m, _, h2⟩ := hO.sec k o ho
  rw [← evalU_dst h2.ev]
  exact Upd.at_dst h
theorem Open.loose (hO : Open T lo hi N ops A W us s0 b0) (hm : A[i]? = some m) {k q : Nat} (hk : k < ops.length) (hl : Loose A i m k) (ht : (rootV q).touch (us k)) : q ∈ freeR A i m W := by
  obtain ⟨o, x, h1, h2, h3⟩ := hO.get hk
  rcases ht with ht | ht
  · have hb := evalU_al h3.ev ht
    refine (barB_spec h2 hb hm ?_).elim
    exact ⟨fun e => hl.1 e.symm, hl.2.2 x h2, fun y hy => by
      rw [hm] at hy
      simp only [Option.some.injEq] at hy
      subst hy
      exact hl.2.1⟩
  · obtain ⟨l, h4, h5⟩ := wroteF_mem (subN_spec h3.sub q ht)
    exact freeR_mem h4 h5 hl
theorem Open.same (hO : Open T lo hi N ops A W us s0 b0) (hL : Closed A L) (hm : A[i]? = some m) (hi : L i = false) (hr : ∀ k, m.testBit k = true → L k = true) {k : Nat} (hk : k < ops.length) (hl : ¬ Loose A i m k) : ((fun _ => true) k && decide (k < i)) = L k := by
  obtain ⟨o, x, h1, h2, h3⟩ := hO.get hk
  by_cases e1 : k = i
  · subst e1; simp [hi]
  · cases h4 : m.testBit k with
    | true => simp [hO.below i m hm k h4, hr k h4]
    | false =>
      cases h5 : x.testBit i with
      | true =>
        have := hO.below k x h2 i h5
        have h6 : L k = false := by
          cases hLk : L k with
          | false => rfl
          | true => rw [hL k x h2 hLk i h5] at hi; simp at hi
        rw [h6]
        simp; omega
      | false => exact (hl ⟨e1, h4, fun y hy => by
          rw [h2] at hy
          simp only [Option.some.injEq] at hy
          subst hy
          exact h5⟩).elim
theorem Open.slot (hO : Open T lo hi N ops A W us s0 b0) (hL : Closed A L) (hm : A[i]? = some m) (hi' : i < ops.length) (hi : L i = false) (hr : ∀ k, m.testBit k = true → L k = true) {t : Tmp}
    (ht : ∀ k o, ops[k]? = some o → o.dst = some t → m.testBit k = true) : lookF (setS us s0 (fun _ => true) i).sl t = lookF (setS us s0 L ops.length).sl t := by
  rw [← setS_trunc (L := fun _ => true) (Nat.le_of_lt hi')]
  refine (slotV t).agree fun k hk htk => ?_
  obtain ⟨o, x, h1, h2, h3⟩ := hO.get hk
  have h4 := ht k o h1 (hO.dst h1 htk)
  exact hO.same hL hm hi hr hk fun hl => by rw [hl.2.1] at h4; simp at h4
theorem Open.root (hO : Open T lo hi N ops A W us s0 b0) (hL : Closed A L) (hm : A[i]? = some m) (hi' : i < ops.length) (hi : L i = false) (hr : ∀ k, m.testBit k = true → L k = true) {q : Nat}
    (hq : q ∉ freeR A i m W) : nthF (setS us s0 (fun _ => true) i).rs q = nthF (setS us s0 L ops.length).rs q := by
  rw [← setS_trunc (L := fun _ => true) (Nat.le_of_lt hi')]
  refine (rootV q).agree fun k hk htk => ?_
  exact hO.same hL hm hi hr hk fun hl => hq (hO.loose hm hk hl htk)
theorem writes_len : ∀ (ws : List (Nat × Root)) (rs : List Root), (writes ws rs).length = rs.length
  | [], _ => rfl
  | p :: ws, rs => by
    show (writes ws (setAt rs p.1 p.2)).length = _
    rw [writes_len ws, setAt_eq, List.length_set]
theorem hides_len : ∀ (l : List Nat) (rs : List Root), (hides l rs).length = rs.length
  | [], _ => rfl
  | q :: l, rs => by
    show (hides l (setAt rs q .dead)).length = _
    rw [hides_len l, setAt_eq, List.length_set]
noncomputable def lenV : View Nat where
  f s := s.rs.length
  act u x := match u.al with
    | some rs => rs.length
    | none => x
  touch u := u.al ≠ none
  on u s := by
    have : (u.on s).rs = writes u.ws (allR u.al s.rs) := by
      unfold Upd.on putU
      cases u.dst with
      | none => rfl
      | some t => cases u.val <;> rfl
    rw [this, writes_len]
    unfold allR
    cases u.al <;> rfl
  idle u x h := by
    cases hu : u.al with
    | none => rfl
    | some rs => exact (h (by rw [hu]; simp)).elim
theorem Open.len (hO : Open T lo hi N ops A W us s0 b0) (hL : Closed A L) (hm : A[i]? = some m) (hi' : i < ops.length) (hi : L i = false) (hr : ∀ k, m.testBit k = true → L k = true) :
    (setS us s0 (fun _ => true) i).rs.length = (setS us s0 L ops.length).rs.length := by
  rw [← setS_trunc (L := fun _ => true) (Nat.le_of_lt hi')]
  refine lenV.agree fun k hk htk => ?_
  refine hO.same hL hm hi hr hk fun hl => ?_
  obtain ⟨o, x, h1, h2, h3⟩ := hO.get hk
  refine (barB_spec h2 (evalU_al h3.ev htk) hm ?_).elim
  exact ⟨fun e => hl.1 e.symm, hl.2.2 x h2, fun y hy => by
    rw [hm] at hy
    simp only [Option.some.injEq] at hy
    subst hy
    exact hl.2.1⟩
theorem ext_nthF {α : Type} {l l' : List α} (h : ∀ q, nthF l q = nthF l' q) : l = l' := List.ext_getElem? fun q => by rw [← nthF_get, ← nthF_get, h q]
theorem Open.more_rs (hO : Open T lo hi N ops A W us s0 b0) (hL : Closed A L) (ho : ops[i]? = some o) (hm : A[i]? = some m) (hi' : i < ops.length) (hi : L i = false) :
    (setS us s0 (more L i) ops.length).rs = ((us i).on (setS us s0 L ops.length)).rs ∧ ∀ t, lookF (setS us s0 (more L i) ops.length).sl t = lookF ((us i).on (setS us s0 L ops.length)).sl t := by
  refine ⟨ext_nthF fun q => ((rootV q).step hi' hi fun ht k h1 h2 h3 htk => ?_).symm, fun t => ((slotV t).step hi' hi fun ht k h1 h2 h3 htk => ?_).symm⟩
  · obtain ⟨o', x, h4, h5, h6⟩ := hO.get h2
    obtain ⟨m', h7, h8⟩ := hO.sec i o ho
    rw [hm] at h7
    simp only [Option.some.injEq] at h7
    subst h7
    have hl : Loose A i m k := by
      refine ⟨by omega, ?_, fun y hy => ?_⟩
      · cases hb : m.testBit k with
        | false => rfl
        | true => have := hO.below i m hm k hb; omega
      · cases hb : y.testBit i with
        | false => rfl
        | true => rw [hL k y hy h3 i hb] at hi; simp at hi
    rcases ht with ht | ht
    · exact barB_spec hm (evalU_al h8.ev ht) h5 hl
    · exact apartN_spec h8.apart q ht (hO.loose hm h2 hl htk)
  · obtain ⟨o', x, h4, h5, h6⟩ := hO.get h2
    have := hO.dist i k o o' t ho h4 (hO.dst ho ht) (hO.dst h4 htk)
    omega
theorem look_lookF : ∀ {sl : Slots} {t : Tmp} {d : D} {c : Cond}, look sl t = some (d, c) → lookF sl t = some d
  | [], t, d, c, h => by simp [look] at h
  | (k, x, c') :: sl, t, d, c, h => by
    rw [lookF_cons]
    simp only [look] at h
    split at h
    · rename_i hb
      simp only [Option.some.injEq, Prod.mk.injEq] at h
      rw [hb, h.1]
    · rename_i hb
      rw [hb]; exact look_lookF h
theorem look_nil : ∀ {sl : Slots} {t : Tmp} {d : D} {c : Cond}, NilS sl → look sl t = some (d, c) → c = []
  | [], t, d, c, _, h => by simp [look] at h
  | (k, x, c') :: sl, t, d, c, hn, h => by
    simp only [look] at h
    split at h
    · simp only [Option.some.injEq, Prod.mk.injEq] at h
      rw [← h.2]; exact hn _ (List.mem_cons_self ..)
    · exact look_nil (fun y hy => hn y (List.mem_cons_of_mem _ hy)) h
theorem R.like (h : R T N av0 w0 sp s a w E) (hn : NilS s.sl) {s' : VS} (hn' : NilS s'.sl) (h1 : s'.rs = s.rs) (h2 : s'.df = s.df) (h3 : ∀ t, lookF s'.sl t = lookF s.sl t) : R T N av0 w0 sp s' a w E := by
  obtain ⟨sl', rs', df'⟩ := s'
  simp only at h1 h2
  subst h1 h2
  exact ⟨h.size, h.defers, h.spec, h.below, h.len, h.outer, h.roots, h.blk, h.inj, fun t d c hl => by
    have hc := look_nil hn' hl
    subst hc
    exact h.slots t d [] (lookF_look hn ((h3 t).symm.trans (look_lookF hl))), h.glob⟩
theorem wantF_cong {sl sl' : Slots} {g : Option (Nat × Bool)} (h : ∀ j b p t, g = some (j, b) → ops[j]? = some p → p.dst = some t → lookF sl t = lookF sl' t) : wantF ops sl g = wantF ops sl' g := by
  unfold wantF
  split
  · rfl
  · rename_i j b
    split
    · rename_i p hp
      rw [nthF_get] at hp
      split
      · rename_i t ht
        rw [h j b p t rfl hp ht]
      · rfl
    · rfl
theorem effR_writes {b : Nat} {rs : List Root} {d : Option D} {ws : List (Nat × Root)} (h : Shape b rs ws) (hb : b < rs.length) : effR (.wr d ws) rs = writes ws rs := by
  rcases h with ⟨x, rfl⟩ | ⟨q, x, rfl, hq⟩ | ⟨q, x, y, rfl⟩
  · show place b x rs = setAt rs b x
    rw [place_at x hb, setAt_eq]
  · show place q x rs = setAt rs q x
    rw [place_at x hq, setAt_eq]
  · show place b y (setAt rs q x) = setAt (setAt rs q x) b y
    rw [place_at y (by rw [setAt_eq]; simpa using hb), setAt_eq (setAt rs q x)]
theorem effR_all {rs : List Root} {d : Option D} {ws : List (Nat × Root)} (h : ∀ b, Shape b rs ws) : effR (.wr d ws) rs = writes ws rs := by
  have key : ∀ q x, ws = [(q, x)] → q < rs.length → effR (.wr d ws) rs = writes ws rs := fun q x e hq => by
    subst e
    show place q x rs = setAt rs q x
    rw [place_at x hq, setAt_eq]
  rcases h 0 with ⟨x, h0⟩ | ⟨q, x, h0, hq⟩ | ⟨q, x, y, h0⟩
  · rcases h 1 with ⟨x', h1⟩ | ⟨q', x', h1, hq⟩ | ⟨q', x', y', h1⟩
    · rw [h0] at h1; simp at h1
    · exact key _ _ h1 hq
    · rw [h0] at h1; simp at h1
  · exact key _ _ h0 hq
  · rcases h 1 with ⟨x', h1⟩ | ⟨q', x', h1, hq⟩ | ⟨q', x', y', h1⟩
    · rw [h0] at h1; simp at h1
    · exact key _ _ h1 hq
    · rw [h0] at h1; simp at h1
theorem R.dead_of_hole (h : R T N av0 w0 sp s a w E) {r : Nat} (hE : E[r]? = some hole) : s.rs[r]? = some .dead := by
  have hr : r < s.rs.length := by rw [← h.len]; exact (List.getElem?_eq_some_iff.1 hE).1
  have hx := List.getElem?_eq_getElem hr
  rw [hx]
  have hrel := h.roots r _ _ hx hE
  generalize s.rs[r] = x at hrel
  cases x with
  | dead => rfl
  | box l => obtain ⟨b, _, _, h1, _⟩ := hrel; simp [hole] at h1
  | arr el sz n get =>
    obtain ⟨_, _, xs, h1, _⟩ := hrel
    rcases h1.2 with ⟨h2, _⟩ | ⟨g, cap, cur, h2, _⟩ <;> simp [hole, undef] at h2
  | row el sz n l =>
    obtain ⟨_, _, xs, h1, _⟩ := hrel
    rcases h1.2 with ⟨h2, _⟩ | ⟨g, cap, cur, h2, _⟩ <;> simp [hole, undef] at h2
  | set l => obtain ⟨b, _, _, h1, _⟩ := hrel; simp [hole] at h1
  | loop f M sl ps as bd st pend => obtain ⟨b, _, _, h1, _⟩ := hrel; simp [hole] at h1
  | dfr => obtain ⟨b, h1, _⟩ := hrel; simp [hole] at h1
structure KeptB (b0 : Nat) (E E' : Env) : Prop where
  le : Env.le E E'
  free : ∀ q : Nat, q < b0 → E[q]? = some hole → E'[q]? = some hole
theorem KeptB.trans {b0 : Nat} {E F G : Env} (h : KeptB b0 E F) (k : KeptB b0 F G) : KeptB b0 E G := ⟨h.le.trans k.le, fun q hq e => k.free q hq (h.free q hq e)⟩
theorem KeptB.refl (b0 : Nat) (E : Env) : KeptB b0 E E := ⟨Env.le_refl E, fun _ _ h => h⟩
theorem effO_all {b b' : Nat} {s : VS} {dst : Option Tmp} {op : Op} {d : D} {rs : List Root} (h : effO T lo hi b s dst op = some (.all d rs)) : effO T lo hi b' s dst op = some (.all d rs) := by
  by_cases hm : makesN op = 0
  · rw [effO_nomake hm (b' := b)]; exact h
  unfold effO at h ⊢
  split at h
  · simp at h
  · rename_i hl
    cases op with
    | call c =>
      have h : callO T lo hi b s c = _ := h
      show callO T lo hi b' s c = _
      unfold callO at h ⊢
      split at h
      · exfalso
        have fin : ∀ {el sz k : Nat} {l' : List C} {by' : Nat} {c : C}, apd el sz k l' by' b s.rs c ≠ some (.all d rs) := by
          intro el sz k l' by' c q
          unfold apd at q
          split at q
          · split at q
            · simp at q
            · replace q := (Bool.rec_some q).2; simp at q
          · split at q
            · replace q := (Bool.rec_some q).2
              replace q := (Bool.rec_some q).2
              simp at q
            · simp at q
          · simp at q
        unfold appF at h
        split at h
        case h_2 => simp at h
        replace h := (Bool.rec_some h).2
        split at h
        case h_2 => simp at h
        split at h
        · rename_i e' he'
          subst h
          unfold apdT at he'
          split at he'
          case h_2 => simp at he'
          split at he'
          case h_2 => simp at he'
          split at he'
          case h_2 => simp at he'
          simp only [Option.some.injEq] at he'
          unfold apdG at he'
          split at he'
          · replace he' := (Bool.rec_some he').2
            unfold apdA at he'
            split at he'
            · replace he' := (Bool.rec_some he').2
              simp at he'
            · split at he'
              · replace he' := (Bool.rec_some he').2
                replace he' := (Bool.rec_some he').2
                replace he' := (Bool.rec_some he').2
                simp at he'
              · simp at he'
            · simp at he'
          · unfold coldC at he'
            split at he'
            · simp at he'
            · simp at he'
        unfold apdF at h
        split at h
        case h_2 => simp at h
        split at h
        case h_2 => simp at h
        split at h
        case h_2 => simp at h
        split at h
        case h_2 => simp at h
        split at h
        · exact fin (Bool.rec_some h).2
        · exact fin (Bool.rec_some h).2
      · unfold valueF at h ⊢
        split at h
        case h_2 => simp at h
        split at h
        · exact h
        · split at h
          case h_2 => simp at h
          unfold callF at h ⊢
          split at h
          · exact h
          · exact h
          · exfalso
            unfold ocallF at h
            split at h
            · simp at h
            · revert h
              generalize plainC _ = p
              intro h
              cases p with
              | true => simp at h
              | false =>
                rcases coldF_some h with ⟨l, hl⟩ | ⟨hl, _⟩
                · cases hl
                · cases hl
            · rcases coldF_some h with ⟨l, hl⟩ | ⟨hl, _⟩
              · cases hl
              · cases hl
            · simp at h
          · exfalso
            unfold wrF at h
            split at h
            · replace h := (Bool.rec_some h).2
              simp at h
            · simp at h
          · exact h
      · simp at h
    | box t x =>
      have h : boxF b s x = _ := h
      unfold boxF at h
      split at h <;> (try split at h) <;> simp at h
    | alloc t =>
      have h : allocF T b t = _ := h
      unfold allocF at h
      split at h <;> (try split at h) <;> simp at h
    | makeMap t r =>
      have h : mkmapF T b t r = _ := h
      unfold mkmapF at h
      split at h <;> simp at h
    | makeSlice t l c =>
      have h : mkslF T b s t l c = _ := h
      unfold mkslF at h
      split at h
      case h_2 => simp at h
      split at h
      case h_2 => simp at h
      split at h
      case h_2 => simp at h
      split at h
      case h_2 => simp at h
      split at h
      case h_2 => simp at h
      replace h := (Bool.rec_some h).2
      replace h := (Bool.rec_some h).2
      replace h := (Bool.rec_some h).2
      simp at h
    | buildSlice t n ps =>
      have h : bsF T b s (coldT hi dst) t n ps.toList = _ := h
      unfold bsF at h
      split at h
      case h_2 => simp at h
      split at h
      case h_2 => simp at h
      split at h
      case h_2 => simp at h
      split at h
      case h_2 => simp at h
      replace h := (Bool.rec_some h).2
      rcases bornE_cases (coldT hi dst) b _ _ n _ with hc | ⟨_, _, hc⟩ <;> rw [hc] at h <;> simp at h
    | _ => exact (hm rfl).elim
def Holes (ops : List Oper) (b0 : Nat) (L : Nat → Bool) (E : Env) : Prop := ∀ j o, ops[j]? = some o → L j = false → makesN o.op ≠ 0 → E[b0 + holesN (ops.take j)]? = some hole
theorem holesN_append (l m : List Oper) : holesN (l ++ m) = holesN l + holesN m := by
  induction l with
  | nil => show holesN m = 0 + holesN m; omega
  | cons o l ih =>
    show makesN o.op + holesN (l ++ m) = (makesN o.op + holesN l) + holesN m
    rw [ih]; omega
theorem holesN_take_succ {ops : List Oper} {j : Nat} {o : Oper} (h : ops[j]? = some o) : holesN (ops.take (j + 1)) = holesN (ops.take j) + makesN o.op := by
  rw [List.take_add_one, h, holesN_append]
  show holesN (ops.take j) + (makesN o.op + 0) = _
  omega
theorem holesN_take_le (ops : List Oper) {j k : Nat} (h : j ≤ k) : holesN (ops.take j) ≤ holesN (ops.take k) := by
  have h1 := List.take_append_drop j (ops.take k)
  rw [List.take_take, Nat.min_eq_left h] at h1
  rw [← h1, holesN_append]
  omega
theorem holesN_ne {j k : Nat} {o o' : Oper} (hj : ops[j]? = some o) (hk : ops[k]? = some o') (h1 : makesN o.op ≠ 0) (h2 : makesN o'.op ≠ 0) (hne : j ≠ k) : holesN (ops.take j) ≠ holesN (ops.take k) := by
  rcases Nat.lt_or_ge j k with h | h
  · have := holesN_take_le ops (j := j + 1) (k := k) h
    rw [holesN_take_succ hj] at this
    omega
  · have := holesN_take_le ops (j := k + 1) (k := j) (by omega)
    rw [holesN_take_succ hk] at this
    omega
theorem stepF_on {s : VS} {dst : Option Tmp} {e : Eff} {u : Upd} (hd : u.dst = dst) (hok : okT N u.dst u.val = true) (hv : u.val = effD e) (hnc : ∀ l, e ≠ .cold l) (hrs : effR e s.rs = writes u.ws (allR u.al s.rs)) : stepF N s dst e = some (u.on s) := by
  subst hd
  have key : ∀ (d : D) (s1 : VS), u.val = some d → s1 = { s with rs := writes u.ws (allR u.al s.rs) } → putF N s1 u.dst d = some (u.on s) := fun d s1 hv hs => by
    subst hs
    unfold Upd.on putF putU
    unfold okT at hok
    cases hdst : u.dst with
    | none => rfl
    | some t =>
      rw [hdst, hv] at hok
      simp only [hv, show Nat.blt t N = true from hok]
  cases e with
  | val d =>
    refine key d s hv ?_
    obtain ⟨sl, rs, df⟩ := s
    have : rs = _ := hrs
    simp only at this ⊢
    rw [← this]
  | wr d ws =>
    show putOF N _ u.dst d = _
    have hv : u.val = d := hv
    cases d with
    | some d => exact key d _ hv (by rw [← hrs])
    | none =>
      unfold okT at hok
      unfold Upd.on putU putOF
      cases hdst : u.dst with
      | none => simp only [← hrs]
      | some t => rw [hdst, hv] at hok; simp at hok
  | all d rs => exact key d _ hv (by rw [← hrs]; rfl)
  | cold l => exact (hnc l rfl).elim
theorem Open.op {ops : Array Oper} (hO : Open T lo hi N ops.toList A W us s0 b0) (hty : TyOK P T) (hlo : LoOK T P lo) (hL : Closed A L) (ho : ops[i]? = some o) (hm : A[i]? = some m) (hLi : L i = false) (hr : ∀ k, m.testBit k = true → L k = true)
    (h : R T N av0 w0 sp (setS us s0 L ops.size) a w E) (hn : NilS s0.sl) (hh : Holes ops.toList b0 L E) {Q : Exit → Act → World → Prop} {K : Act → World → Prop}
    (hK : ∀ a' w' E', KeptB b0 E E' → R T N av0 w0 sp (setS us s0 (more L i) ops.size) a' w' E' → Holes ops.toList b0 (more L i) E' → K a' w') : wpOpIn (Fr ρ) 0 P ops Q i K a w := by
  have hlen : ops.toList.length = ops.size := by simp
  have ho' : ops.toList[i]? = some o := by simpa using ho
  have hi' : i < ops.toList.length := (List.getElem?_eq_some_iff.1 ho').1
  obtain ⟨m', h1, hs⟩ := hO.sec i o ho'
  rw [hm] at h1
  simp only [Option.some.injEq] at h1
  subst h1
  have hord := hO.order i o m ho' hm
  let S := setS us s0 L ops.size
  have hnS : NilS S.sl := setS_nil hn _
  have slot : ∀ {t : Tmp}, (∀ k o, ops.toList[k]? = some o → o.dst = some t → m.testBit k = true) → lookF (setS us s0 (fun _ => true) i).sl t = lookF S.sl t := fun ht => by
    have := hO.slot hL hm hi' hLi hr ht
    rw [hlen] at this
    exact this
  have hfin : ∀ {a' w' E'}, KeptB b0 E E' → R T N av0 w0 sp ((us i).on S) a' w' E' → Holes ops.toList b0 (more L i) E' → K a' w' := fun {a' w' E'} hkb hR hH => by
    obtain ⟨q1, q2⟩ := hO.more_rs hL ho' hm hi' hLi
    rw [hlen] at q1 q2
    exact hK _ _ _ hkb (hR.like (Upd.on_nil _ hnS) (setS_nil hn _) q1 (by rw [Upd.on_df, setS_df, setS_df]) q2) hH
  have hwant : ∀ {b : Bool}, wantF ops.toList (hid (freeR A i m W) (setS us s0 (fun _ => true) i)).sl o.guard = some b → Region.wanted o (yielded ops a.tmps) = b := fun {b} hw => by
    rw [hid_eq] at hw
    refine wantF_spec h hnS (b := b) ?_
    rw [← hw]
    refine (wantF_cong fun j b p t hg hp ht => ?_).symm
    refine slot fun k o1 hk hk' => ?_
    have := hO.dist j k p o1 t hp hk ht hk'
    subst this
    have := hord.1
    rw [hg] at this
    exact this
  unfold wpOpIn
  rw [ho]
  simp only
  rcases evalU_inv hs.ev with ⟨hw, hu⟩ | ⟨hw, e, he, hnc, hdst, hcase⟩
  · rw [if_neg (by rw [hwant hw]; simp)]
    refine ⟨fun _ _ => trivial, ?_⟩
    have hst : putF N S o.dst (.t []) = some ((us i).on S) := by
      have hok := hs.ok
      rw [hu] at hok ⊢
      unfold putF Upd.on putU
      unfold okT at hok
      cases hd : o.dst with
      | none => rfl
      | some t =>
        rw [hd] at hok
        simp only at hok
        simp only [hok]
        rfl
    obtain ⟨h2, h3⟩ := putF_R h hnS hst undef_rel
    refine hfin (KeptB.refl _ _) h2 fun j oj hj hLj hmk => ?_
    by_cases hji : j = i
    · subst hji; rw [more_self] at hLj; simp at hLj
    · rw [more_ne hji] at hLj; exact hh j oj hj hLj hmk
  · rw [if_pos (hwant hw)]
    rw [hid_eq] at he
    have hops : ∀ x ∈ o.op.operands.toList, evF (setS us s0 (fun _ => true) i).sl x = evF S.sl x := fun x hx => by
      cases x with
      | tmp t =>
        refine slot fun k o1 hk hk' => ?_
        have := readB_spec hord.2 t hx
        unfold readT at this
        split at this
        · rename_i j hj
          obtain ⟨j', o2, h4, h5, h6⟩ := dstAt_some hj
          have := hO.dist j' k o2 o1 t h5 hk h6 hk'
          subst this
          rw [Nat.zero_add] at h4
          subst h4
          assumption
        · rename_i hj
          exact (dstAt_none hj k o1 hk hk').elim
      | _ => rfl
    have hrle : RLe (hides (freeR A i m W) (setS us s0 (fun _ => true) i).rs) S.rs := fun q x hq hx => by
      obtain ⟨h4, h5⟩ := hides_nth _ _ hq hx
      have := hO.root hL hm hi' hLi hr h4
      rw [hlen] at this
      rw [← this]; exact h5
    have hall : ∀ d r, e = .all d r → hides (freeR A i m W) (setS us s0 (fun _ => true) i).rs = S.rs := fun d r hd => by
      have hnil : freeR A i m W = [] := by
        rcases hcase with ⟨_, h4, _⟩ | ⟨_, _, h4, _⟩ | ⟨_, _, _, _, _, _, h4⟩ | ⟨_, _, _, _, _, _, h4, _⟩
        · rw [hd] at h4; cases h4
        · rw [hd] at h4; cases h4
        · exact freeR_nil fun x hx => by
            obtain ⟨_, y, _, h5, _⟩ := hO.get (hO.keys x hx)
            exact barB_spec hm h4 h5
        · have := hs.ex
          rw [h4] at this
          unfold exB at this
          simp only at this
          split at this
          · assumption
          · simp at this
      rw [hnil]
      refine ext_nthF fun q => ?_
      have := hO.root hL hm hi' hLi hr (q := q) (by rw [hnil]; simp)
      rw [hlen] at this
      exact this
    have heS : effO T lo hi (b0 + holesN (ops.toList.take i)) S o.dst o.op = some e := effO_frame (df' := S.df) hlo.mono (by rw [hides_len]; have := hO.len hL hm hi' hLi hr; rw [hlen] at this; exact this) hrle hops hnc hall he
    by_cases hc4 : ∃ d rs, e = .all d rs ∧ (us i).val = some d ∧ lo.diff S.rs rs = some (us i).ws ∧ (us i).al = none ∧ lowD S.rs.length d = true
    · obtain ⟨d, rs', h4, h5, h6, h7, h8⟩ := hc4
      subst h4
      have he' := effO_all (b' := S.rs.length) heS
      rcases effO_sound hty hlo h hnS (.inr rfl) he' (next := K) (fun v w' E' ha => by
        obtain ⟨g1, g2, g3⟩ := ha
        have hk := Kept.of_grew g1 (Nat.le_of_eq h.len)
        obtain ⟨k1, k2⟩ := R.trim (sl := S.sl) (df := S.df) h g2 hk (hlo.diff _ _ _ h6) h8 (g3 d rfl)
        have hst : putF N { S with rs := writes (us i).ws S.rs } o.dst d = some ((us i).on S) := by
          have hok := hs.ok
          rw [← hdst]
          unfold Upd.on putF putU allR
          unfold okT at hok
          rw [h7, h5]
          cases hdst' : (us i).dst with
          | none => rfl
          | some t =>
            rw [hdst', h5] at hok
            simp only [show Nat.blt t N = true from hok]
        obtain ⟨k3, k4⟩ := putF_R k1 hnS hst k2
        refine hfin (KeptB.refl _ _) k3 fun j oj hj hLj hmk => ?_
        by_cases hji : j = i
        · subst hji; rw [more_self] at hLj; simp at hLj
        · rw [more_ne hji] at hLj; exact hh j oj hj hLj hmk) with ⟨l, hl⟩ | h3
      · exact (hnc l hl).elim
      · exact h3.wpIn
    have hcase : (∃ d, e = .val d ∧ (us i).val = some d ∧ (us i).ws = [] ∧ (us i).al = none) ∨ (∃ d ws, e = .wr d ws ∧ (us i).val = d ∧ (us i).ws = ws ∧ (us i).al = none) ∨ (∃ d rs, e = .all d rs ∧ (us i).val = some d ∧ (us i).ws = [] ∧ (us i).al = some rs ∧ barB A i = true) := by
      rcases hcase with q | q | q | ⟨d, rs, q1, q2, q3, q4, q5, q6⟩
      · exact .inl q
      · exact .inr (.inl q)
      · exact .inr (.inr q)
      · refine (hc4 ⟨d, rs, q1, q2, ?_, q4, ?_⟩).elim
        · have q7 := hall d rs q1
          rw [hid_eq] at q3
          simp only at q3
          rw [q7] at q3
          exact q3
        · have q7 := hall d rs q1
          rw [hid_eq] at q6
          simp only at q6
          rw [q7] at q6
          exact q6
    have hbr : ∃ b, effO T lo hi b S o.dst o.op = some e ∧ Free S E b ∧ effR e S.rs = writes (us i).ws (allR (us i).al S.rs) ∧ (∀ E', Grew b E E' → Holes ops.toList b0 (more L i) E') ∧ (∀ E', Grew b E E' → KeptB b0 E E') := by
      by_cases hmk : makesN o.op = 0
      · refine ⟨S.rs.length, by rw [effO_nomake hmk (b' := b0 + holesN (ops.toList.take i))]; exact heS, .inr rfl, ?_, fun E' hg j oj hj hLj hmkj => ?_, fun E' hg => ⟨hg.le, fun q hq e => hg.free q (fun e' => by
          have := (List.getElem?_eq_some_iff.1 e).1
          rw [h.len] at this
          exact Nat.lt_irrefl _ (e' ▸ this)) e⟩⟩
        · rcases hcase with ⟨d, h4, _, h5, h6⟩ | ⟨d, ws, h4, _, h5, h6⟩ | ⟨d, rs, h4, _, h5, h6, _⟩
          · rw [h4, h5, h6]; rfl
          · rw [h4, h5, h6]
            refine effR_all fun b => effO_shape (T := T) (lo := lo) (hi := hi) (dst := o.dst) (op := o.op) (d := d) (s := S) ?_
            rw [effO_nomake hmk (b' := b0 + holesN (ops.toList.take i)), heS, h4]
          · rw [h4, h5, h6]; rfl
        · by_cases hji : j = i
          · subst hji; rw [more_self] at hLj; simp at hLj
          · rw [more_ne hji] at hLj
            have h7 := hh j oj hj hLj hmkj
            refine hg.free _ ?_ h7
            have := (List.getElem?_eq_some_iff.1 h7).1
            rw [h.len] at this
            exact Nat.ne_of_lt this
      · have h7 := hh i o ho' hLi hmk
        have hlt : b0 + holesN (ops.toList.take i) < S.rs.length := by
          have := (List.getElem?_eq_some_iff.1 h7).1
          rw [h.len] at this
          exact this
        refine ⟨_, heS, .inl ⟨h.dead_of_hole h7, h7⟩, ?_, fun E' hg j oj hj hLj hmkj => ?_, fun E' hg => ⟨hg.le, fun q hq e => hg.free q (by omega) e⟩⟩
        · rcases hcase with ⟨d, h4, _, h5, h6⟩ | ⟨d, ws, h4, _, h5, h6⟩ | ⟨d, rs, h4, _, h5, h6, _⟩
          · rw [h4, h5, h6]; rfl
          · rw [h4, h5, h6]
            rw [h4] at heS
            exact effR_writes (effO_shape heS) hlt
          · rw [h4, h5, h6]; rfl
        · by_cases hji : j = i
          · subst hji; rw [more_self] at hLj; simp at hLj
          · rw [more_ne hji] at hLj
            have h8 := hh j oj hj hLj hmkj
            refine hg.free _ ?_ h8
            have := holesN_ne hj ho' hmkj hmk hji
            omega
    obtain ⟨b, hb1, hb2, hb3, hb4, hb5⟩ := hbr
    have hval : (us i).val = effD e := by
      rcases hcase with ⟨d, h4, h5, _⟩ | ⟨d, ws, h4, h5, _⟩ | ⟨d, rs, h4, h5, _⟩ <;> rw [h4, h5] <;> rfl
    have hst := stepF_on hdst hs.ok hval hnc hb3
    have hd := effO_dst hb1
    rcases effO_sound hty hlo h hnS hb2 hb1 (next := K) (fun v w' E' ha => by
      obtain ⟨h3, h4⟩ := stepF_R hnS hst ha (fun q => by
        rcases hd with ⟨l, hl⟩ | hd | hd
        · exact (hnc l hl).elim
        · exact (hd q).elim
        · exact hd)
      exact hfin (hb5 _ ha.1) h3 (hb4 _ ha.1)) with ⟨l, hl⟩ | h3
    · exact (hnc l hl).elim
    · exact h3.wpIn
end
def unl : List Bool → Nat
  | [] => 0
  | true :: l => unl l
  | false :: l => unl l + 1
theorem unl_set : ∀ {l : List Bool} {i : Nat}, l[i]? = some false → unl (l.set i true) + 1 = unl l
  | [], i, h => by simp at h
  | b :: l, 0, h => by
    simp at h; subst h; rfl
  | b :: l, i + 1, h => by
    have ih := unl_set (l := l) (i := i) (by simpa using h)
    cases b with
    | true => exact ih
    | false => simp only [List.set_cons_succ, unl]; omega
theorem unl_zero : ∀ {l : List Bool}, unl l = 0 → ∀ (i : Nat), l[i]? ≠ some false
  | [], _, i => by simp
  | true :: l, h, i => by
    cases i with
    | zero => simp
    | succ i => simpa using unl_zero (l := l) h i
  | false :: l, h, i => by simp [unl] at h
theorem unl_replicate : ∀ n, unl (List.replicate n false) = n
  | 0 => rfl
  | n + 1 => by rw [List.replicate_succ]; simp only [unl]; rw [unl_replicate n]
section
variable {ops : Array Oper} {A : List Nat} {W : List (Nat × List Nat)} {us : Nat → Upd} {s0 : VS} {b0 : Nat}
theorem ready_mem {listed : Array Bool} {i : Nat} (h : i ∈ Region.ready .any ops listed) : i < ops.size ∧ listed.getD i true = false ∧ ∃ o, ops[i]? = some o ∧ ∀ e ∈ o.after.toList, Region.binds .any e = true → listed.getD e.on false = true := by
  unfold Region.ready at h
  rw [List.mem_filter, List.mem_range, Bool.and_eq_true] at h
  obtain ⟨h1, h2, h3⟩ := h
  refine ⟨h1, by simpa using h2, ?_⟩
  rw [Array.getElem?_eq_getElem h1] at h3 ⊢
  refine ⟨_, rfl, fun e he hb => ?_⟩
  simp only [Option.map_some, Option.getD_some] at h3
  rw [← Array.all_toList, List.all_eq_true] at h3
  have := h3 e he
  simpa [hb] using this
theorem ready_all {listed : Array Bool} (hO : Open T lo hi N ops.toList A W us s0 b0) (hsz : listed.size = ops.size) (h : Region.ready .any ops listed = []) : ∀ k, k < ops.size → listed.getD k false = true := by
  intro k
  induction k using Nat.strongRecOn with
  | _ k ih =>
    intro hk
    cases hL : listed.getD k false with
    | true => rfl
    | false =>
      have hk' : k < listed.size := by omega
      have hget : listed[k] = false := by simpa [Array.getD, hk'] using hL
      have : k ∈ Region.ready .any ops listed := by
        unfold Region.ready
        rw [List.mem_filter, List.mem_range, Bool.and_eq_true]
        refine ⟨hk, by simp [Array.getD, hk', hget], ?_⟩
        rw [Array.getElem?_eq_getElem hk]
        simp only [Option.map_some, Option.getD_some]
        rw [← Array.all_toList, List.all_eq_true]
        intro e he
        cases hb : Region.binds .any e with
        | false => rfl
        | true =>
          have ho : ops.toList[k]? = some ops[k] := by simp [hk]
          obtain ⟨m, hm, _⟩ := hO.sec k _ ho
          have hbit : m.testBit e.on = true := (hO.anc.bits k _ m ho hm e.on).2 ⟨e, he, hb, .inl rfl⟩
          have hlt := hO.below k m hm e.on hbit
          simp only [Bool.not_true, Bool.false_or]
          exact ih e.on hlt (by omega)
      rw [h] at this
      simp at this
theorem Open.run (hO : Open T lo hi N ops.toList A W us s0 b0) (hty : TyOK P T) (hlo : LoOK T P lo) (hn : NilS s0.sl) {Q : Exit → Act → World → Prop}
    {E0 : Env} (hQ : ∀ a' w' E', KeptB b0 E0 E' → R T N av0 w0 sp (setS us s0 (fun _ => true) ops.size) a' w' E' → Q .normal a' w') :
    ∀ (fuel : Nat) (listed : Array Bool) (a : Act) (w : World) (E : Env), KeptB b0 E0 E → listed.size = ops.size → Closed A (fun k => listed.getD k false) → R T N av0 w0 sp (setS us s0 (fun k => listed.getD k false) ops.size) a w E →
      Holes ops.toList b0 (fun k => listed.getD k false) E → unl listed.toList ≤ fuel → wpAnyIn (Fr ρ) 0 P .any ops Q fuel listed a w
  | fuel, listed, a, w, E, hkb, hsz, hC, h, hh, hu => by
    have hend : Region.ready .any ops listed = [] → Q .normal a w := fun hr => by
      have hall := ready_all hO hsz hr
      rw [setS_congr (L' := fun _ => true) fun k hk => hall k hk] at h
      exact hQ _ _ _ hkb h
    cases fuel with
    | zero =>
      refine ⟨?_, ?_⟩
      · cases hr : Region.ready .any ops listed with
        | nil => rfl
        | cons i l =>
          obtain ⟨h1, h2, _⟩ := ready_mem (show i ∈ Region.ready .any ops listed by rw [hr]; simp)
          have hi' : i < listed.size := by omega
          refine (unl_zero (l := listed.toList) (by omega) i ?_).elim
          simp [Array.getD, hi'] at h2
          simp [hi', h2]
      · refine hend ?_
        cases hr : Region.ready .any ops listed with
        | nil => rfl
        | cons i l =>
          obtain ⟨h1, h2, _⟩ := ready_mem (show i ∈ Region.ready .any ops listed by rw [hr]; simp)
          have hi' : i < listed.size := by omega
          refine (unl_zero (l := listed.toList) (by omega) i ?_).elim
          simp [Array.getD, hi'] at h2
          simp [hi', h2]
    | succ fuel =>
      refine ⟨hend, fun i hi => ?_⟩
      obtain ⟨h1, h2, o, ho, hdep⟩ := ready_mem hi
      have hi' : i < listed.size := by omega
      have hget : listed[i] = false := by simpa [Array.getD, hi'] using h2
      have ho' : ops.toList[i]? = some o := by simpa using ho
      obtain ⟨m, hm, _⟩ := hO.sec i o ho'
      have hLi : listed.getD i false = false := by simp [Array.getD, hi', hget]
      have hr : ∀ k, m.testBit k = true → listed.getD k false = true := fun k hk => by
        obtain ⟨e, he, hb, h3⟩ := (hO.anc.bits i o m ho' hm k).1 hk
        have h4 := hdep e he hb
        rcases h3 with rfl | ⟨x, hx, hxk⟩
        · exact h4
        · rw [List.getElem?_take] at hx
          split at hx
          · exact hC e.on x hx h4 k hxk
          · simp at hx
      have hmore : ∀ k, (listed.setIfInBounds i true).getD k false = more (fun k => listed.getD k false) i k := fun k => by
        by_cases hk : k = i
        · subst hk; rw [more_self]; simp [Array.getD, hi']
        · rw [more_ne hk]
          simp only [Array.getD, Array.size_setIfInBounds]
          split
          · rename_i hks
            simp only [Array.getInternal_eq_getElem]
            rw [Array.getElem_setIfInBounds, if_neg (fun e => hk e.symm)]
          · rfl
      refine hO.op (L := fun k => listed.getD k false) hty hlo hC ho hm hLi hr h hn hh fun a' w' E' hkb' hR hH => ?_
      refine Open.run hO hty hlo hn hQ fuel (listed.setIfInBounds i true) a' w' E' (hkb.trans hkb') (by simpa using hsz) ?_ ?_ ?_ ?_
      · intro j x hx hj k hk
        simp only [hmore] at hj ⊢
        by_cases hji : j = i
        · subst hji
          rw [hm] at hx
          simp only [Option.some.injEq] at hx
          subst hx
          have := hr k hk
          by_cases hki : k = j
          · subst hki; exact more_self _
          · rw [more_ne hki]; exact this
        · rw [more_ne hji] at hj
          by_cases hki : k = i
          · subst hki; exact more_self _
          · rw [more_ne hki]; exact hC j x hx hj k hk
      · rw [setS_congr fun k _ => hmore k]; exact hR
      · intro j oj hj hLj
        simp only [hmore] at hLj
        exact hH j oj hj hLj
      · have := unl_set (l := listed.toList) (i := i) (by simp [hi', hget])
        rw [Array.toList_setIfInBounds]
        omega
end
theorem drawF_sound (hty : TyOK P T) (hlo : LoOK T P lo) {ops : Array Oper} (hst : staticB ops.toList = true) {sF : VS} {Q : Exit → Act → World → Prop} (hQ : ∀ a' w' E', Kept E E' → R T N av0 w0 sp sF a' w' E' → NilS sF.sl → Q .normal a' w') :
    ∀ (n : Nat) {s : VS}, drawF T lo hi N ops.toList n s = some sF → R T N av0 w0 sp s a w E → NilS s.sl → wpAnyIn (Fr ρ) 0 P .any ops Q ops.size (Array.replicate ops.size false) a w
  | 0, s, e, h, hn => by
    have e : (none : Option VS) = some sF := e
    simp at e
  | n + 1, s, e, h, hn => by
    have e : (match firstF T lo hi N (ancsM ops.toList []) ops.toList ops.toList 0 s.rs.length [] (startF ops.toList s) with
      | some (.cold l) => match freezes l s with
        | some s' => drawF T lo hi N ops.toList n s'
        | none => none
      | some (.ok W s') => drawW T lo hi N ops.toList (startF ops.toList s) s' s.rs.length W
      | none => none) = some sF := e
    split at e
    · split at e
      case h_2 => simp at e
      rename_i s' hs'
      obtain ⟨h1, h2⟩ := h.freezes hs'
      exact drawF_sound hty hlo hst hQ n e h1 (h2 hn)
    · rename_i W s' hf
      have hlen : ops.toList.length = ops.size := by simp
      have hanc := anc_of ops.toList
      have hsec : ∃ W, (∀ x ∈ W, x.1 < ops.toList.length) ∧ secondF T lo hi N ops.toList (ancsM ops.toList []) W ops.toList (ancsM ops.toList []) 0 s.rs.length (startF ops.toList s) = some sF := by
        unfold drawW at e
        split at e
        · simp only [Option.some.injEq] at e
          subst e
          exact ⟨[], fun x hx => by simp at hx, (firstF_second hf).2 _ hanc.len⟩
        · exact ⟨_, fun x hx => by have := firstF_keys hf (fun x hx => by simp at hx) x hx; omega, e⟩
      obtain ⟨W, hkeys, hsec⟩ := hsec
      obtain ⟨us, h1, h2⟩ := secondF_spec hsec
      unfold staticB at hst
      simp only [Bool.and_eq_true] at hst
      have hO : Open T lo hi N ops.toList (ancsM ops.toList []) W us (startF ops.toList s) s.rs.length := {
        anc := hanc
        below := fun i m hm j hj => by have := belowB_spec hst.2.2 i m hm j hj; omega
        order := fun i o m ho hm => orderB_spec hst.2.1 i o m ho hm
        dist := distB_spec hst.1
        keys := hkeys
        sec := fun k o hk => by
          obtain ⟨m, h3, h4⟩ := h2 k o hk
          rw [Nat.zero_add] at h4
          exact ⟨m, h3, h4⟩ }
      have hR := h.holes (holesN ops.toList)
      have hnil : NilS (startF ops.toList s).sl := hn
      rw [hlen] at h1
      have hget0 : ∀ k, (Array.replicate ops.size false).getD k false = false := fun k => by simp [Array.getD]
      have hS0 : setS us (startF ops.toList s) (fun k => (Array.replicate ops.size false).getD k false) ops.size = startF ops.toList s := by
        rw [setS_congr (L' := fun _ => false) fun k _ => hget0 k]
        have : ∀ n, setS us (startF ops.toList s) (fun _ => false) n = startF ops.toList s := by
          intro n
          induction n with
          | zero => rfl
          | succ n ih => simp only [setS]; exact ih
        exact this _
      refine Open.run hO hty hlo hnil (E0 := E) (fun a' w' E' hkb hR' => hQ a' w' E' ⟨hkb.le, fun q e => hkb.free q (by rw [← h.len]; exact (List.getElem?_eq_some_iff.1 e).1) e⟩ (by rw [h1]; exact hR') (by rw [h1]; exact setS_nil hnil _)) ops.size _ a w (E ++ List.replicate (holesN ops.toList) hole)
        ⟨Env.le_append _ _, fun q _ e => by rw [List.getElem?_append_left (List.getElem?_eq_some_iff.1 e).1]; exact e⟩ (by simp) ?_ ?_ ?_ ?_
      · intro j m _ hj
        simp only [hget0] at hj
        simp at hj
      · rw [hS0]; exact hR
      · intro j o hj _ hmk
        rw [← h.len, List.getElem?_append_right (by omega), List.getElem?_replicate, if_pos]
        have h5 := holesN_take_succ hj
        have h6 := holesN_take_le ops.toList (j := j + 1) (k := ops.toList.length) (List.getElem?_eq_some_iff.1 hj).1
        rw [List.take_length] at h6
        omega
      · rw [Array.toList_replicate, unl_replicate]; exact Nat.le_refl _
    · simp at e
theorem draw_run (hty : TyOK P T) (hl : LoOK T P lo) (hmo : P.follows .mixedOrders = true) (h : R T N av0 w0 sp s a w E) (hn : NilS s.sl) {f : FuncId} {ro : Option Nat} {id : Nat} {ops : Array Oper} {s' : VS} (e : regionF T lo hi N f ro id ops.toList true s = some s')
    {b : Frame} {k : List Item} {cs : List Frame} : ∃ a' w' E', Kept E E' ∧ R T N av0 w0 sp s' a' w' E' ∧ NilS s'.sl ∧ Steps P (lone (b.atR a (.code (.region id ops true) :: k)) cs w) (lone (b.atR a' k) cs w') := by
  unfold regionF at e
  simp only at e
  split at e
  · simp at e
  split at e
  case h_2 => simp at e
  rename_i hst
  split at e
  case h_2 => simp at e
  rename_i s1 hs1
  simp only [Option.some.injEq] at e
  subst e
  have hg : R T N av0 w0 sp s a { w with drawn := w.drawn + 1 } E := h.grown ⟨rfl, rfl, rfl, Nat.le_refl _, fun _ _ => rfl⟩
  have hw := drawF_sound (ρ := b.roundOf) (Q := fun en a' w' => en = .normal ∧ ∃ E', Kept E E' ∧ R T N av0 w0 sp s1 a' w' E' ∧ NilS s1.sl) hty hl hst (fun a' w' E' hk h1 h2 => ⟨rfl, E', hk, h1, h2⟩) 8 hs1 hg hn
  obtain ⟨en, a', w', ⟨rfl, E', hk, h1, h2⟩, harr⟩ := wpIn_region_any (id := id) hmo hw b k cs rfl trivial (room_Fr _ _)
  obtain ⟨h3, h4⟩ := tidyF_R (hi := hi) h1 h2 f id
  exact ⟨a', w', E', hk, h3, h4, StepsIn.steps harr⟩
end
open Go.RowKit
section
variable {P : Program} {T : Tab} {lo : Lo} {hi : Hint} {N : Nat} {av0 : Nat → Prop} {w0 : Kp} {sp : List (D × Value)} {s : VS} {a : Act} {w : World} {E : Env} {f : FuncId} {ro : Option Nat}
def InRound (E : Env) (b : Frame) : Option Nat → Prop
  | none => b.roundOf = none
  | some r => ∃ l sz, b.roundOf = some l ∧ atRoot E r l sz
theorem InRound.mono {E E' : Env} {b : Frame} (hE : Env.le E E') : ∀ {ro : Option Nat}, InRound E b ro → InRound E' b ro
  | none, h => h
  | some r, ⟨l, sz, h1, h2⟩ => ⟨l, sz, h1, hE.at_ h2⟩
def EndAt : Option Code → List Item → Prop
  | none, todo => todo = []
  | some c, todo => (∃ k, c = .ret ∧ todo = .code .ret :: k) ∨ (∃ id k, c = .exit id ∧ todo = .code (.exit id) :: k ∧ exitTo id k = none)
theorem R.loop (h : R T N av0 w0 sp s a w E) {r M : Nat} {g : FuncId} {sl : Slots} {ps : List Tmp} {as bd : Code} {st : LoopState} {pend : Option Code} (hr : s.rs[r]? = some (.loop g M sl ps as bd st pend)) :
    ∃ b hd sz db tm, E[r]? = some (some b, hd, sz) ∧ w.heap[b]? = some (.loop { state := st, pending := pend, fn := g, tmps := tm, params := ps.toArray, assign := as, body := bd, defers := db }) ∧ tm.size = M ∧ SlotsRel E (AV av0 s.rs E) w M sl tm ∧ NilS sl := by
  have hlt : r < E.length := by rw [h.len]; exact (List.getElem?_eq_some_iff.1 hr).1
  have hE := List.getElem?_eq_getElem hlt
  obtain ⟨b, db, tm, q1, q2, q3, q4, q5⟩ := h.roots r _ _ hr hE
  generalize E[r] = e at hE q1
  obtain ⟨e1, e2, e3⟩ := e
  have q1 : e1 = some b := q1
  subst q1
  exact ⟨b, e2, e3, db, tm, hE, q2, q3, q4, q5⟩
theorem R.turnLoop (h : R T N av0 w0 sp s a w E) {r M b sz : Nat} {hd : Value} {g : FuncId} {sl : Slots} {ps : List Tmp} {as bd : Code} {st : LoopState} {pend : Option Code} (hr : s.rs[r]? = some (.loop g M sl ps as bd st pend)) {db : Nat} {tm : Array Value}
    (hE : E[r]? = some (some b, hd, sz)) (hw : w.heap[b]? = some (.loop { state := st, pending := pend, fn := g, tmps := tm, params := ps.toArray, assign := as, body := bd, defers := db })) (hM : tm.size = M) (hsl : SlotsRel E (AV av0 s.rs E) w M sl tm) (hn : NilS sl) (st' : LoopState) (pend' : Option Code) :
    R T N av0 w0 sp { s with rs := setAt s.rs r (.loop g M sl ps as bd st' pend') } a (w.putObj b (.loop { state := st', pending := pend', fn := g, tmps := tm, params := ps.toArray, assign := as, body := bd, defers := db })) E := by
  have hlt : b < w.heap.size := (Array.getElem?_eq_some_iff.1 hw).1
  rw [setAt_eq]
  refine h.turn hr trivial hE (by simp) (fun k hk => World.putObj_heap_other hk) ⟨rfl, rfl, rfl⟩ ⟨b, db, tm, rfl, World.putObj_heap_same hlt, hM, ?_, hn⟩
  refine hsl.mono (Env.le_refl E) ⟨by simp, fun k hk hav => World.putObj_heap_other fun e => ?_⟩ (fun _ _ q => q)
  subst e
  exact hav (.inr ⟨r, _, sz, hr, trivial, hd, hE⟩)
theorem R.kill (h : R T N av0 w0 sp s a w E) {r b sz : Nat} {hd : Value} {x : Root} (hr : s.rs[r]? = some x) (hx : x.live) (hE : E[r]? = some (some b, hd, sz)) (o : Obj) : R T N av0 w0 sp { s with rs := setAt s.rs r .dead } a (w.putObj b o) E := by
  rw [setAt_eq]
  exact h.turn hr hx hE (by simp) (fun k hk => World.putObj_heap_other hk) ⟨rfl, rfl, rfl⟩ trivial
theorem beginF_R (h : R T N av0 w0 sp s a w E) {b : Frame} (hb : InRound E b ro) {s' : VS} (e : beginF ro s = some s') {k : List Item} {cs : List Frame} :
    ∃ w', R T N av0 w0 sp s' a w' E ∧ s'.sl = s.sl ∧ Steps P (lone (b.atR a (.beginRound :: k)) cs w) (lone (b.atR a k) cs w') := by
  unfold beginF at e
  split at e
  case h_2 => simp at e
  rename_i r
  split at e
  case h_2 => simp at e
  rename_i g M sl ps as bd hr
  simp only [Option.some.injEq] at e
  subst e
  rw [nthF_get] at hr
  obtain ⟨l, hd, sz, db, tm, h1, h2, h3, h4, h5⟩ := h.loop hr
  obtain ⟨l', sz', h6, hd', h7⟩ := hb
  rw [h1] at h7
  simp only [Option.some.injEq, Prod.mk.injEq] at h7
  obtain ⟨rfl, rfl, rfl⟩ := h7
  exact ⟨_, h.turnLoop hr h1 h2 h3 h4 h5 .busy none, rfl, .one (stepR_beginRound h6 (run_beginRound h2 rfl))⟩
theorem enterLoop_R (h : R T N av0 w0 sp s a w E) (hn : NilS s.sl) (g : FuncId) (ps : List Tmp) (as bd : Code) :
    R T N av0 w0 sp { s with rs := s.rs ++ [.dfr, .loop g N s.sl ps as bd .ready none], df := s.rs.length :: s.df } { a with defers := [{ target := .collected w.heap.size, args := #[] }] ++ a.defers }
      ((w.alloc (.deferred (some []))).alloc (.loop { state := .ready, pending := none, fn := g, tmps := a.tmps, params := ps.toArray, assign := as, body := bd, defers := w.heap.size }))
      ((E ++ [(some w.heap.size, undef, 1)]) ++ [(some (w.heap.size + 1), undef, 1)]) ∧ atRoot ((E ++ [(some w.heap.size, undef, 1)]) ++ [(some (w.heap.size + 1), undef, 1)]) (s.rs.length + 1) (w.heap.size + 1) 1 := by
  let w1 := w.alloc (.deferred (some []))
  have hs1 : w1.heap.size = w.heap.size + 1 := World.size_alloc ..
  have hold1 : ∀ b, b < w.heap.size → w1.heap[b]? = w.heap[b]? := fun b hb => (below_alloc w _).block b hb
  have h1 := h.new (x := .dfr) (e := (some w.heap.size, undef, 1)) (w' := w1) hs1 hold1 (below_alloc w _) rfl ⟨w.heap.size, rfl, World.alloc_heap_new w _⟩
  let o := Obj.loop { state := .ready, pending := none, fn := g, tmps := a.tmps, params := ps.toArray, assign := as, body := bd, defers := w.heap.size }
  let w2 := w1.alloc o
  have hs2 : w2.heap.size = w1.heap.size + 1 := World.size_alloc ..
  have hold2 : ∀ b, b < w1.heap.size → w2.heap[b]? = w1.heap[b]? := fun b hb => (below_alloc w1 _).block b hb
  have hlen1 : (E ++ [(some w.heap.size, undef, 1)]).length = (s.rs ++ [Root.dfr]).length := h1.len
  have h2 := h1.new (x := .loop g N s.sl ps as bd .ready none) (e := (some w1.heap.size, undef, 1)) (w' := w2) hs2 hold2 (below_alloc w1 _) rfl ⟨w1.heap.size, w.heap.size, a.tmps, rfl, World.alloc_heap_new w1 _, h.size, by
    have hsl : SlotsRel (E ++ [(some w.heap.size, undef, 1)]) (AV av0 (s.rs ++ [Root.dfr]) (E ++ [(some w.heap.size, undef, 1)])) w1 N s.sl a.tmps := h1.slots
    refine hsl.mono (Env.le_append _ _) ⟨by omega, fun b hb _ => hold2 b hb⟩ ?_
    exact h1.av_new, hn⟩
  have e1 : s.rs ++ [Root.dfr, .loop g N s.sl ps as bd .ready none] = (s.rs ++ [Root.dfr]) ++ [.loop g N s.sl ps as bd .ready none] := by simp
  have hw1 : w1.heap.size = w.heap.size + 1 := hs1
  have hat : ∀ F : Env, atRoot ((E ++ [(some w.heap.size, undef, 1)]) ++ F) s.rs.length w.heap.size 1 := fun F => by
    refine ⟨undef, ?_⟩
    rw [List.append_assoc, List.getElem?_append_right (by rw [h.len]; exact Nat.le_refl _)]
    simp [h.len]
  rw [hw1] at h2
  refine ⟨?_, ⟨undef, ?_⟩⟩
  · rw [e1]
    exact ⟨h2.size, .cons ⟨w.heap.size, 1, hat _, rfl⟩ h2.defers, h2.spec, h2.below, h2.len, h2.outer, h2.roots, h2.blk, h2.inj, h2.slots, h2.glob⟩
  · rw [List.getElem?_append_right (by rw [hlen1]; simp)]
    simp [h.len]
theorem resolve_range {g : Operand} {l : Nat} {ρ : Operand → Value} {fid : FuncId} {cs : Array Value} (hg : ρ g = .func (.func fid) #[] cs) (hv : ρ (.const (.func (.yield l) #[] #[])) = .func (.yield l) #[] #[]) (he : Enters P fid) (w : World) :
    ∃ d, (resolve ρ (rangeCall g l) 0).run P w = .ok d w ∧ (invoke d.target d.args).run P w = .ok (.enter fid (#[.func (.yield l) #[] #[]] ++ cs)) w := by
  refine ⟨_, by simp [resolve, hg, Deferred.ofValue, Sem.run_pure]; rfl, ?_⟩
  simp only [invoke]
  have := run_enter he (#[.func (.yield l) #[] #[]] ++ cs) w
  simpa [hv] using this
end
open Go.RowKit
section
variable {P : Program} {T : Tab} {lo : Lo} {hi : Hint} {N : Nat} {av0 : Nat → Prop} {w0 : Kp} {sp : List (D × Value)} {s : VS} {a : Act} {w : World} {E : Env} {f : FuncId} {ro : Option Nat}
theorem rangeF_R (hl : LoOK T P lo) (h : R T N av0 w0 sp s a w E) (hn : NilS s.sl) {b : Frame} (hbf : b.fn = f) (hro : InRound E b ro) {g : Operand} {ps : Array Tmp} {as bd : Code} {j : Option Code} {s' : VS} (e : rangeF lo N f ro g ps.toList as bd s = some (j, s')) {k : List Item} {cs : List Frame} :
    ∃ a' w' E', Kept E E' ∧ R T N av0 w0 sp s' a' w' E' ∧ s'.sl = s.sl ∧ Steps P (lone (b.atR a (.code (.rangeFunc g ps as bd) :: k)) cs w) (lone (b.atR a' (jumpF j k)) cs w') := by
  unfold rangeF at e
  split at e
  · simp at e
  split at e
  case h_2 => simp at e
  rename_i c hc
  split at e
  case h_2 => simp at e
  rename_i hf caps hcal
  split at e
  case h_2 => simp at e
  rename_i d0 rs' hcall
  have hbr : b.roundOf = none := hro
  obtain ⟨h2, hat⟩ := enterLoop_R h hn f ps.toList as bd
  generalize hE2 : ((E ++ [(some w.heap.size, undef, 1)]) ++ [(some (w.heap.size + 1), undef, 1)] : Env) = E2 at h2 hat
  generalize hw2 : ((w.alloc (.deferred (some []))).alloc (.loop { state := .ready, pending := none, fn := f, tmps := a.tmps, params := ps.toList.toArray, assign := as, body := bd, defers := w.heap.size })) = w2 at h2
  have hkE : Kept E E2 := by
    subst hE2
    refine ⟨(Env.le_append _ _).trans (Env.le_append _ _), fun q hq => ?_⟩
    have hlt := (List.getElem?_eq_some_iff.1 hq).1
    rw [List.getElem?_append_left (by simp; omega), List.getElem?_append_left hlt]
    exact hq
  have hev := h2.evF hn (cellF_some hc)
  obtain ⟨cv, hfv, hcv⟩ := calleeC_rel h2 hcal hev
  obtain ⟨hen, hcon⟩ := hl.call _ _ _ _ _ hcall
  have hfv' : a.eval g = .func (.func hf) #[] cv := hfv
  obtain ⟨dd, hres, hinv⟩ := resolve_range (l := w.heap.size + 1) (ρ := a.eval) hfv' rfl hen w2
  have henter : (Instr.enterLoop b.fn a.tmps ps as bd b.roundOf).run P w = .ok (w.heap.size + 1, [{ target := .collected w.heap.size, args := #[] }]) w2 := by
    rw [hbr, hbf, ← hw2]
    exact run_enterLoop_outer _ _ _ _ _
  have hstep := stepR_rangeFunc (k := k) (cs := cs) henter hres hinv
  have hargs : All2 (DRel E2 (AV av0 (s.rs ++ [Root.dfr, .loop f N s.sl ps.toList as bd .ready Option.none]) E2) w2) (.c (.yl (s.rs.length + 1)) :: caps) (.func (.yield (w.heap.size + 1)) #[] #[] :: cv.toList) :=
    .cons ⟨_, _, hat, rfl⟩ hcv
  have hvs : ((Value.func (.yield (w.heap.size + 1)) #[] #[] :: cv.toList : List Value)).toArray = #[.func (.yield (w.heap.size + 1)) #[] #[]] ++ cv := by
    apply Array.ext'; simp
  obtain ⟨en, w3, fr, ⟨v, E3, rfl, hk3, hR3, _⟩, hcomes, hfr, hleave⟩ := hcon N av0 w0 sp s.sl (s.rs.length :: s.df) _ w2 E2 _ h2 hargs (b.atR { a with defers := [{ target := .collected w.heap.size, args := #[] }] ++ a.defers } (.inRangeFunc (w.heap.size + 1) :: k) :: cs)
  rw [hvs] at hcomes
  have hsteps : Steps P (lone (b.atR a (.code (.rangeFunc g ps as bd) :: k)) cs w) (lone (b.atR { a with defers := [{ target := .collected w.heap.size, args := #[] }] ++ a.defers } (.endRangeFunc (w.heap.size + 1) :: k)) cs w3) := by
    refine (Steps.one hstep).trans (Steps.trans hcomes (.one ?_))
    rw [← finish_atR_inRangeFunc (w.heap.size + 1) v]
    exact step_leave_returned hleave
  have fin : ∀ (st : LoopState) (pend : Option Code) (g' : FuncId) (M : Nat) (sl' : Slots) (ps' : List Tmp) (as' bd' : Code), st ≠ .busy → nthF rs' (s.rs.length + 1) = some (.loop g' M sl' ps' as' bd' st pend) →
      ∃ a' w' E', Kept E E' ∧ R T N av0 w0 sp { s with rs := setAt rs' (s.rs.length + 1) .dead, df := s.rs.length :: s.df } a' w' E' ∧ Steps P (lone (b.atR a (.code (.rangeFunc g ps as bd) :: k)) cs w) (lone (b.atR a' (jumpF pend k)) cs w') := by
    intro st pend g' M sl' ps' as' bd' hst hr
    rw [nthF_get] at hr
    obtain ⟨l, hd, sz, db, tm, h1, h3, h4, h5, h6⟩ := hR3.loop hr
    obtain ⟨hd', h7⟩ := hk3.le.at_ hat
    rw [h1] at h7
    simp only [Option.some.injEq, Prod.mk.injEq] at h7
    obtain ⟨rfl, rfl, rfl⟩ := h7
    refine ⟨_, _, E3, hkE.trans hk3, hR3.kill hr trivial h1 (.loop { state := .exhausted, pending := pend, fn := g', tmps := tm, params := ps'.toArray, assign := as', body := bd', defers := db }), hsteps.trans (.one ?_)⟩
    have := stepR_endRangeFunc (P := P) (b := b) (a := { a with defers := [{ target := .collected w.heap.size, args := #[] }] ++ a.defers }) (k := k) (cs := cs) (run_endLoop h3 hst)
    rw [this]
    cases pend <;> rfl
  split at e
  · rename_i hr
    simp only [Option.some.injEq, Prod.mk.injEq] at e
    obtain ⟨rfl, rfl⟩ := e
    obtain ⟨a', w', E', q1, q2, q3⟩ := fin _ _ _ _ _ _ _ _ (by simp) hr
    exact ⟨a', w', E', q1, q2, rfl, q3⟩
  · rename_i c' hr
    simp only [Option.some.injEq, Prod.mk.injEq] at e
    obtain ⟨rfl, rfl⟩ := e
    obtain ⟨a', w', E', q1, q2, q3⟩ := fin _ _ _ _ _ _ _ _ (by simp) hr
    exact ⟨a', w', E', q1, q2, rfl, q3⟩
  · simp at e
theorem runF_sound (hty : TyOK P T) (hl : LoOK T P lo) (hmo : P.follows .mixedOrders = true) {b : Frame} (hbf : b.fn = f) {cs : List Frame} {j : Option Code} {s' : VS} :
    ∀ (n : Nat) {todo : List Item} {s : VS} {a : Act} {w : World} {E : Env}, runF T lo hi N f ro n todo s = some (j, s') → R T N av0 w0 sp s a w E → NilS s.sl → InRound E b ro →
      ∃ a' w' E' todo', Kept E E' ∧ R T N av0 w0 sp s' a' w' E' ∧ NilS s'.sl ∧ EndAt j todo' ∧ Steps P (lone (b.atR a todo) cs w) (lone (b.atR a' todo') cs w')
  | 0, todo, s, a, w, E, e, h, hn, hro => by
    have e : (none : Option (Option Code × VS)) = some (j, s') := e
    simp at e
  | n + 1, todo, s, a, w, E, e, h, hn, hro => by
    have go : ∀ {todo1 : List Item} {s1 : VS} {a1 : Act} {w1 : World} {E1 : Env}, runF T lo hi N f ro n todo1 s1 = some (j, s') → Kept E E1 → R T N av0 w0 sp s1 a1 w1 E1 → NilS s1.sl → Steps P (lone (b.atR a todo) cs w) (lone (b.atR a1 todo1) cs w1) →
        ∃ a' w' E' todo', Kept E E' ∧ R T N av0 w0 sp s' a' w' E' ∧ NilS s'.sl ∧ EndAt j todo' ∧ Steps P (lone (b.atR a todo) cs w) (lone (b.atR a' todo') cs w') := by
      intro todo1 s1 a1 w1 E1 e1 hk h1 hn1 hst
      obtain ⟨a', w', E', todo', q1, q2, q3, q4, q5⟩ := runF_sound hty hl hmo hbf n e1 h1 hn1 (hro.mono hk.le)
      exact ⟨a', w', E', todo', hk.trans q1, q2, q3, q4, hst.trans q5⟩
    have stop : ∀ {todo1 : List Item} {c : Option Code}, some (c, s) = some (j, s') → EndAt c todo → ∃ a' w' E' todo', Kept E E' ∧ R T N av0 w0 sp s' a' w' E' ∧ NilS s'.sl ∧ EndAt j todo' ∧ Steps P (lone (b.atR a todo) cs w) (lone (b.atR a' todo') cs w') := by
      intro todo1 c e1 he
      simp only [Option.some.injEq, Prod.mk.injEq] at e1
      obtain ⟨rfl, rfl⟩ := e1
      exact ⟨a, w, E, todo, Kept.refl E, h, hn, he, Steps.refl _ _⟩
    cases todo with
    | nil => exact stop (todo1 := []) e rfl
    | cons x k =>
      cases x with
      | inBlock id => exact go (todo1 := k) (s1 := s) e (Kept.refl E) h hn (.one stepR_inBlock)
      | inLoop c => exact go (todo1 := .code c :: .inLoop c :: k) (s1 := s) e (Kept.refl E) h hn (.one stepR_inLoop)
      | beginRound =>
        have e : (match beginF ro s with
          | some s' => runF T lo hi N f ro n k s'
          | none => none) = some (j, s') := e
        split at e
        case h_2 => simp at e
        rename_i s1 hs1
        obtain ⟨w', h1, h2, h3⟩ := beginF_R h hro hs1
        exact go e (Kept.refl E) h1 (by rw [h2]; exact hn) h3
      | code c =>
        cases c with
        | skip => exact go (todo1 := k) (s1 := s) e (Kept.refl E) h hn (.one stepR_skip)
        | label l => exact go (todo1 := k) (s1 := s) e (Kept.refl E) h hn (.one stepR_label)
        | ret => exact stop (todo1 := []) (c := some .ret) e (.inl ⟨k, rfl, rfl⟩)
        | seq x y => exact go (todo1 := .code x :: .code y :: k) (s1 := s) e (Kept.refl E) h hn (.one stepR_seq)
        | cond c x y =>
          have e : (match boolF (evF s.sl c) with
            | some p => runF T lo hi N f ro n (.code (Bool.rec y x p) :: k) s
            | none => none) = some (j, s') := e
          split at e
          case h_2 => simp at e
          rename_i p hp
          have hv : a.eval c = .bool p := (h.evF hn (boolF_some hp)).1
          refine go e (Kept.refl E) h hn ?_
          have := Steps.one (stepR_cond (P := P) (b := b) (k := k) (cs := cs) (w := w) (x := x) (y := y) hv)
          cases p <;> exact this
        | block id c => exact go (todo1 := .code c :: .inBlock id :: k) (s1 := s) e (Kept.refl E) h hn (.one stepR_block)
        | loop c => exact go (todo1 := .code c :: .inLoop c :: k) (s1 := s) e (Kept.refl E) h hn (.one stepR_loop)
        | exit id =>
          have e : (match exitTo id k with
            | some k' => runF T lo hi N f ro n k' s
            | none => some (some (.exit id), s)) = some (j, s') := e
          split at e
          · rename_i k' hk'
            exact go e (Kept.refl E) h hn (.one (stepR_exit hk'))
          · rename_i hk'
            exact stop (todo1 := []) e (.inr ⟨id, k, rfl, rfl, hk'⟩)
        | region id ops draw =>
          have e0 : (match regionF T lo hi N f ro id ops.toList draw s with
            | some s' => runF T lo hi N f ro n k s'
            | none => none) = some (j, s') := e
          clear e
          cases hs1 : regionF T lo hi N f ro id ops.toList draw s with
          | none => rw [hs1] at e0; simp at e0
          | some s1 =>
          rw [hs1] at e0
          have e : runF T lo hi N f ro n k s1 = some (j, s') := e0
          clear e0
          cases draw with
          | false =>
            obtain ⟨a', w', E', q1, q2, q3, q4⟩ := region_run (b := b) (k := k) (cs := cs) hty hl h hn hs1
            exact go e q1 q2 q3 q4
          | true =>
            obtain ⟨a', w', E', q1, q2, q3, q4⟩ := draw_run (b := b) (k := k) (cs := cs) hty hl hmo h hn hs1
            exact go e q1 q2 q3 q4
        | rangeFunc g ps as bd =>
          have e : (match rangeF lo N f ro g ps.toList as bd s with
            | some (j, s') => runF T lo hi N f ro n (jumpF j k) s'
            | none => none) = some (j, s') := e
          split at e
          case h_2 => simp at e
          rename_i j1 s1 hs1
          obtain ⟨a', w', E', q1, q2, q3, q4⟩ := rangeF_R (k := k) (cs := cs) hl h hn hbf hro hs1
          exact go e q1 q2 (by rw [q3]; exact hn) q4
        | _ =>
          have e : (none : Option (Option Code × VS)) = some (j, s') := e
          simp at e
      | _ =>
        have e : (none : Option (Option Code × VS)) = some (j, s') := e
        simp at e
end
open Go.RowKit
section
variable {P : Program} {T : Tab} {lo : Lo} {hi : Hint} {N : Nat} {av0 : Nat → Prop} {w0 : Kp} {sp : List (D × Value)} {s : VS} {a : Act} {w : World} {E : Env} {f : FuncId} {ro : Option Nat}
def resRel (E : Env) (av : Nat → Prop) (w : World) (x : Bool × List C) (y : Value) : Prop := match x with
  | (true, l) => ∃ cs : Array Value, y = .agg cs ∧ All2 (CRel E av w) l cs.toList
  | (false, l) => ∃ c, l = [c] ∧ CRel E av w c y
def resRun (tmps : Array Value) : ResultVar → Sem Value
  | .tmp t => pure (tmps.getD t undef)
  | .cell a t => do loadVar t (← asAddr (tmps.getD a undef))
theorem resOne_sound (hty : TyOK P T) (h : R T N av0 w0 sp s a w E) {x : ResultVar} {p : Option Prop} {q : Bool × List C} (e : resOne T s x = some (p, q)) (hp : need p) :
    ∃ v, (resRun a.tmps x).run P w = .ok v w ∧ resRel E (AV av0 s.rs E) w q v := by
  have nil : CondsHold a [] := fun p hp => by cases hp
  cases x with
  | tmp t =>
    simp only [resOne] at e
    split at e
    · rename_i x hx
      have hx := h.ev nil hx
      simp only [Option.some.injEq, Prod.mk.injEq] at e
      obtain ⟨rfl, rfl⟩ := e
      exact ⟨_, rfl, x, rfl, hx⟩
    · rename_i l hx
      obtain ⟨cs, hv, hl⟩ := h.ev nil hx
      simp only [Option.some.injEq, Prod.mk.injEq] at e
      obtain ⟨rfl, rfl⟩ := e
      exact ⟨_, rfl, cs, hv, hl⟩
    · simp at e
  | cell ad t =>
    simp only [resOne] at e
    have run : ∀ v, (Instr.loadAt t (a.eval (.tmp ad))).run P w = .ok v w → (resRun a.tmps (.cell ad t)).run P w = .ok v w := by
      intro v hv
      have he : a.eval (.tmp ad) = a.tmps.getD ad undef := rfl
      rw [he] at hv
      unfold resRun
      cases hu : a.tmps.getD ad undef <;> rw [hu] at hv <;> simp [Instr.loadAt, Instr.sureAddr, stuck] at hv
      rename_i oa
      cases oa with
      | none => simp at hv
      | some x =>
        simp only [hu, asAddr, Sem.run_bind]
        exact hv
    split at e
    · rename_i p' x hx
      simp only [Option.some.injEq, Prod.mk.injEq] at e
      obtain ⟨rfl, rfl⟩ := e
      obtain ⟨v, h1, h2⟩ := load_sound hty h nil hx hp
      exact ⟨v, run v (h1 w (Below.refl _ _)), x, rfl, h2⟩
    · rename_i p' l hx
      simp only [Option.some.injEq, Prod.mk.injEq] at e
      obtain ⟨rfl, rfl⟩ := e
      obtain ⟨v, h1, cs, h2, h3⟩ := load_sound hty h nil hx hp
      exact ⟨v, run v (h1 w (Below.refl _ _)), cs, h2, h3⟩
    · simp at e
theorem resAll_sound (hty : TyOK P T) (h : R T N av0 w0 sp s a w E) : ∀ {rs : List ResultVar} {p : Option Prop} {l : List (Bool × List C)}, resAll T s rs = some (p, l) → need p →
    ∃ vs, (rs.mapM (resRun a.tmps)).run P w = .ok vs w ∧ All2 (resRel E (AV av0 s.rs E) w) l vs
  | [], p, l, e, hp => by
    simp only [resAll, Option.some.injEq, Prod.mk.injEq] at e
    obtain ⟨rfl, rfl⟩ := e
    exact ⟨[], rfl, .nil⟩
  | x :: rs, p, l, e, hp => by
    simp only [resAll] at e
    split at e
    · rename_i p1 q p2 l' h1 h2
      simp only [Option.some.injEq, Prod.mk.injEq] at e
      obtain ⟨rfl, rfl⟩ := e
      have hp' : need p1 ∧ need p2 := by
        cases p1 <;> cases p2 <;> simp_all [bothP, need]
      obtain ⟨v, h3, h4⟩ := resOne_sound hty h h1 hp'.1
      obtain ⟨vs, h5, h6⟩ := resAll_sound hty h h2 hp'.2
      refine ⟨v :: vs, ?_, .cons h4 h6⟩
      rw [List.mapM_cons]
      simp only [Sem.run_bind, h3, Result.andThen_ok, h5, Sem.run_pure]
    · simp at e
theorem results_sound (hty : TyOK P T) (h : R T N av0 w0 sp s a w E) {fn : Func} {p : Option Prop} {d : D} (e : resD T s fn.results.toList = some (p, d)) (hp : need p) :
    ∃ v, (results fn a.tmps).run P w = .ok v w ∧ DRel E (AV av0 s.rs E) w d v := by
  have run : ∀ vs, (fn.results.toList.mapM (resRun a.tmps)).run P w = .ok vs w → (results fn a.tmps).run P w = .ok (if h : vs.toArray.size = 1 then vs.toArray[0] else .tuple vs.toArray) w := by
    intro vs hvs
    have hm : (fn.results.mapM (resRun a.tmps)).run P w = .ok vs.toArray w := by
      have hgs : fn.results = fn.results.toList.toArray := rfl
      rw [hgs, List.mapM_toArray]
      simp only [Sem.run_map, hvs, Result.andThen_ok]
    show ((do let vs ← fn.results.mapM (resRun a.tmps); pure (if h : vs.size = 1 then vs[0] else .tuple vs)) : Sem Value).run P w = _
    rw [Sem.run_bind, hm]
    rfl
  unfold resD at e
  split at e
  · rename_i p' x hx
    simp only [Option.some.injEq, Prod.mk.injEq] at e
    obtain ⟨rfl, rfl⟩ := e
    obtain ⟨vs, h1, h2⟩ := resAll_sound hty h hx hp
    cases h2 with
    | cons q1 q2 =>
      cases q2
      obtain ⟨c, hc, q⟩ := q1
      simp only [List.cons.injEq, and_true] at hc
      subst hc
      exact ⟨_, run _ h1, q⟩
  · rename_i p' l hx
    simp only [Option.some.injEq, Prod.mk.injEq] at e
    obtain ⟨rfl, rfl⟩ := e
    obtain ⟨vs, h1, h2⟩ := resAll_sound hty h hx hp
    cases h2 with
    | cons q1 q2 => cases q2; exact ⟨_, run _ h1, q1⟩
  · rename_i p' l hne1 hne2 hx
    simp only [Option.some.injEq, Prod.mk.injEq] at e
    obtain ⟨rfl, rfl⟩ := e
    obtain ⟨vs, h1, h2⟩ := resAll_sound hty h hx hp
    refine ⟨_, run vs h1, ?_⟩
    have hlen : vs.length ≠ 1 := by
      intro hl
      have := h2.length
      rw [hl] at this
      match l, this with
      | [(true, l)], _ => exact hne2 _ rfl
      | [(false, k)], _ =>
        cases h2 with
        | cons q1 q2 =>
          obtain ⟨c, hc, _⟩ := q1
          exact hne1 _ (by rw [hc])
    rw [dif_neg (by simpa using hlen)]
    exact ⟨_, rfl, h2⟩
  · simp at e
theorem argSlots_look : ∀ {ds : List D} {k t : Nat} {d : D} {c : Cond}, look (argSlots k ds) t = some (d, c) → c = [] ∧ k ≤ t ∧ ds[t - k]? = some d
  | [], k, t, d, c, h => by simp [argSlots, look] at h
  | x :: ds, k, t, d, c, h => by
    simp only [argSlots, look] at h
    split at h
    · rename_i he
      have he := of_beq he
      simp only [Option.some.injEq, Prod.mk.injEq] at h
      obtain ⟨rfl, rfl⟩ := h
      subst he
      exact ⟨rfl, Nat.le_refl _, by simp⟩
    · obtain ⟨h1, h2, h3⟩ := argSlots_look h
      refine ⟨h1, by omega, ?_⟩
      rw [show t - k = (t - (k + 1)) + 1 by omega]
      simpa using h3
theorem argSlots_nil : ∀ {ds : List D} {k : Nat}, NilS (argSlots k ds)
  | [], k, x, hx => by simp [argSlots] at hx
  | d :: ds, k, x, hx => by
    simp only [argSlots] at hx
    rcases List.mem_cons.1 hx with rfl | hx
    · rfl
    · exact argSlots_nil x hx
theorem resOneF_one (hn : NilS s.sl) {x : ResultVar} {q : Bool × List C} (e : resOneF T s x = some q) : ∃ p, resOne T s x = some (p, q) ∧ need p := by
  unfold resOneF at e
  cases x with
  | tmp t =>
    simp only at e
    simp only [resOne]
    split at e
    · rename_i c hc
      have : s.ev [] (.tmp t) = some (.c c) := evF_ev (x := .tmp t) hn hc
      rw [this]
      simp only [Option.some.injEq] at e
      subst e; exact ⟨_, rfl, trivial⟩
    · rename_i l hc
      have : s.ev [] (.tmp t) = some (.a l) := evF_ev (x := .tmp t) hn hc
      rw [this]
      simp only [Option.some.injEq] at e
      subst e; exact ⟨_, rfl, trivial⟩
    · simp at e
  | cell ad t =>
    simp only at e
    simp only [resOne]
    split at e
    · rename_i c hc
      obtain ⟨p, h1, h2⟩ := loadF_pure hn hc
      rw [h1]
      simp only [Option.some.injEq] at e
      subst e; exact ⟨p, rfl, h2⟩
    · rename_i l hc
      obtain ⟨p, h1, h2⟩ := loadF_pure hn hc
      rw [h1]
      simp only [Option.some.injEq] at e
      subst e; exact ⟨p, rfl, h2⟩
    · simp at e
theorem resAllF_all (hn : NilS s.sl) : ∀ {l : List ResultVar} {q : List (Bool × List C)}, resAllF T s l = some q → ∃ p, resAll T s l = some (p, q) ∧ need p
  | [], q, e => by
    have e : some [] = some q := e
    simp only [Option.some.injEq] at e
    subst e; exact ⟨_, rfl, trivial⟩
  | x :: l, q, e => by
    have e : (match resOneF T s x, resAllF T s l with
      | some q, some l => some (q :: l)
      | _, _ => none) = some q := e
    split at e
    case h_2 => simp at e
    rename_i h1 h2
    simp only [Option.some.injEq] at e
    subst e
    obtain ⟨p1, k1, k2⟩ := resOneF_one hn h1
    obtain ⟨p2, k3, k4⟩ := resAllF_all hn h2
    refine ⟨bothP p1 p2, by simp only [resAll, k1, k3], ?_⟩
    cases p1 <;> cases p2 <;> simp_all [bothP, need]
theorem resF_D (hn : NilS s.sl) {l : List ResultVar} {d : D} (e : resF T s l = some d) : ∃ p, resD T s l = some (p, d) ∧ need p := by
  unfold resF at e
  unfold resD
  split at e
  · rename_i h1
    obtain ⟨p, k1, k2⟩ := resAllF_all hn h1
    rw [k1]
    simp only [Option.some.injEq] at e
    subst e; exact ⟨p, rfl, k2⟩
  · rename_i h1
    obtain ⟨p, k1, k2⟩ := resAllF_all hn h1
    rw [k1]
    simp only [Option.some.injEq] at e
    subst e; exact ⟨p, rfl, k2⟩
  · rename_i l' h1 h2 h3
    obtain ⟨p, k1, k2⟩ := resAllF_all hn h3
    rw [k1]
    simp only [Option.some.injEq] at e
    subst e
    refine ⟨p, ?_, k2⟩
    split
    · rename_i h4; simp only [Option.some.injEq, Prod.mk.injEq] at h4; exact (h1 _ h4.2).elim
    · rename_i h4; simp only [Option.some.injEq, Prod.mk.injEq] at h4; exact (h2 _ h4.2).elim
    · rename_i h4; simp only [Option.some.injEq, Prod.mk.injEq] at h4; obtain ⟨rfl, rfl⟩ := h4; rfl
    · rename_i h4; simp at h4
  · simp at e
open Classical in
noncomputable def spOf (sl : Slots) (a : Act) : List (D × Value) := sl.filterMap fun x => if look sl x.1 = some x.2 ∧ CondsHold a x.2.2 then some (x.2.1, a.tmps.getD x.1 undef) else none
theorem look_mem : ∀ {sl : Slots} {t : Tmp} {x : D × Cond}, look sl t = some x → (t, x) ∈ sl
  | [], t, x, h => by simp [look] at h
  | (k, d, c) :: sl, t, x, h => by
    simp only [look] at h
    split at h
    · rename_i hb
      simp only [Option.some.injEq] at h
      rw [← of_beq hb, ← h]
      exact List.mem_cons_self ..
    · exact List.mem_cons_of_mem _ (look_mem h)
theorem spOf_mem {sl : Slots} {t : Tmp} {d : D} {c : Cond} (hl : look sl t = some (d, c)) (hc : CondsHold a c) : (d, a.tmps.getD t undef) ∈ spOf sl a := by
  unfold spOf
  rw [List.mem_filterMap]
  refine ⟨(t, d, c), look_mem hl, ?_⟩
  rw [if_pos ⟨hl, hc⟩]
theorem spOf_rel (h : R T N av0 w0 sp s a w E) : ∀ x ∈ spOf s.sl a, DRel E (AV av0 s.rs E) w x.1 x.2 := by
  intro x hx
  unfold spOf at hx
  rw [List.mem_filterMap] at hx
  obtain ⟨⟨t, d, c⟩, h1, h2⟩ := hx
  split at h2
  · rename_i h3
    simp only [Option.some.injEq] at h2
    subst h2
    exact (h.slots t d c h3.1).2.1 h3.2
  · simp at h2
theorem R.deeper {sl : Slots} {rs : List Root} {df : List Nat} (h : R T N av0 w0 sp ⟨sl, rs, df⟩ a w E) {M : Nat} {sl1 : Slots} {tm : Array Value} (hM : tm.size = M)
    (hs : SlotsRel E (AV av0 rs E) w M sl1 tm) : R T M av0 w0 (spOf sl a ++ sp) ⟨sl1, rs, []⟩ { tmps := tm, defers := [] } w E :=
  ⟨hM, .nil, fun x hx => (List.mem_append.1 hx).elim (fun q => spOf_rel h x q) (h.spec x), h.below, h.len, h.outer, h.roots, h.blk, h.inj, hs, h.glob⟩
theorem R.back {sl : Slots} {rs : List Root} {df : List Nat} (h : R T N av0 w0 sp ⟨sl, rs, df⟩ a w E) {M : Nat} {s' : VS} {a' : Act} {w' : World} {E' : Env} (h' : R T M av0 w0 (spOf sl a ++ sp) s' a' w' E') (hE : Env.le E E') :
    R T N av0 w0 sp ⟨sl, s'.rs, df⟩ a w' E' :=
  ⟨h.size, h.defers.mono fun _ _ ⟨b, sz, q, e⟩ => ⟨b, sz, hE.at_ q, e⟩, fun x hx => h'.spec x (List.mem_append_right _ hx), h'.below, h'.len, h'.outer, h'.roots, h'.blk, h'.inj, fun t d c hl =>
    ⟨(h.slots t d c hl).1, fun hc => h'.spec _ (List.mem_append_left _ (spOf_mem hl hc)), (h.slots t d c hl).2.2⟩, h'.glob⟩
theorem take_run {cs : List Frame} : ∀ (l : List Nat) {sl : Slots} {rs rs1 : List Root} {a : Act} {w : World} {fr : Frame}, takeF l rs = some rs1 → R T N av0 w0 sp ⟨sl, rs, l⟩ a w E → fr.mode = .returning → fr.defers = a.defers →
    ∃ w', R T N av0 w0 sp ⟨sl, rs1, []⟩ { a with defers := [] } w' E ∧ Steps P (lone fr cs w) (lone { fr with defers := [] } cs w')
  | [], sl, rs, rs1, a, w, fr, e, h, hm, hd => by
    have e : some rs = some rs1 := e
    simp only [Option.some.injEq] at e
    subst e
    have hnil : a.defers = [] := by
      have := h.defers
      generalize a.defers = l at this
      cases this; rfl
    have ha : ({ a with defers := [] } : Act) = a := by rw [← hnil]
    have hf : ({ fr with defers := [] } : Frame) = fr := by rw [← hnil, ← hd]
    rw [ha, hf]
    exact ⟨w, h, Steps.refl _ _⟩
  | r :: l, sl, rs, rs1, a, w, fr, e, h, hm, hd => by
    have e : (match nthF rs r with
      | some .dfr => takeF l (setAt rs r .dead)
      | _ => none) = some rs1 := e
    split at e
    case h_2 => simp at e
    rename_i hr
    rw [nthF_get] at hr
    have hdf := h.defers
    generalize hads : a.defers = ads at hdf
    cases hdf with
    | cons h1 h2 =>
      rename_i d ds
      obtain ⟨b, sz, ⟨hd', hE⟩, rfl⟩ := h1
      obtain ⟨b', h3, h4⟩ := h.roots r _ _ hr hE
      have h3 : some b = some b' := h3
      simp only [Option.some.injEq] at h3
      subst h3
      have hk := h.kill hr trivial hE (.deferred none)
      have hR : R T N av0 w0 sp ⟨sl, setAt rs r .dead, l⟩ { a with defers := ds } (w.putObj b (.deferred none)) E :=
        ⟨hk.size, h2, hk.spec, hk.below, hk.len, hk.outer, hk.roots, hk.blk, hk.inj, hk.slots, hk.glob⟩
      have hst := step_collected (P := P) (cs := cs) (fr := fr) (by rw [hm]; simp) (hd.trans hads) rfl (run_takeDeferred h4)
      obtain ⟨w', q1, q2⟩ := take_run l (fr := { fr with defers := [] ++ ds }) e hR hm rfl
      exact ⟨w', q1, (Steps.one hst).trans q2⟩
def FunOK (P : Program) (F : FuncId → Option Func) : Prop := ∀ f fn, F f = some fn → P.funcs[f]? = some fn ∧ (fn.name == "runtime.NumGoroutine") = false
theorem bodyS_sound (hty : TyOK P T) (hmo : P.follows .mixedOrders = true) {F : FuncId → Option Func} (hF : FunOK P F) (hl : LoOK T P lo) {fuel : Nat} {ds : List D} {rs rs' : List Root} {d : D} (e : bodyS T hi F fuel lo f ds rs = some (d, rs')) :
    Enters P f ∧ ∀ (N : Nat) (av0 : Nat → Prop) (w0 : Kp) (sp : List (D × Value)) (sl : Slots) (df : List Nat) (a : Act) (w : World) (E : Env) (vs : List Value), R T N av0 w0 sp ⟨sl, rs, df⟩ a w E → All2 (DRel E (AV av0 rs E) w) ds vs →
    Go.Calls P f vs.toArray w fun e w' => ∃ v E', e = .returned v ∧ Kept E E' ∧ R T N av0 w0 sp ⟨sl, rs', df⟩ a w' E' ∧ DRel E' (AV av0 rs' E') w' d v := by
  unfold bodyS at e
  split at e
  case h_2 => simp at e
  rename_i fn hfn
  split at e
  case h_2 => simp at e
  rename_i c hc
  obtain ⟨hlen, e⟩ := Bool.rec_some e
  have hlen := of_ble hlen
  split at e
  case h_2 => simp at e
  rename_i j s hrun
  obtain ⟨hret, e⟩ := Bool.rec_some e
  unfold endF at e
  split at e
  case h_2 => simp at e
  rename_i rs1 htake
  split at e
  case h_2 => simp at e
  rename_i d1 hres
  simp only [Option.some.injEq, Prod.mk.injEq] at e
  obtain ⟨rfl, rfl⟩ := e
  obtain ⟨hf, hname⟩ := hF f fn hfn
  refine ⟨⟨fn, hf, hname, by simp [hc]⟩, ?_⟩
  intro N av0 w0 sp sl df a w E vs h hv cs
  let b : Frame := { (default : Frame) with fn := f, kind := .normal, roundOf := none }
  let tm := vs.toArray ++ Array.replicate (fn.ntmps - vs.toArray.size) undef
  have hvl := hv.length
  have henter : Frame.enter P f vs.toArray .normal = b.atR { tmps := tm, defers := [] } [.code c] := by
    simp [Frame.enter, Frame.atR, hf, hc, b, tm]
  have htm : tm.size = fn.ntmps := by simp only [tm, Array.size_append, Array.size_replicate, List.size_toArray]; omega
  have hR := h.deeper (M := fn.ntmps) (sl1 := argSlots 0 ds) (tm := tm) htm (fun t d' c' hl => by
    obtain ⟨rfl, _, h2⟩ := argSlots_look hl
    simp only [Nat.sub_zero] at h2
    have ht : t < ds.length := (List.getElem?_eq_some_iff.1 h2).1
    obtain ⟨v, h3, h4⟩ := hv.nth (i := t) (x := d') (by rw [nth_eq]; exact h2)
    refine ⟨Nat.lt_of_lt_of_le ht hlen, fun _ => ?_, fun q => (q fun p hp => by cases hp).elim⟩
    have hg : tm.getD t undef = v := by
      have htv : t < vs.length := by rw [← hvl]; exact ht
      have : vs[t]? = some v := h3
      simp only [tm]
      rw [Array.getD_eq_getD_getElem?, Array.getElem?_append_left (by simpa using htv)]
      simp [this]
    rw [hg]
    exact h4)
  obtain ⟨a', w1, E', todo', hk, hR', hn', hend, hsteps⟩ := runF_sound (hi := hi) (ro := none) (b := b) (cs := cs) hty hl hmo rfl fuel hrun hR argSlots_nil rfl
  have hback : Steps P (lone (b.atR a' todo') cs w1) (lone { b.atR a' todo' with mode := .returning } cs w1) := by
    cases j with
    | none =>
      have hend : todo' = [] := hend
      subst hend
      exact .one (stepR_end rfl)
    | some c' =>
      rcases hend with ⟨k, rfl, rfl⟩ | ⟨id, k, rfl, _, _⟩
      · exact .one (stepR_ret rfl)
      · simp [retB] at hret
  have hR'' : R T fn.ntmps av0 w0 (spOf sl a ++ sp) ⟨s.sl, s.rs, s.df⟩ a' w1 E' := hR'
  obtain ⟨w2, hR2, hst2⟩ := take_run (P := P) (cs := cs) s.df (fr := { b.atR a' todo' with mode := .returning }) htake hR'' rfl rfl
  obtain ⟨pr, hpr1, hpr2⟩ := resF_D (s := ⟨s.sl, rs1, []⟩) hn' hres
  obtain ⟨v, hrv, hdv⟩ := results_sound hty hR2 hpr1 hpr2
  refine ⟨.returned v, w2, { { b.atR a' todo' with mode := .returning } with defers := [] }, ⟨v, E', rfl, hk, h.back hR2 hk.le, hdv⟩, ?_, rfl, rfl, rfl, rfl, fn, hf, hrv⟩
  rw [henter]
  exact (hsteps.trans hback).trans hst2
theorem callS_sound (hty : TyOK P T) (hmo : P.follows .mixedOrders = true) {F : FuncId → Option Func} (hF : FunOK P F) {Kn : FuncId → Option D} (hKn : ∀ f d, Kn f = some d → Enters P f ∧ Pure1 T P f [] d) (hl : LoOK T P lo) {fuel : Nat} {ds : List D} {rs rs' : List Root} {d : D}
    (e : callS T hi F Kn fuel lo f ds rs = some (d, rs')) :
    Enters P f ∧ ∀ (N : Nat) (av0 : Nat → Prop) (w0 : Kp) (sp : List (D × Value)) (sl : Slots) (df : List Nat) (a : Act) (w : World) (E : Env) (vs : List Value), R T N av0 w0 sp ⟨sl, rs, df⟩ a w E → All2 (DRel E (AV av0 rs E) w) ds vs →
    Go.Calls P f vs.toArray w fun e w' => ∃ v E', e = .returned v ∧ Kept E E' ∧ R T N av0 w0 sp ⟨sl, rs', df⟩ a w' E' ∧ DRel E' (AV av0 rs' E') w' d v := by
  unfold callS at e
  split at e
  · rename_i d0 hd0
    split at e
    case h_2 => simp at e
    simp only [Option.some.injEq, Prod.mk.injEq] at e
    obtain ⟨rfl, rfl⟩ := e
    obtain ⟨h1, h2⟩ := hKn f _ hd0
    refine ⟨h1, ?_⟩
    intro N av0 w0 sp sl df a w E vs h hv
    cases hv
    have avlt : ∀ b, AV av0 rs E b → b < w.heap.size := by
      rintro b (q | ⟨r, x, sz, q1, q2, q3⟩)
      · exact h.outer_lt q
      · exact (h.blk r x b sz q1 q2 q3).2
    refine (h2 (AV av0 rs E) w [] avlt h.glob .nil).mono ?_
    rintro en w' ⟨v, rfl, hd, hb⟩
    exact ⟨v, E, rfl, Kept.refl E, h.grown hb, DRel.mono (fun r e q => by simp at q) (Keeps.refl _ w') (fun b _ q => q) hd⟩
  · exact bodyS_sound hty hmo hF hl e
theorem setP_R {rs : List Root} {tms : Array Value → Array Value} : ∀ {ps : List Tmp} {ds : List D} {vs : List Value} {sl sl' : Slots} {tm : Array Value}, setP N ps ds sl = some sl' → R T N av0 w0 sp ⟨sl, rs, []⟩ { tmps := tm, defers := [] } w E → NilS sl →
    All2 (DRel E (AV av0 rs E) w) ds vs → ps.length = vs.length ∧ R T N av0 w0 sp ⟨sl', rs, []⟩ { tmps := (ps.zip vs).foldl (fun tmps x => tmps.setIfInBounds x.1 x.2) tm, defers := [] } w E ∧ NilS sl'
  | [], [], vs, sl, sl', tm, e, h, hn, hv => by
    have e : some sl = some sl' := e
    simp only [Option.some.injEq] at e
    subst e
    cases hv
    exact ⟨rfl, h, hn⟩
  | [], d :: ds, vs, sl, sl', tm, e, h, hn, hv => by
    have e : (none : Option Slots) = some sl' := e
    simp at e
  | t :: ps, [], vs, sl, sl', tm, e, h, hn, hv => by
    have e : (none : Option Slots) = some sl' := e
    simp at e
  | t :: ps, d :: ds, vs, sl, sl', tm, e, h, hn, hv => by
    obtain ⟨ht, e⟩ := Bool.rec_some (show (Bool.rec none (setP N ps ds ((t, d, []) :: sl)) (Nat.blt t N) : Option Slots) = some sl' from e)
    cases hv with
    | cons q k =>
      rename_i v vs
      have hp : putF N ⟨sl, rs, []⟩ (some t) d = some ⟨(t, d, []) :: sl, rs, []⟩ := by
        unfold putF; simp only [ht]
      obtain ⟨h1, h2⟩ := putF_R h hn hp q
      obtain ⟨h3, h4, h5⟩ := setP_R (tms := tms) e h1 h2 k
      exact ⟨by simp [h3], h4, h5⟩
theorem yldS_sound (hty : TyOK P T) (hmo : P.follows .mixedOrders = true) (hl : LoOK T P lo) {fuel r : Nat} {ds : List D} {rs rs' : List Root} {d : D} (e : yldS T hi fuel lo r ds rs = some (d, rs')) :
    ∀ (N : Nat) (av0 : Nat → Prop) (w0 : Kp) (sp : List (D × Value)) (sl : Slots) (df : List Nat) (a : Act) (w : World) (E : Env) (vs : List Value), R T N av0 w0 sp ⟨sl, rs, df⟩ a w E → All2 (DRel E (AV av0 rs E) w) ds vs →
    ∃ b sz f tm as bd, atRoot E r b sz ∧ (Instr.yield b vs.toArray).run P w = .ok (.round b f tm as bd) w ∧
      RoundS P b f tm as bd w fun v w' => ∃ E', Kept E E' ∧ R T N av0 w0 sp ⟨sl, rs', df⟩ a w' E' ∧ DRel E' (AV av0 rs' E') w' d v := by
  intro N av0 w0 sp sl df a w E vs h hv
  unfold yldS at e
  split at e
  case h_2 => simp at e
  rename_i g M sl0 ps as bd hr
  split at e
  case h_2 => simp at e
  rename_i sl1 hsl1
  split at e
  case h_2 => simp at e
  rename_i j s hrun
  rw [nthF_get] at hr
  obtain ⟨l, hd, sz, db, tm, h1, h2, h3, h4, h5⟩ := h.loop hr
  have hR := h.deeper (M := M) (sl1 := sl0) (tm := tm) h3 h4
  obtain ⟨hlen, hR1, hn1⟩ := setP_R (tms := id) hsl1 hR h5 hv
  have hy := run_yield (P := P) (args := vs.toArray) h2 (by simp [hlen])
  refine ⟨l, sz, g, _, as, bd, ⟨hd, h1⟩, hy, ?_⟩
  have htm : (Array.foldl (fun tmps x => match x with
      | (t, a) => tmps.setIfInBounds t a) tm (ps.toArray.zip vs.toArray)) = (ps.zip vs).foldl (fun tmps x => tmps.setIfInBounds x.1 x.2) tm := by
    simp
  intro c cs
  simp only at htm ⊢
  rw [htm]
  let b : Frame := { (default : Frame) with fn := g, kind := .normal, roundOf := some l }
  have hb0 : ∀ tm, Frame.round l g tm as bd .normal = b.atR { tmps := tm, defers := [] } [.code as, .beginRound, .code bd] := fun tm => by
    simp [Frame.round, Frame.atR, b]
  rw [hb0]
  obtain ⟨a', w1, E', todo', hk, hR', hn', hend, hsteps⟩ := runF_sound (hi := hi) (ro := some r) (b := b) (cs := c :: cs) hty hl hmo rfl fuel hrun hR1 hn1 ⟨l, sz, rfl, hd, h1⟩
  unfold roundF at e
  split at e
  case h_2 => simp at e
  split at e
  case h_2 => simp at e
  rename_i g' M' sl' ps' as' bd' hr'
  rw [nthF_get] at hr'
  obtain ⟨l', hd', sz', db', tm', q1, q2, q3, q4, q5⟩ := hR'.loop hr'
  have hE' := hk.le r _ h1 (by simp [hole])
  rw [hE'] at q1
  simp only [Option.some.injEq, Prod.mk.injEq] at q1
  obtain ⟨rfl, rfl, rfl⟩ := q1
  cases j with
  | none =>
    simp only [Option.some.injEq, Prod.mk.injEq] at e
    obtain ⟨rfl, rfl⟩ := e
    have hend : todo' = [] := hend
    subst hend
    exact ⟨.bool true, _, ⟨E', hk, h.back (hR'.turnLoop hr' hE' q2 q3 q4 q5 .ready none) hk.le, rfl, rfl⟩, hsteps.trans (.one (stepR_round_end rfl rfl (run_endRound none q2)))⟩
  | some c' =>
    simp only [Option.some.injEq, Prod.mk.injEq] at e
    obtain ⟨rfl, rfl⟩ := e
    refine ⟨.bool false, _, ⟨E', hk, h.back (hR'.turnLoop hr' hE' q2 q3 q4 q5 .done (some c')) hk.le, rfl, rfl⟩, hsteps.trans (.one ?_)⟩
    rcases hend with ⟨k, rfl, rfl⟩ | ⟨id, k, rfl, rfl, hx⟩
    · exact stepR_round_ret rfl rfl (run_endRound (some .ret) q2)
    · exact stepR_round_exit rfl rfl hx (run_endRound (some (.exit id)) q2)
theorem loN_sound (hty : TyOK P T) (hmo : P.follows .mixedOrders = true) {F : FuncId → Option Func} (hF : FunOK P F) {Kn : FuncId → Option D} (hKn : ∀ f d, Kn f = some d → Enters P f ∧ Pure1 T P f [] d) {fuel : Nat} :
    ∀ n, LoOK T P (loN T hi F Kn fuel n)
  | 0 => ⟨fun f ds rs d rs' e => by
      have e : (none : Option (D × List Root)) = some (d, rs') := e
      simp at e, fun r ds rs d rs' e => by
      have e : (none : Option (D × List Root)) = some (d, rs') := e
      simp at e, diffW_ok, fun f ds rs d q x e => by
      have e : (none : Option (D × Nat × Root)) = some (d, q, x) := e
      simp at e, fun f ds rs rs2 r _ _ e => by
      have e : (none : Option (D × Nat × Root)) = some r := e
      simp at e⟩
  | n + 1 => ⟨fun f ds rs d rs' e => callS_sound hty hmo hF hKn (loN_sound hty hmo hF hKn n) e, fun r ds rs d rs' e => yldS_sound hty hmo (loN_sound hty hmo hF hKn n) e, diffW_ok, fun f ds rs d q x e => by
      have e : (none : Option (D × Nat × Root)) = some (d, q, x) := e
      simp at e, fun f ds rs rs2 r _ _ e => by
      have e : (none : Option (D × Nat × Root)) = some r := e
      simp at e⟩
end
noncomputable section
def nd (b : Bool) (A : Prop) : Prop := Bool.rec False A b
def br (b : Bool) (A B : Prop) : Prop := Bool.rec B A b
theorem nd_iff {b : Bool} {A : Prop} : nd b A ↔ b = true ∧ A := by cases b <;> simp [nd]
theorem nd_mk {b : Bool} {A : Prop} (h : b = true) (a : A) : nd b A := nd_iff.2 ⟨h, a⟩
theorem br_mk {b : Bool} {A B : Prop} (h : b = true → A) (k : b = false → B) : br b A B := by
  cases b
  · exact k rfl
  · exact h rfl
theorem br_of {b : Bool} {A B : Prop} (h : br b A B) : (b = true ∧ A) ∨ (b = false ∧ B) := by
  cases b
  · exact .inr ⟨rfl, h⟩
  · exact .inl ⟨rfl, h⟩
def optW {α : Type} (x : Option α) (k : α → Prop) : Prop := match x with
  | some a => k a
  | none => False
theorem optW_ok {α : Type} {x : Option α} {k : α → Prop} (h : optW x k) : ∃ a, x = some a ∧ k a := by
  cases x with
  | none => exact h.elim
  | some a => exact ⟨a, rfl, h⟩
structure LoCon (T : Tab) (P : Program) (f : FuncId) (ds : List D) (rs : List Root) (d : D) (rs' : List Root) : Prop where
  out : Enters P f ∧ ∀ (N : Nat) (av0 : Nat → Prop) (w0 : Kp) (sp : List (D × Value)) (sl : Slots) (df : List Nat) (a : Act) (w : World) (E : Env) (vs : List Value), R T N av0 w0 sp ⟨sl, rs, df⟩ a w E → All2 (DRel E (AV av0 rs E) w) ds vs →
    Go.Calls P f vs.toArray w fun e w' => ∃ v E', e = .returned v ∧ Kept E E' ∧ R T N av0 w0 sp ⟨sl, rs', df⟩ a w' E' ∧ DRel E' (AV av0 rs' E') w' d v
structure YCon (T : Tab) (P : Program) (r : Nat) (ds : List D) (rs : List Root) (d : D) (rs' : List Root) : Prop where
  out : ∀ (N : Nat) (av0 : Nat → Prop) (w0 : Kp) (sp : List (D × Value)) (sl : Slots) (df : List Nat) (a : Act) (w : World) (E : Env) (vs : List Value), R T N av0 w0 sp ⟨sl, rs, df⟩ a w E → All2 (DRel E (AV av0 rs E) w) ds vs →
    ∃ b sz f tm as bd, atRoot E r b sz ∧ (Instr.yield b vs.toArray).run P w = .ok (.round b f tm as bd) w ∧
      RoundS P b f tm as bd w fun v w' => ∃ E', Kept E E' ∧ R T N av0 w0 sp ⟨sl, rs', df⟩ a w' E' ∧ DRel E' (AV av0 rs' E') w' d v
structure WrCon (T : Tab) (P : Program) (f : FuncId) (ds : List D) (rs : List Root) (d : D) (q : Nat) (x : Root) : Prop where
  out : ∀ rs2 : List Root, rs.length = rs2.length → (∀ (k : Nat) (y : Root), nthF rs k = some y → y.live → nthF rs2 k = some y) → LoCon T P f ds rs2 d (place q x rs2)
abbrev Out := D × List (Nat × Root) × List Root
inductive Rd where
  | no
  | ret (o : D × Nat × Root)
  | get (q : Nat) (k : Root → Rd)
def runRd (rs : List Root) (r : Rd) : Option (D × Nat × Root) := Rd.rec none (fun o => some o) (fun q _ ih => match nthF rs q with
  | some x => match x with
    | .dead => none
    | x => ih x
  | none => none) r
structure Spc where
  F : FuncId → List D → List Root → Out
  FY : Nat → List D → List Root → Out := fun _ _ _ => (.t [], [], [])
  B : FuncId → List D → List Root → Bool := fun _ _ _ => true
  R1 : FuncId → List D → List Root → Out := fun _ _ _ => (.t [], [], [])
  R2 : FuncId → List D → List Root → Out := fun _ _ _ => (.t [], [], [])
  S : List Nat := []
  W : FuncId → List D → Rd := fun _ _ => .no
def outR (rs : List Root) (x : Out) : List Root := writes x.2.1 rs ++ x.2.2
def keysB (S : List Nat) (ws : List (Nat × Root)) : Bool := List.rec true (fun p _ ih => Bool.rec false ih (memN p.1 S)) ws
def diffS (S : List Nat) (rs' : List Root) : List (Nat × Root) := List.rec [] (fun q _ ih => match nthF rs' q with
  | some x => (q, x) :: ih
  | none => ih) S
def lowS (n : Nat) (ws : List (Nat × Root)) : Bool := List.rec true (fun p _ ih => Bool.rec false ih (lowR n p.2)) ws
def ansLo (X : Spc) : Lo := ⟨fun f ds rs => some ((X.F f ds rs).1, outR rs (X.F f ds rs)), fun r ds rs => some ((X.FY r ds rs).1, outR rs (X.FY r ds rs)), fun rs rs' => some (diffS X.S rs'), fun f ds rs => runRd rs (X.W f ds)⟩
def Grown (S : List Nat) (rs rs' : List Root) : Prop := ∃ ws ex, keysB S ws = true ∧ rs' = writes ws rs ++ ex
open Classical in
def semLo (T : Tab) (P : Program) (X : Spc) : Lo := ⟨fun f ds rs => if LoCon T P f ds rs (X.F f ds rs).1 (outR rs (X.F f ds rs)) then some ((X.F f ds rs).1, outR rs (X.F f ds rs)) else none,
  fun r ds rs => if YCon T P r ds rs (X.FY r ds rs).1 (outR rs (X.FY r ds rs)) then some ((X.FY r ds rs).1, outR rs (X.FY r ds rs)) else none,
  fun rs rs' => if Grown X.S rs rs' ∧ lowS rs.length (diffS X.S rs') = true then some (diffS X.S rs') else none,
  fun f ds rs => match runRd rs (X.W f ds) with
    | some o => if WrCon T P f ds rs o.1 o.2.1 o.2.2 then some o else none
    | none => none⟩
section
variable (T : Tab) (P : Program) (X : Spc) (hi : Hint)
def iaddrW (s : VS) (t : Nat) (x ix : Operand) (k : D → Prop) : Prop := match arrF T t with
  | some a => match intF (evF s.sl ix) with
    | some i => match cellF (evF s.sl x) with
      | some (.rt r q j) => nd (inB i a.1) (k (.c (.rt r q (j + i.toNat * a.2.size))))
      | _ => False
    | none => False
  | none => match elemF T t with
    | some y => match intF (evF s.sl ix) with
      | some i => match cellF (evF s.sl x) with
        | some (.im (.sl sz n get)) => nd (Nat.beq sz y.size) (nd (inB i n) (k (.c (.im (.pt sz (get i.toNat))))))
        | some (.sa r m) => match nthF s.rs r with
          | some (.row _ sz _ _) => nd (Nat.beq sz y.size) (nd (inB i m) (k (.c (.rt r i.toNat 0))))
          | some (.arr _ sz _ _) => nd (Nat.beq sz y.size) (nd (inB i m) (k (.c (.rt r i.toNat 0))))
          | _ => False
        | _ => False
      | none => False
    | none => False
def pickW (s : VS) (c x y : Operand) (k : D → Prop) : Prop := match boolF (evF s.sl c) with
  | some b => br b (optW (boolF (evF s.sl x)) fun z => k (bool z)) (optW (boolF (evF s.sl y)) fun z => k (bool z))
  | none => False
def sliceCW (rs : List Root) (c : C) (h : Int) (k : D → Prop) : Prop := match c with
  | .im (.sl sz n get) => nd (leB h n) (k (.c (.im (.sl sz h.toNat get))))
  | .sa r m => match nthF rs r with
    | some (.row _ _ _ _) => nd (leB h m) (k (.c (.sa r h.toNat)))
    | some (.arr _ _ _ _) => nd (leB h m) (k (.c (.sa r h.toNat)))
    | _ => False
  | _ => optW (sliceC rs c h) k
def sliceLW (sz : Nat) (c : C) (h : Int) (k : D → Prop) : Prop := match c with
  | .im (.sl sz' n get) => nd (leB h n) (nd (Nat.beq sz' sz) (k (.c (.im (.sl sz' (n - h.toNat) fun i j => get (h.toNat + i) j)))))
  | _ => False
def sliceW (s : VS) (t : Nat) (x : Operand) (lo hi mx : Option Operand) (k : D → Prop) : Prop := match lo, hi, mx with
  | none, some h, none => match elemF T t with
    | some _ => match cellF (evF s.sl x), intF (evF s.sl h) with
      | some c, some n => sliceCW s.rs c n k
      | _, _ => False
    | none => False
  | some l, none, none => match elemF T t with
    | some y => match cellF (evF s.sl x), intF (evF s.sl l) with
      | some c, some n => sliceLW y.size c n k
      | _, _ => False
    | none => False
  | _, _, _ => False
def loadAW (y : Ty) (sz n : Nat) (get : Nat → Nat → I) (i j : Nat) (k : D → Prop) : Prop := match y.kd.agg with
  | true => nd (Nat.ble (j + y.size) sz) (nd (Nat.blt i n) (k (.a (cellsFrom (get i) j y.size))))
  | false => nd (Nat.blt j sz) (nd (Nat.blt i n) (k (.c (.im (get i j)))))
def rowCase (i : Nat) (K : Nat → Prop) (m : Nat) : Nat → Prop := Nat.rec (fun _ => False) (fun _ ih c => br (Nat.beq i c) (K c) (ih (c + 1))) m
def loadW (s : VS) (t : Nat) (x : Operand) (k : D → Prop) : Prop := match T.ty t, cellF (evF s.sl x) with
  | some y, some c => match c with
    | .rt r i j => match nthF s.rs r with
      | some (.arr _ sz n get) => loadAW y sz n get i j k
      | some (.row _ sz n l) => rowCase i (fun c => optW (loadBox y l (c * sz + j)) k) n 0
      | _ => optW (loadF T s t x) k
    | _ => optW (loadF T s t x) k
  | _, _ => False
def divW (op : BinOp) (a b : Int) (k : D → Prop) : Prop := match op with
  | .quo => nd (!(b == 0)) (k (int (IntKind.i64.wrap (a.tdiv b))))
  | .rem => nd (!(b == 0)) (k (int (a.tmod b)))
  | _ => optW (binI op a b) fun z => k (.v z)
def binW (s : VS) (op : BinOp) (t : Nat) (x y : Operand) (k : D → Prop) : Prop := match isNil y with
  | true => optW (nilcF T s op t x) k
  | false => match intF (evF s.sl x), intF (evF s.sl y) with
    | some a, some b => divW op a b k
    | _, _ => optW (binF T s op t x y) k
def storeAW (rs : List Root) (size r i j : Nat) (cs : List C) (k : Eff → Prop) : Prop := match nthF rs r with
  | some (.arr el sz n get) => match imm cs with
    | some ys => nd (Nat.ble (j + size) sz) (nd (Nat.blt i n) (k (.wr none [(r, .arr el sz n (updA get i j ys))])))
    | none => optW (coldC rs cs) k
  | _ => optW (storeR rs size r i j cs) k
def storeW (s : VS) (dst : Option Tmp) (t : Nat) (x v : Operand) (k : Eff → Prop) : Prop := match dst with
  | some _ => False
  | none => match T.ty t, evF s.sl v with
    | some y, some d => match d.cells with
      | some cs => nd (Nat.beq cs.length y.size && Nat.blt 0 y.size) (match cellF (evF s.sl x) with
        | some (.rt r i j) => storeAW s.rs y.size r i j cs k
        | _ => False)
      | none => False
    | _, _ => False
def mkslW (b : Nat) (s : VS) (t : Nat) (l c : Operand) (k : Eff → Prop) : Prop := match T.ty t with
  | some { kd := .slice el, .. } => match T.ty el with
    | some y => match zeroC y with
      | some z => match intF (evF s.sl l), intF (evF s.sl c) with
        | some (.ofNat n), some (.ofNat m) => match imm z with
          | some is => nd (Nat.blt 0 y.size) (nd (Nat.ble n maxLen && Nat.ble (n * y.bytes) 281474976710656) (nd (Nat.beq n m) (k (.wr (some (.c (.sa b n))) [(b, .arr el y.size n (fun _ => getL is))]))))
          | none => False
        | _, _ => False
      | none => False
    | none => False
  | _ => False
def apdAW (el sz n' : Nat) (get' : Nat → Nat → I) (bytes b : Nat) (rs : List Root) (c : C) (k : Eff → Prop) : Prop := match c with
  | .im (.v (.slice none 0 0)) => nd (roomB n' bytes) (k (.wr (some (.c (.sa b n'))) [(b, .arr el sz n' get')]))
  | .sa r m => match nthF rs r with
    | some (.arr el' sz' n get) => nd (Nat.beq el el' && Nat.beq sz sz') (nd (roomB (n + n') bytes) (nd (Nat.beq m n) (k (.wr (some (.c (.sa b (n + n')))) [(r, .dead), (b, .arr el sz (n + n') (appA n get get'))]))))
    | _ => False
  | _ => False
def srcAW (sz : Nat) (rs : List Root) (c : C) (k : Nat × (Nat → Nat → I) → Prop) (K : Prop) : Prop := match c with
  | .sa q m => match nthF rs q with
    | some (.arr _ sz' n get) => nd (Nat.beq sz' sz) (nd (Nat.ble m n) (k (m, get)))
    | _ => match srcA sz rs c with
      | some x => k x
      | none => K
  | _ => match srcA sz rs c with
    | some x => k x
    | none => K
def apdGW (ty : Ty) (el b : Nat) (rs : List Root) (c src : C) (k : Eff → Prop) : Prop := srcAW ty.size rs src (fun x => nd (Nat.blt 0 ty.size) (apdAW el ty.size x.1 x.2 ty.bytes b rs c k)) (optW (coldC rs [src]) k)
def apdW (el b : Nat) (rs : List Root) (x src : Option C) (k : Eff → Prop) : Prop := match x, src with
  | some c, some src => match goA rs c src with
    | true => match T.ty el with
      | some ty => apdGW ty el b rs c src k
      | none => False
    | false => optW (apdF T el b rs (some c) (some src)) k
  | _, _ => False
def appW (b : Nat) (s : VS) (ts : List TypeId) (xs : List Operand) (k : Eff → Prop) : Prop := match ts, xs with
  | [t, t'], [x, y] => nd (Nat.beq t t') (match T.ty t with
    | some { kd := .slice el, .. } => apdW T el b s.rs (cellF (evF s.sl x)) (cellF (evF s.sl y)) k
    | _ => False)
  | _, _ => False
def pcallW (rs : List Root) (g : FuncId) (ds : List D) (k : Eff → Prop) : Prop := match reifyDs rs ds with
  | some is => LoCon T P g is [] (X.F g is []).1 (outR [] (X.F g is [])) ∧ optW (pcallF (ansLo X) rs g ds) k
  | none => False
def effFW (rs : List Root) (g : FuncId) (ds : List D) (k : Eff → Prop) : Prop :=
  LoCon T P g ds rs (X.F g ds rs).1 (outR rs (X.F g ds rs)) ∧ nd (keysB X.S (X.F g ds rs).2.1) (k (.all (X.F g ds rs).1 (outR rs (X.F g ds rs))))
def wrFW (rs : List Root) (g : FuncId) (ds : List D) (k : Eff → Prop) : Prop := match runRd rs (X.W g ds) with
  | some o => WrCon T P g ds rs o.1 o.2.1 o.2.2 ∧ nd (Nat.blt o.2.1 rs.length) (k (.wr (some o.1) [(o.2.1, o.2.2)]))
  | none => False
def callFW (rs : List Root) (b : Nat) (g : FuncId) (ds : List D) (k : Eff → Prop) : Prop := match hi.mode g with
  | 0 => pcallW T P X rs g ds k
  | 1 => effFW T P X rs g ds k
  | 2 => match reifyDs rs ds with
    | some is => LoCon T P g is [] (X.F g is []).1 (outR [] (X.F g is [])) ∧ optW (ocallF (ansLo X) rs g ds b) k
    | none => False
  | 4 => wrFW T P X rs g ds k
  | _ => Bool.rec (effFW T P X rs g ds k) (pcallW T P X rs g ds k) (pureDs ds)
def yldW (rs : List Root) (r : Nat) (ds : List D) (k : Eff → Prop) : Prop :=
  YCon T P r ds rs (X.FY r ds rs).1 (outR rs (X.FY r ds rs)) ∧ nd (keysB X.S (X.FY r ds rs).2.1) (k (.all (X.FY r ds rs).1 (outR rs (X.FY r ds rs))))
def valueW (b : Nat) (s : VS) (f : Operand) (xs : List Operand) (k : Eff → Prop) : Prop := match cellF (evF s.sl f), evsF s.sl xs with
  | some c, some ds => match c with
    | .yl r => yldW T P X s.rs r ds k
    | _ => match calleeC c with
      | some (g, caps) => callFW T P X hi s.rs b g (ds ++ caps) k
      | none => False
  | _, _ => False
def callW (b : Nat) (s : VS) (c : Call) (k : Eff → Prop) : Prop := match calF T s c with
  | some d => k (.val d)
  | none => match c.callee with
    | .builtin .append => appW T b s c.argTypes.toList c.args.toList k
    | .value f => valueW T P X hi b s f c.args.toList k
    | _ => False
def effW (b : Nat) (s : VS) (dst : Option Tmp) (op : Op) (k : Eff → Prop) : Prop := match op with
  | .indexAddr t x i => iaddrW T s t x i fun d => k (.val d)
  | .pick c x y => pickW s c x y fun d => k (.val d)
  | .slice t x lo h mx => sliceW T s t x lo h mx fun d => k (.val d)
  | .load t x => loadW T s t x fun d => k (.val d)
  | .binOp o t x y _ => binW T s o t x y fun d => k (.val d)
  | .store t x v => storeW T s dst t x v k
  | .makeSlice t l c => mkslW T b s t l c k
  | .call c => callW T P X hi b s c k
  | op => optW (effO T (ansLo X) hi b s dst op) k
def replB (t : Tmp) (b : Bool) (sl : Slots) : Slots := List.rec [] (fun x l ih => Bool.rec (x :: ih) ((x.1, bool b, x.2.2) :: l) (Nat.beq x.1 t)) sl
def replV (t : Tmp) (b : Bool) (s : VS) : VS := { s with sl := replB t b s.sl }
def condW (s : VS) (c : Operand) (p : Bool) (A B : VS → Prop) : Prop := match c with
  | .tmp t => br p (A (replV t true s)) (B (replV t false s))
  | _ => br p (A s) (B s)
def wantW (ops : List Oper) (s : VS) (g : Option (Nat × Bool)) (A B : VS → Prop) : Prop := match g with
  | none => A s
  | some (j, want) => match nthF ops j with
    | some p => match p.dst with
      | some t => match lookF s.sl t with
        | some (.t []) => B s
        | d => match boolF d with
          | some x => Bool.rec (br x (B (replV t true s)) (A (replV t false s))) (br x (A (replV t true s)) (B (replV t false s))) want
          | none => False
      | none => False
    | none => False
def stepW (N : Nat) (s : VS) (dst : Option Tmp) (k : VS → Prop) (again : List Nat → Prop) (e : Eff) : Prop := match e with
  | .cold l => again l
  | e => optW (stepF N s dst e) k
def workW (N : Nat) (s : VS) (dst : Option Tmp) (op : Op) (k : VS → Prop) : Prop :=
  effW T P X hi s.rs.length s dst op (stepW N s dst k fun l => optW (freezes l s) fun s1 => effW T P X hi s1.rs.length s1 dst op (stepW N s1 dst k fun _ => False))
def opW (N : Nat) (ops : List Oper) (s : VS) (o : Oper) (k : VS → Prop) : Prop :=
  wantW ops s o.guard (fun s => workW T P X hi N s o.dst o.op k) fun s => optW (putF N s o.dst (.t [])) k
def opsW (N : Nat) (ops l : List Oper) : VS → (VS → Prop) → Prop := List.rec (fun s k => k s) (fun o _ ih s k => opW T P X hi N ops s o fun s' => ih s' k) l
def updW (rs : List Root) (ancs : List Nat) (i : Nat) (dst : Option Tmp) (e : Eff) (k : Fst → Prop) : Prop := optW (updE (ansLo X) rs ancs i dst (some e)) fun u => match u with
  | .ok ⟨t, d, ws, none, true⟩ => nd (lowS rs.length ws) (k (.ok ⟨t, d, ws, none, true⟩))
  | u => k u
def evalW (ancs : List Nat) (i b : Nat) (ops : List Oper) (s : VS) (o : Oper) (k : VS → Fst → Prop) : Prop :=
  wantW ops s o.guard (fun s => effW T P X hi b s o.dst o.op fun e => updW X s.rs ancs i o.dst e (k s)) fun s => k s (.ok ⟨o.dst, some (.t []), [], none, false⟩)
def firstW (N : Nat) (ancs : List Nat) (ops l : List Oper) : Nat → Nat → List (Nat × List Nat) → VS → (Run1 → Prop) → Prop := List.rec (fun _ _ W s q => q (.ok W s)) (fun o _ ih k b W s q =>
  evalW T P X hi ancs k b ops s o fun s u => match u with
    | .ok u => nd (okT N u.dst u.val) (ih (k + 1) (b + makesN o.op) (addW k u W) (u.on s) q)
    | .cold c => q (.cold c)) l
def secondW (N : Nat) (ops : List Oper) (ancs : List Nat) (W : List (Nat × List Nat)) (l : List Oper) : List Nat → Nat → Nat → VS → (VS → Prop) → Prop := List.rec (fun _ _ _ s q => q s) (fun o _ ih ms i b s q =>
  match ms with
  | m :: ms => evalW T P X hi ancs i b ops (hid (freeR ancs i m W) s) o fun s1 u => match u with
    | .ok u => nd (okT N u.dst u.val && (subN (u.ws.map (·.1)) (wroteF i W) && (apartN (u.ws.map (·.1)) (freeR ancs i m W) && exB u.ex (freeR ancs i m W)))) (ih ms (i + 1) (b + makesN o.op) (u.on { s with sl := s1.sl }) q)
    | .cold _ => False
  | [] => False) l
def drawWW (N : Nat) (ops : List Oper) (s0 s' : VS) (b : Nat) (W : List (Nat × List Nat)) (k : VS → Prop) : Prop := match W with
  | [] => k s'
  | _ => secondW T P X hi N ops (ancsM ops []) W ops (ancsM ops []) 0 b s0 k
def drawnW (N : Nat) (ops : List Oper) (n : Nat) : VS → (VS → Prop) → Prop := Nat.rec (fun _ _ => False) (fun _ ih s k =>
  firstW T P X hi N (ancsM ops []) ops ops 0 s.rs.length [] (startF ops s) fun r => match r with
    | .cold l => optW (freezes l s) fun s' => ih s' k
    | .ok W s' => drawWW T P X hi N ops (startF ops s) s' s.rs.length W k) n
def regionW (N : Nat) (f : FuncId) (ro : Option Nat) (id : Nat) (ops : List Oper) (draw : Bool) (s : VS) (k : VS → Prop) : Prop := match draw with
  | false => opsW T P X hi N ops ops s fun s' => k (tidyF hi f id s')
  | true => match ro with
    | some _ => False
    | none => match staticB ops with
      | true => drawnW T P X hi N ops 8 s fun s' => k (tidyF hi f id s')
      | false => False
def rangeK (b : Nat) (s : VS) (rs' : List Root) (k : Option Code → VS → Prop) : Prop := match nthF rs' (b + 1) with
  | some (.loop _ _ _ _ _ _ .ready none) => k none { s with rs := setAt rs' (b + 1) .dead, df := b :: s.df }
  | some (.loop _ _ _ _ _ _ .done (some c)) => k (some c) { s with rs := setAt rs' (b + 1) .dead, df := b :: s.df }
  | _ => False
def rangeH (s : VS) (h : FuncId) (ds : List D) (rs : List Root) (k : Option Code → VS → Prop) : Prop :=
  br (X.B h ds rs) (LoCon T P h ds rs (X.R1 h ds rs).1 (outR rs (X.R1 h ds rs)) ∧ rangeK s.rs.length s (outR rs (X.R1 h ds rs)) k) (LoCon T P h ds rs (X.R2 h ds rs).1 (outR rs (X.R2 h ds rs)) ∧ rangeK s.rs.length s (outR rs (X.R2 h ds rs)) k)
def rangeW (N : Nat) (f : FuncId) (ro : Option Nat) (g : Operand) (ps : List Tmp) (as b : Code) (s : VS) (k : Option Code → VS → Prop) : Prop := match ro with
  | some _ => False
  | none => match cellF (evF s.sl g) with
    | some c => match calleeC c with
      | some (h, caps) => rangeH T P X s h (.c (.yl (s.rs.length + 1)) :: caps) (s.rs ++ [.dfr, .loop f N s.sl ps as b .ready none]) k
      | none => False
    | none => False
def runW (N : Nat) (f : FuncId) (ro : Option Nat) (stop : Nat → Bool) (L : List Item → VS → Prop) (Q : Option Code → VS → Prop) (n : Nat) : Bool → List Item → VS → Prop := Nat.rec (fun _ _ _ => False) (fun _ ih go todo s => match todo with
  | [] => Q none s
  | x :: k => match x with
    | .inBlock _ => ih go k s
    | .inLoop c => ih go (.code c :: .inLoop c :: k) s
    | .beginRound => optW (beginF ro s) fun s' => ih go k s'
    | .code c => match c with
      | .skip => ih go k s
      | .label _ => ih go k s
      | .ret => Q (some .ret) s
      | .seq a b => ih go (.code a :: .code b :: k) s
      | .cond c a b => match boolF (evF s.sl c) with
        | some p => condW s c p (ih go (.code a :: k)) (ih go (.code b :: k))
        | none => False
      | .block id c => ih go (.code c :: .inBlock id :: k) s
      | .loop c => ih go (.code c :: .inLoop c :: k) s
      | .exit id => match exitTo id k with
        | some k' => ih go k' s
        | none => Q (some (.exit id)) s
      | .region id ops draw => Bool.rec (regionW T P X hi N f ro id ops.toList draw s fun s' => ih false k s') (L (.code (.region id ops draw) :: k) s) (!go && stop id)
      | .rangeFunc g ps as b => rangeW T P X N f ro g ps.toList as b s fun j s' => ih false (jumpF j k) s'
      | _ => False
    | _ => False) n
end
def leafQ (T : Tab) (res : List ResultVar) (Q : D → List Root → Prop) (j : Option Code) (s : VS) : Prop := nd (retB j) (optW (endF T s res) fun x => Q x.1 x.2)
def leafY (r : Nat) (Q : D → List Root → Prop) (j : Option Code) (s : VS) : Prop := optW (roundF r j s) fun x => Q x.1 x.2
end
section
variable {T : Tab} {P : Program} {X : Spc} {hi : Hint} {N : Nat} {s : VS}
theorem iaddrW_ok {t : Nat} {x ix : Operand} {k : D → Prop} (h : iaddrW T s t x ix k) : ∃ d, iaddrF T s t x ix = some d ∧ k d := by
  unfold iaddrW at h
  unfold iaddrF
  split at h
  · rename_i a ha
    split at h
    case h_2 => exact h.elim
    rename_i i hi'
    split at h
    case h_2 => exact h.elim
    rename_i r q j hc
    obtain ⟨h1, h2⟩ := nd_iff.1 h
    refine ⟨_, ?_, h2⟩
    simp only [ha, hi', hc, iaddrA, h1]
  · rename_i ha
    split at h
    case h_2 => exact h.elim
    rename_i y hy
    split at h
    case h_2 => exact h.elim
    rename_i i hi'
    split at h
    · rename_i sz n get hc
      obtain ⟨h1, h2⟩ := nd_iff.1 h
      obtain ⟨h3, h4⟩ := nd_iff.1 h2
      refine ⟨_, ?_, h4⟩
      simp only [ha, hy, hi', hc, iaddrC, h1, h3]
    · rename_i r m hc
      split at h
      case h_3 => exact h.elim
      all_goals
        rename_i hr
        obtain ⟨h1, h2⟩ := nd_iff.1 h
        obtain ⟨h3, h4⟩ := nd_iff.1 h2
        refine ⟨_, ?_, h4⟩
        simp only [ha, hy, hi', hc, iaddrC, hr, h1, h3]
    · exact h.elim
theorem pickW_ok {c x y : Operand} {k : D → Prop} (h : pickW s c x y k) : ∃ d, pickF s c x y = some d ∧ k d := by
  unfold pickW at h
  unfold pickF
  split at h
  case h_2 => exact h.elim
  rename_i b hb
  rcases br_of h with ⟨rfl, h⟩ | ⟨rfl, h⟩
  · obtain ⟨z, h1, h2⟩ := optW_ok h
    refine ⟨_, ?_, h2⟩
    simp only [hb, h1]
  · obtain ⟨z, h1, h2⟩ := optW_ok h
    refine ⟨_, ?_, h2⟩
    simp only [hb, h1]
theorem sliceCW_ok {rs : List Root} {c : C} {h0 : Int} {k : D → Prop} (h : sliceCW rs c h0 k) : ∃ d, sliceC rs c h0 = some d ∧ k d := by
  unfold sliceCW at h
  split at h
  · obtain ⟨h1, h2⟩ := nd_iff.1 h
    exact ⟨_, by simp only [sliceC, h1], h2⟩
  · split at h
    case h_3 => exact h.elim
    all_goals
      rename_i hr
      obtain ⟨h1, h2⟩ := nd_iff.1 h
      exact ⟨_, by simp only [sliceC, hr, h1], h2⟩
  · exact optW_ok h
theorem sliceLW_ok {sz : Nat} {c : C} {h0 : Int} {k : D → Prop} (h : sliceLW sz c h0 k) : ∃ d, sliceL sz c h0 = some d ∧ k d := by
  unfold sliceLW at h
  split at h
  case h_2 => exact h.elim
  obtain ⟨h1, h2⟩ := nd_iff.1 h
  obtain ⟨h3, h4⟩ := nd_iff.1 h2
  exact ⟨_, by simp only [sliceL, h1, h3, Bool.and_self], h4⟩
theorem sliceW_ok {t : Nat} {x : Operand} {l h0 mx : Option Operand} {k : D → Prop} (h : sliceW T s t x l h0 mx k) : ∃ d, sliceF T s t x l h0 mx = some d ∧ k d := by
  unfold sliceW at h
  unfold sliceF
  split at h
  · split at h
    case h_2 => exact h.elim
    rename_i y hy
    split at h
    case h_2 => exact h.elim
    rename_i c n hc hn
    obtain ⟨d, h1, h2⟩ := sliceCW_ok h
    exact ⟨d, by simp only [hy, hc, hn, h1], h2⟩
  · split at h
    case h_2 => exact h.elim
    rename_i y hy
    split at h
    case h_2 => exact h.elim
    rename_i c n hc hn
    obtain ⟨d, h1, h2⟩ := sliceLW_ok h
    exact ⟨d, by simp only [hy, hc, hn, h1], h2⟩
  · exact h.elim
theorem rowCase_ok {i : Nat} {K : Nat → Prop} : ∀ {m c : Nat}, rowCase i K m c → K i
  | 0, c, h => h.elim
  | m + 1, c, h => by
    have h : br (Nat.beq i c) (K c) (rowCase i K m (c + 1)) := h
    rcases br_of h with ⟨h1, h2⟩ | ⟨_, h2⟩
    · rw [of_beq h1]; exact h2
    · exact rowCase_ok h2
theorem loadW_ok {t : Nat} {x : Operand} {k : D → Prop} (h : loadW T s t x k) : ∃ d, loadF T s t x = some d ∧ k d := by
  unfold loadW at h
  split at h
  case h_2 => exact h.elim
  rename_i y c hy hc
  split at h
  case h_2 => exact optW_ok h
  rename_i r i j
  split at h
  case h_3 => exact optW_ok h
  case h_2 =>
    rename_i el sz n l hr
    obtain ⟨d, h1, h2⟩ := optW_ok (rowCase_ok h)
    exact ⟨d, by simp only [loadF, hy, hc, loadC, hr, loadR, h1], h2⟩
  rename_i el sz n get hr
  unfold loadAW at h
  split at h
  · rename_i ha
    obtain ⟨h1, h2⟩ := nd_iff.1 h
    obtain ⟨h3, h4⟩ := nd_iff.1 h2
    exact ⟨_, by simp only [loadF, hy, hc, loadC, hr, loadR, loadA, ha, h1, h3], h4⟩
  · rename_i ha
    obtain ⟨h1, h2⟩ := nd_iff.1 h
    obtain ⟨h3, h4⟩ := nd_iff.1 h2
    exact ⟨_, by simp only [loadF, hy, hc, loadC, hr, loadR, loadA, ha, h1, h3], h4⟩
theorem divW_ok {op : BinOp} {a b : Int} {k : D → Prop} (h : divW op a b k) : ∃ z, binI op a b = some z ∧ k (.v z) := by
  unfold divW at h
  split at h
  · obtain ⟨h1, h2⟩ := nd_iff.1 h
    simp only [Bool.not_eq_true'] at h1
    exact ⟨_, by simp only [binI, h1], h2⟩
  · obtain ⟨h1, h2⟩ := nd_iff.1 h
    simp only [Bool.not_eq_true'] at h1
    exact ⟨_, by simp only [binI, h1], h2⟩
  · exact optW_ok h
theorem intF_val {d : Option D} {n : Int} (e : intF d = some n) : ∃ v, valF d = some v ∧ vint v = some n := by
  unfold intF at e
  split at e
  · rename_i v hv; exact ⟨v, hv, e⟩
  · simp at e
theorem binW_ok {op : BinOp} {t : Nat} {x y : Operand} {k : D → Prop} (h : binW T s op t x y k) : ∃ d, binF T s op t x y = some d ∧ k d := by
  unfold binW at h
  split at h
  · rename_i hn
    obtain ⟨d, h1, h2⟩ := optW_ok h
    exact ⟨d, by simp only [binF, hn, h1], h2⟩
  · rename_i hn
    split at h
    · rename_i a b ha hb
      obtain ⟨z, h1, h2⟩ := divW_ok h
      obtain ⟨u, hu, hu2⟩ := intF_val ha
      obtain ⟨v, hv, hv2⟩ := intF_val hb
      exact ⟨_, by simp only [binF, hn, hu, hv, binVal, hu2, hv2, h1], h2⟩
    · exact optW_ok h
theorem storeW_ok {lo : Lo} {hi : Hint} {b : Nat} {dst : Option Tmp} {t : Nat} {x v : Operand} {k : Eff → Prop} (h : storeW T s dst t x v k) : ∃ e, storeF T s dst t x v = some e ∧ k e := by
  unfold storeW at h
  split at h
  · exact h.elim
  split at h
  case h_2 => exact h.elim
  rename_i y d hy hd
  split at h
  case h_2 => exact h.elim
  rename_i cs hcs
  obtain ⟨h1, h2⟩ := nd_iff.1 h
  split at h2
  case h_2 => exact h2.elim
  rename_i r i j hx
  have fin : ∀ {e : Eff}, storeR s.rs y.size r i j cs = some e → storeF T s none t x v = some e := fun he => by
    simp only [storeF, hy, hd, hcs, h1, hx, he]
  unfold storeAW at h2
  split at h2
  · rename_i el sz n get hr
    split at h2
    · rename_i ys hys
      obtain ⟨h3, h4⟩ := nd_iff.1 h2
      obtain ⟨h5, h6⟩ := nd_iff.1 h4
      exact ⟨_, fin (by simp only [storeR, hr, hys, h3, h5]), h6⟩
    · rename_i hys
      obtain ⟨e, h3, h4⟩ := optW_ok h2
      exact ⟨e, fin (by simp only [storeR, hr, hys, h3]), h4⟩
  · obtain ⟨e, h3, h4⟩ := optW_ok h2
    exact ⟨e, fin h3, h4⟩
theorem mkslW_ok {b : Nat} {t : Nat} {l c : Operand} {k : Eff → Prop} (h : mkslW T b s t l c k) : ∃ e, mkslF T b s t l c = some e ∧ k e := by
  unfold mkslW at h
  split at h
  case h_2 => exact h.elim
  rename_i hy0
  split at h
  case h_2 => exact h.elim
  rename_i hy
  split at h
  case h_2 => exact h.elim
  rename_i hz
  split at h
  case h_2 => exact h.elim
  rename_i hl hc
  split at h
  case h_2 => exact h.elim
  rename_i his
  obtain ⟨h1, h2⟩ := nd_iff.1 h
  obtain ⟨h3, h4⟩ := nd_iff.1 h2
  obtain ⟨h5, h6⟩ := nd_iff.1 h4
  exact ⟨_, by simp only [mkslF, hy0, hy, hz, hl, hc, his, h1, h3, h5], h6⟩
theorem apdAW_ok {el sz n' : Nat} {get' : Nat → Nat → I} {bytes b : Nat} {rs : List Root} {c : C} {k : Eff → Prop} (h : apdAW el sz n' get' bytes b rs c k) : ∃ e, apdA el sz n' get' bytes b rs c = some e ∧ k e := by
  unfold apdAW at h
  split at h
  · obtain ⟨h1, h2⟩ := nd_iff.1 h
    exact ⟨_, by simp only [apdA, h1], h2⟩
  · split at h
    case h_2 => exact h.elim
    rename_i hr
    obtain ⟨h1, h2⟩ := nd_iff.1 h
    obtain ⟨h3, h4⟩ := nd_iff.1 h2
    obtain ⟨h5, h6⟩ := nd_iff.1 h4
    exact ⟨_, by simp only [apdA, hr, h1, h3, h5], h6⟩
  · exact h.elim
theorem srcAW_ok {sz : Nat} {rs : List Root} {c : C} {k : Nat × (Nat → Nat → I) → Prop} {K : Prop} (h : srcAW sz rs c k K) : (∃ x, srcA sz rs c = some x ∧ k x) ∨ (srcA sz rs c = none ∧ K) := by
  have fin : (match srcA sz rs c with
    | some x => k x
    | none => K) → (∃ x, srcA sz rs c = some x ∧ k x) ∨ (srcA sz rs c = none ∧ K) := fun q => by
    split at q
    · rename_i x hx; exact .inl ⟨x, hx, q⟩
    · rename_i hx; exact .inr ⟨hx, q⟩
  unfold srcAW at h
  split at h
  · split at h
    · rename_i hr
      obtain ⟨h1, h2⟩ := nd_iff.1 h
      obtain ⟨h3, h4⟩ := nd_iff.1 h2
      exact .inl ⟨_, by simp only [srcA, hr, h1, h3], h4⟩
    · exact fin h
  · exact fin h
theorem apdW_ok {el b : Nat} {x src : Option C} {k : Eff → Prop} (h : apdW T el b s.rs x src k) : ∃ e, (match apdT T el b s.rs x src with
      | some e => e
      | none => apdF T el b s.rs x src) = some e ∧ k e := by
  unfold apdW at h
  split at h
  case h_2 => exact h.elim
  rename_i c src
  split at h
  · rename_i hg
    split at h
    case h_2 => exact h.elim
    rename_i ty hty
    simp only [apdT, hg, hty]
    unfold apdGW at h
    rcases srcAW_ok h with ⟨x, h1, h2⟩ | ⟨h1, h2⟩
    · obtain ⟨h3, h4⟩ := nd_iff.1 h2
      obtain ⟨e, h5, h6⟩ := apdAW_ok h4
      refine ⟨e, ?_, h6⟩
      simp only [apdG, h1, h3]
      exact h5
    · obtain ⟨e, h3, h4⟩ := optW_ok h2
      exact ⟨e, by simp only [apdG, h1, h3], h4⟩
  · rename_i hg
    simp only [apdT, hg]
    exact optW_ok h
theorem appW_ok {b : Nat} {ts : List TypeId} {xs : List Operand} {k : Eff → Prop} (h : appW T b s ts xs k) : ∃ e, appF T b s ts xs = some e ∧ k e := by
  unfold appW at h
  split at h
  case h_2 => exact h.elim
  obtain ⟨h1, h2⟩ := nd_iff.1 h
  split at h2
  case h_2 => exact h2.elim
  rename_i hy
  obtain ⟨e, h3, h4⟩ := apdW_ok h2
  refine ⟨e, ?_, h4⟩
  simp only [appF, h1, hy]
  exact h3
theorem storeF_noall {dst : Option Tmp} {t : Nat} {x v : Operand} {d : D} {rs' : List Root} (h : storeF T s dst t x v = some (.all d rs')) : False := by
  unfold storeF at h
  split at h
  · simp at h
  split at h
  case h_2 => simp at h
  split at h
  case h_2 => simp at h
  replace h := (Bool.rec_some h).2
  split at h
  case h_2 => simp at h
  unfold storeR at h
  split at h
  · split at h
    · split at h <;> simp at h
    · simp at h
  · split at h <;> simp at h
  · split at h
    · replace h := (Bool.rec_some h).2
      replace h := (Bool.rec_some h).2
      simp at h
    · obtain ⟨m, hm⟩ := coldC_cold h; cases hm
  · simp at h
theorem appF_noall {b : Nat} {ts : List TypeId} {xs : List Operand} {d : D} {rs' : List Root} (h : appF T b s ts xs = some (.all d rs')) : False := by
  unfold appF at h
  split at h
  case h_2 => simp at h
  replace h := (Bool.rec_some h).2
  split at h
  case h_2 => simp at h
  split at h
  · rename_i e' he'
    subst h
    unfold apdT at he'
    split at he'
    case h_2 => simp at he'
    split at he'
    case h_2 => simp at he'
    split at he'
    case h_2 => simp at he'
    simp only [Option.some.injEq] at he'
    unfold apdG at he'
    split at he'
    · replace he' := (Bool.rec_some he').2
      unfold apdA at he'
      split at he'
      · replace he' := (Bool.rec_some he').2; simp at he'
      · split at he'
        · replace he' := (Bool.rec_some he').2
          replace he' := (Bool.rec_some he').2
          replace he' := (Bool.rec_some he').2
          simp at he'
        · simp at he'
      · simp at he'
    · obtain ⟨m, hm⟩ := coldC_cold he'; cases hm
  · have fin : ∀ {el sz k : Nat} {l' : List C} {by' : Nat} {c : C}, apd el sz k l' by' b s.rs c ≠ some (.all d rs') := by
      intro el sz k l' by' c q
      unfold apd at q
      split at q
      · split at q
        · simp at q
        · replace q := (Bool.rec_some q).2; simp at q
      · split at q
        · replace q := (Bool.rec_some q).2
          replace q := (Bool.rec_some q).2
          simp at q
        · simp at q
      · simp at q
    unfold apdF at h
    split at h
    case h_2 => simp at h
    split at h
    case h_2 => simp at h
    split at h
    case h_2 => simp at h
    split at h
    case h_2 => simp at h
    split at h
    · exact fin (Bool.rec_some h).2
    · exact fin (Bool.rec_some h).2
theorem effO_noall {lo : Lo} {b : Nat} {dst : Option Tmp} {op : Op} {d : D} {rs' : List Root} (h1 : ∀ c, op ≠ .call c) (h2 : ∀ t x v, op ≠ .store t x v) (h3 : ∀ t l c, op ≠ .makeSlice t l c) (h : effO T lo hi b s dst op = some (.all d rs')) : False := by
  unfold effO at h
  split at h
  · simp at h
  · cases op with
    | call c => exact h1 c rfl
    | store t x v => exact h2 t x v rfl
    | makeSlice t l c => exact h3 t l c rfl
    | box t x =>
      have h : boxF b s x = _ := h
      unfold boxF at h
      split at h <;> (try split at h) <;> simp at h
    | alloc t =>
      have h : allocF T b t = _ := h
      unfold allocF at h
      split at h <;> (try split at h) <;> simp at h
    | makeMap t r =>
      have h : mkmapF T b t r = _ := h
      unfold mkmapF at h
      split at h <;> simp at h
    | buildSlice t n ps =>
      have h : bsF T b s (coldT hi dst) t n ps.toList = _ := h
      unfold bsF at h
      split at h
      case h_2 => simp at h
      split at h
      case h_2 => simp at h
      split at h
      case h_2 => simp at h
      split at h
      case h_2 => simp at h
      replace h := (Bool.rec_some h).2
      rcases bornE_cases (coldT hi dst) b _ _ n _ with hc | ⟨_, _, hc⟩ <;> rw [hc] at h <;> simp at h
    | mapUpdate t m k v =>
      have h : mapuF T s dst t m k v = _ := h
      unfold mapuF at h
      split at h
      · simp at h
      · replace h := (Bool.rec_some h).2
        split at h
        case h_2 => simp at h
        split at h <;> simp at h
    | _ => simp [workO] at h
def Good (X : Spc) (rs : List Root) (e : Eff) : Prop := ∀ d rs', e = .all d rs' → Grown X.S rs rs'
theorem semLo_call {f : FuncId} {ds : List D} {rs : List Root} (h : LoCon T P f ds rs (X.F f ds rs).1 (outR rs (X.F f ds rs))) : (semLo T P X).call f ds rs = (ansLo X).call f ds rs := by
  simp [semLo, ansLo, h]
theorem semLo_yld {r : Nat} {ds : List D} {rs : List Root} (h : YCon T P r ds rs (X.FY r ds rs).1 (outR rs (X.FY r ds rs))) : (semLo T P X).yld r ds rs = (ansLo X).yld r ds rs := by
  simp [semLo, ansLo, h]
theorem purF_sem {rs : List Root} {g : FuncId} {ds is : List D} (hr : reifyDs rs ds = some is) (hk : LoCon T P g is [] (X.F g is []).1 (outR [] (X.F g is []))) : purF (semLo T P X) rs g ds = purF (ansLo X) rs g ds := by
  simp only [purF, hr, semLo_call hk]
theorem ownF_sem {rs : List Root} {g : FuncId} {ds is : List D} {b : Nat} (hr : reifyDs rs ds = some is) (hk : LoCon T P g is [] (X.F g is []).1 (outR [] (X.F g is []))) : ownF (semLo T P X) rs g ds b = ownF (ansLo X) rs g ds b := by
  simp only [ownF, hr, semLo_call hk]
theorem coldF_good {rs : List Root} {ds : List D} {e e' : Eff} (h : coldF rs ds e = some e') (he : ∀ d rs', e ≠ .all d rs') : Good X rs e' := by
  intro d rs' q
  subst q
  rcases coldF_some h with ⟨l, hl⟩ | ⟨hl, _⟩
  · cases hl
  · exact (he _ _ hl.symm).elim
theorem pcallF_good {lo : Lo} {rs : List Root} {g : FuncId} {ds : List D} {e : Eff} (h : pcallF lo rs g ds = some e) : Good X rs e := by
  unfold pcallF at h
  split at h
  case h_2 => simp at h
  rename_i d hd
  cases hp : plainD d with
  | true => rw [hp] at h; simp only [Option.some.injEq] at h; subst h; intro _ _ q; cases q
  | false =>
    rw [hp] at h
    obtain ⟨_, h⟩ := Bool.rec_some (show (Bool.rec none (coldF rs ds (.val d)) (pureD d) : Option Eff) = some e from h)
    exact coldF_good h fun _ _ q => by cases q
theorem ocallF_good {lo : Lo} {rs : List Root} {g : FuncId} {ds : List D} {b : Nat} {e : Eff} (h : ocallF lo rs g ds b = some e) : Good X rs e := by
  unfold ocallF at h
  split at h
  · simp only [Option.some.injEq] at h; subst h; intro _ _ q; cases q
  · revert h
    generalize plainC _ = p
    intro h
    cases p with
    | true => simp only [Option.some.injEq] at h; subst h; intro _ _ q; cases q
    | false => exact coldF_good h fun _ _ q => by cases q
  · exact coldF_good h fun _ _ q => by cases q
  · simp at h
theorem pcallW_ok {rs : List Root} {g : FuncId} {ds : List D} {k : Eff → Prop} (h : pcallW T P X rs g ds k) : ∃ e, pcallF (semLo T P X) rs g ds = some e ∧ Good X rs e ∧ k e := by
  unfold pcallW at h
  split at h
  case h_2 => exact h.elim
  rename_i is hr
  obtain ⟨hk, h⟩ := h
  obtain ⟨e, h1, h2⟩ := optW_ok h
  refine ⟨e, ?_, pcallF_good h1, h2⟩
  rw [← h1]
  simp only [pcallF, purF_sem hr hk]
theorem effFW_ok {rs : List Root} {g : FuncId} {ds : List D} {k : Eff → Prop} (h : effFW T P X rs g ds k) : ∃ e, effF (semLo T P X) rs g ds = some e ∧ Good X rs e ∧ k e := by
  obtain ⟨hk, h⟩ := h
  obtain ⟨h1, h2⟩ := nd_iff.1 h
  refine ⟨_, by simp only [effF, semLo_call hk, ansLo], ?_, h2⟩
  intro d rs' q
  simp only [Eff.all.injEq] at q
  exact ⟨_, _, h1, q.2.symm⟩
theorem yldW_ok {rs : List Root} {r : Nat} {ds : List D} {k : Eff → Prop} (h : yldW T P X rs r ds k) : ∃ e, yldF (semLo T P X) rs r ds = some e ∧ Good X rs e ∧ k e := by
  obtain ⟨hk, h⟩ := h
  obtain ⟨h1, h2⟩ := nd_iff.1 h
  refine ⟨_, by simp only [yldF, semLo_yld hk, ansLo], ?_, h2⟩
  intro d rs' q
  simp only [Eff.all.injEq] at q
  exact ⟨_, _, h1, q.2.symm⟩
theorem callFW_ok {rs : List Root} {b : Nat} {g : FuncId} {ds : List D} {k : Eff → Prop} (h : callFW T P X hi rs b g ds k) : ∃ e, callF (semLo T P X) hi rs b g ds = some e ∧ Good X rs e ∧ k e := by
  unfold callFW at h
  unfold callF
  split at h
  · rename_i hm
    simp only [hm]
    exact pcallW_ok h
  · rename_i hm
    simp only [hm]
    exact effFW_ok h
  · rename_i hm
    simp only [hm]
    split at h
    case h_2 => exact h.elim
    rename_i is hr
    obtain ⟨hk, h⟩ := h
    obtain ⟨e, h1, h2⟩ := optW_ok h
    exact ⟨e, by rw [← h1]; simp only [ocallF, ownF_sem hr hk], ocallF_good h1, h2⟩
  · rename_i hm
    simp only [hm]
    unfold wrFW at h
    split at h
    case h_2 => exact h.elim
    rename_i x hx
    obtain ⟨h2, h3⟩ := h
    obtain ⟨h4, h5⟩ := nd_iff.1 h3
    refine ⟨.wr (some x.1) [(x.2.1, x.2.2)], ?_, (by intro d rs' q; cases q), h5⟩
    unfold wrF semLo
    simp only [hx, if_pos h2, h4]
  · rename_i h0 h1 h2 h4
    split
    · exact absurd (by assumption) h0
    · exact absurd (by assumption) h1
    · exact absurd (by assumption) h2
    · exact absurd (by assumption) h4
    · cases hp : pureDs ds with
      | true =>
        rw [hp] at h
        exact pcallW_ok h
      | false =>
        rw [hp] at h
        exact effFW_ok h
theorem valueW_ok {b : Nat} {f : Operand} {xs : List Operand} {k : Eff → Prop} (h : valueW T P X hi b s f xs k) : ∃ e, valueF (semLo T P X) hi b s f xs = some e ∧ Good X s.rs e ∧ k e := by
  unfold valueW at h
  unfold valueF
  split at h
  case h_2 => exact h.elim
  rename_i c ds hc hd
  simp only [hc, hd]
  split at h
  · exact yldW_ok h
  · rename_i hy
    split at h
    case h_2 => exact h.elim
    rename_i g caps hg
    obtain ⟨e, h1, h2⟩ := callFW_ok h
    refine ⟨e, ?_, h2⟩
    cases c <;> first | (simp only [hg]; exact h1) | exact absurd rfl (hy _)
theorem callW_ok {b : Nat} {c : Call} {dst : Option Tmp} {k : Eff → Prop} (h : callW T P X hi b s c k) : ∃ e, effO T (semLo T P X) hi b s dst (.call c) = some e ∧ Good X s.rs e ∧ k e := by
  unfold callW at h
  unfold effO
  split at h
  · rename_i d hd
    have hl : lookO T s (.call c) = some d := hd
    rw [hl]
    exact ⟨_, rfl, (fun _ _ q => by cases q), h⟩
  · rename_i hd
    have hl : lookO T s (.call c) = none := hd
    rw [hl]
    show ∃ e, callO T (semLo T P X) hi b s c = some e ∧ Good X s.rs e ∧ k e
    unfold callO
    split at h
    · rename_i hc
      simp only [hc]
      obtain ⟨e, h1, h2⟩ := appW_ok h
      refine ⟨e, h1, fun d rs' q => ?_, h2⟩
      subst q
      have h3 : effO T (semLo T P X) hi b s dst (.call c) = some (.all d rs') := by
        unfold effO; rw [hl]; show callO T (semLo T P X) hi b s c = _; unfold callO; simp only [hc]; exact h1
      exact (appF_noall h1).elim
    · rename_i hc
      simp only [hc]
      exact valueW_ok h
    · exact h.elim
theorem effW_ok {b : Nat} {dst : Option Tmp} {op : Op} {k : Eff → Prop} (h : effW T P X hi b s dst op k) : ∃ e, effO T (semLo T P X) hi b s dst op = some e ∧ Good X s.rs e ∧ k e := by
  have gv : ∀ d : D, Good X s.rs (.val d) := fun d _ _ q => by cases q
  unfold effW at h
  split at h
  · rename_i t x i
    obtain ⟨d, h1, h2⟩ := iaddrW_ok h
    have hl : lookO T s (.indexAddr t x i) = some d := h1
    exact ⟨_, by unfold effO; rw [hl], gv _, h2⟩
  · rename_i c x y
    obtain ⟨d, h1, h2⟩ := pickW_ok h
    have hl : lookO T s (.pick c x y) = some d := h1
    exact ⟨_, by unfold effO; rw [hl], gv _, h2⟩
  · rename_i t x lo h0 mx
    obtain ⟨d, h1, h2⟩ := sliceW_ok h
    have hl : lookO T s (.slice t x lo h0 mx) = some d := h1
    exact ⟨_, by unfold effO; rw [hl], gv _, h2⟩
  · rename_i t x
    obtain ⟨d, h1, h2⟩ := loadW_ok h
    have hl : lookO T s (.load t x) = some d := h1
    exact ⟨_, by unfold effO; rw [hl], gv _, h2⟩
  · rename_i o t x y t2
    obtain ⟨d, h1, h2⟩ := binW_ok h
    have hl : lookO T s (.binOp o t x y t2) = some d := h1
    exact ⟨_, by unfold effO; rw [hl], gv _, h2⟩
  · rename_i t x v
    obtain ⟨e, h1, h2⟩ := storeW_ok (lo := semLo T P X) (hi := hi) (b := b) h
    exact ⟨e, h1, fun d rs' q => (storeF_noall (q ▸ h1)).elim, h2⟩
  · rename_i t l c
    obtain ⟨e, h1, h2⟩ := mkslW_ok h
    refine ⟨e, h1, fun d rs' q => ?_, h2⟩
    subst q
    unfold mkslF at h1
    repeat (first | (split at h1) | (replace h1 := (Bool.rec_some h1).2))
    all_goals simp at h1
  · exact callW_ok h
  · rename_i op0 n1 n2 n3 n4 n5 n6 n7 n8
    obtain ⟨e, h1, h2⟩ := optW_ok h
    have hw : workO T (semLo T P X) hi b s dst op = workO T (ansLo X) hi b s dst op := by
      cases op <;> first | (simp only [workO]; done) | exact (n8 _ rfl).elim
    refine ⟨e, ?_, fun d rs' q => ?_, h2⟩
    · rw [← h1]
      unfold effO
      rw [hw]
    · subst q
      exact (effO_noall (fun c q => n8 c q) (fun t x v q => n6 t x v q) (fun t l c q => n7 t l c q) h1).elim
theorem replB_same {t : Tmp} {b : Bool} : ∀ {sl : Slots}, lookF sl t = some (bool b) → replB t b sl = sl
  | [], h => by simp [lookF] at h
  | x :: l, h => by
    have h : (Bool.rec (lookF l t) (some x.2.1) (Nat.beq x.1 t) : Option D) = some (bool b) := h
    show (Bool.rec (x :: replB t b l) ((x.1, bool b, x.2.2) :: l) (Nat.beq x.1 t) : Slots) = x :: l
    cases hb : Nat.beq x.1 t with
    | true =>
      rw [hb] at h
      simp only [Option.some.injEq] at h
      rw [← h]
    | false =>
      rw [hb] at h
      simp only
      rw [replB_same h]
theorem replV_same {t : Tmp} {b : Bool} {s : VS} (h : lookF s.sl t = some (bool b)) : replV t b s = s := by
  unfold replV
  rw [replB_same h]
theorem condW_ok {s : VS} {c : Operand} {p : Bool} {A B : VS → Prop} (hp : boolF (evF s.sl c) = some p) (h : condW s c p A B) : (p = true ∧ A s) ∨ (p = false ∧ B s) := by
  unfold condW at h
  split at h
  · rcases br_of h with ⟨rfl, h⟩ | ⟨rfl, h⟩
    · rw [replV_same (boolF_some hp)] at h; exact .inl ⟨rfl, h⟩
    · rw [replV_same (boolF_some hp)] at h; exact .inr ⟨rfl, h⟩
  · exact br_of h
theorem wantW_ok {ops : List Oper} {s : VS} {g : Option (Nat × Bool)} {A B : VS → Prop} (h : wantW ops s g A B) : (wantF ops s.sl g = some true ∧ A s) ∨ (wantF ops s.sl g = some false ∧ B s) := by
  unfold wantW at h
  unfold wantF
  split at h
  · exact .inl ⟨rfl, h⟩
  · rename_i j want
    split at h
    case h_2 => exact h.elim
    rename_i p hp
    split at h
    case h_2 => exact h.elim
    rename_i t ht
    simp only [hp, ht]
    split at h
    · rename_i hl
      exact .inr ⟨by rw [hl]; rfl, h⟩
    · rename_i d hl
      split at h
      case h_2 => exact h.elim
      rename_i x hx
      have hw : wantC (lookF s.sl t) want = some (beqB x want) := by
        unfold wantC
        split
        · exact absurd (by assumption) hl
        · rw [hx]
      rw [hw]
      have hlk := boolF_some hx
      cases want with
      | true =>
        rcases br_of (b := x) h with ⟨rfl, h⟩ | ⟨rfl, h⟩
        · exact .inl ⟨rfl, by rw [replV_same hlk] at h; exact h⟩
        · exact .inr ⟨rfl, by rw [replV_same hlk] at h; exact h⟩
      | false =>
        rcases br_of (b := x) h with ⟨rfl, h⟩ | ⟨rfl, h⟩
        · exact .inr ⟨rfl, by rw [replV_same hlk] at h; exact h⟩
        · exact .inl ⟨rfl, by rw [replV_same hlk] at h; exact h⟩
theorem stepW_ok {dst : Option Tmp} {k : VS → Prop} {again : List Nat → Prop} {e : Eff} (h : stepW N s dst k again e) : (∃ l, e = .cold l ∧ again l) ∨ ((∀ l, e ≠ .cold l) ∧ ∃ s', stepF N s dst e = some s' ∧ k s') := by
  unfold stepW at h
  split at h
  · exact .inl ⟨_, rfl, h⟩
  · rename_i hn
    exact .inr ⟨hn, optW_ok h⟩
theorem workW_ok {dst : Option Tmp} {op : Op} {k : VS → Prop} (h : workW T P X hi N s dst op k) : ∃ s', workF T (semLo T P X) hi N s dst op = some s' ∧ k s' := by
  unfold workW at h
  obtain ⟨e, h1, _, h2⟩ := effW_ok h
  unfold workF
  rw [h1]
  rcases stepW_ok h2 with ⟨l, rfl, h2⟩ | ⟨hn, s', h2, h3⟩
  · obtain ⟨s1, h3, h4⟩ := optW_ok h2
    obtain ⟨e1, h5, _, h6⟩ := effW_ok h4
    simp only [h3, coldW, h5]
    rcases stepW_ok h6 with ⟨l, rfl, h7⟩ | ⟨_, s', h7, h8⟩
    · exact h7.elim
    · exact ⟨s', h7, h8⟩
  · refine ⟨s', ?_, h3⟩
    cases e <;> first | exact h2 | exact absurd rfl (hn _)
theorem opW_ok {ops : List Oper} {o : Oper} {k : VS → Prop} (h : opW T P X hi N ops s o k) : ∃ s', opF T (semLo T P X) hi N ops s o = some s' ∧ k s' := by
  unfold opW at h
  unfold opF
  rcases wantW_ok h with ⟨h1, h2⟩ | ⟨h1, h2⟩
  · rw [h1]; exact workW_ok h2
  · rw [h1]; exact optW_ok h2
theorem opsW_ok {ops : List Oper} : ∀ (l : List Oper) {s : VS} {k : VS → Prop}, opsW T P X hi N ops l s k → ∃ s', opsF T (semLo T P X) hi N ops l s = some s' ∧ k s'
  | [], s, k, h => ⟨s, rfl, h⟩
  | o :: l, s, k, h => by
    have h : opW T P X hi N ops s o (fun s' => opsW T P X hi N ops l s' k) := h
    obtain ⟨s1, h1, h2⟩ := opW_ok h
    obtain ⟨s2, h3, h4⟩ := opsW_ok l h2
    refine ⟨s2, ?_, h4⟩
    show (match opF T (semLo T P X) hi N ops s o with
      | some s' => opsF T (semLo T P X) hi N ops l s'
      | none => none) = some s2
    rw [h1]
    exact h3
theorem evalW_ok {ancs : List Nat} {i b : Nat} {ops : List Oper} {o : Oper} {k : VS → Fst → Prop} (h : evalW T P X hi ancs i b ops s o k) : ∃ u, evalU T (semLo T P X) hi ancs i b ops s o = some u ∧ k s u := by
  unfold evalW at h
  unfold evalU
  rcases wantW_ok h with ⟨h1, h2⟩ | ⟨h1, h2⟩
  · rw [h1]
    obtain ⟨e, h3, h4, h5⟩ := effW_ok h2
    simp only [h3]
    unfold updW at h5
    obtain ⟨u, h6, h7⟩ := optW_ok h5
    cases e with
    | val d =>
      simp only [updE, Option.some.injEq] at h6 ⊢
      subst h6
      exact ⟨_, rfl, h7⟩
    | wr d ws =>
      simp only [updE, Option.some.injEq] at h6 ⊢
      subst h6
      exact ⟨_, rfl, h7⟩
    | cold l =>
      simp only [updE, Option.some.injEq] at h6 ⊢
      subst h6
      exact ⟨_, rfl, h7⟩
    | all d rs' =>
      simp only [updE] at h6 ⊢
      cases hb : barB ancs i with
      | true =>
        rw [hb] at h6
        simp only [Option.some.injEq] at h6 ⊢
        subst h6
        exact ⟨_, rfl, h7⟩
      | false =>
        rw [hb] at h6
        have h6 : allU (ansLo X) o.dst d s.rs rs' = some u := h6
        show ∃ u, allU (semLo T P X) o.dst d s.rs rs' = some u ∧ k s u
        unfold allU at h6 ⊢
        simp only [ansLo] at h6
        obtain ⟨h8, h9⟩ := Bool.rec_some h6
        simp only [Option.some.injEq] at h9
        subst h9
        obtain ⟨h10, h11⟩ := nd_iff.1 h7
        have hd : (semLo T P X).diff s.rs rs' = some (diffS X.S rs') := by
          simp only [semLo]
          rw [if_pos ⟨h4 d rs' rfl, h10⟩]
        simp only [hd, h8]
        exact ⟨_, rfl, h11⟩
  · rw [h1]; exact ⟨_, rfl, h2⟩
theorem firstW_ok {ancs : List Nat} {ops : List Oper} : ∀ (l : List Oper) {k b : Nat} {W : List (Nat × List Nat)} {s : VS} {q : Run1 → Prop}, firstW T P X hi N ancs ops l k b W s q → ∃ r, firstF T (semLo T P X) hi N ancs ops l k b W s = some r ∧ q r
  | [], k, b, W, s, q, h => ⟨_, rfl, h⟩
  | o :: l, k, b, W, s, q, h => by
    have h : evalW T P X hi ancs k b ops s o (fun s u => match u with
      | .ok u => nd (okT N u.dst u.val) (firstW T P X hi N ancs ops l (k + 1) (b + makesN o.op) (addW k u W) (u.on s) q)
      | .cold c => q (.cold c)) := h
    obtain ⟨u, h1, h2⟩ := evalW_ok h
    have hf : firstF T (semLo T P X) hi N ancs ops (o :: l) k b W s = (match evalU T (semLo T P X) hi ancs k b ops s o with
      | some (.ok u) => Bool.rec none (firstF T (semLo T P X) hi N ancs ops l (k + 1) (b + makesN o.op) (addW k u W) (u.on s)) (okT N u.dst u.val)
      | some (.cold c) => some (.cold c)
      | none => none) := rfl
    rw [hf, h1]
    cases u with
    | cold c => exact ⟨_, rfl, h2⟩
    | ok u =>
      obtain ⟨h3, h4⟩ := nd_iff.1 h2
      obtain ⟨r, h5, h6⟩ := firstW_ok l h4
      refine ⟨r, ?_, h6⟩
      simp only [h3]
      exact h5
theorem secondW_ok {ops : List Oper} {ancs : List Nat} {W : List (Nat × List Nat)} : ∀ (l : List Oper) {ms : List Nat} {i b : Nat} {s : VS} {q : VS → Prop}, secondW T P X hi N ops ancs W l ms i b s q → ∃ r, secondF T (semLo T P X) hi N ops ancs W l ms i b s = some r ∧ q r
  | [], ms, i, b, s, q, h => ⟨_, rfl, h⟩
  | o :: l, ms, i, b, s, q, h => by
    cases ms with
    | nil => exact (show False from h).elim
    | cons m ms =>
      have h : evalW T P X hi ancs i b ops (hid (freeR ancs i m W) s) o (fun s1 u => match u with
        | .ok u => nd (okT N u.dst u.val && (subN (u.ws.map (·.1)) (wroteF i W) && (apartN (u.ws.map (·.1)) (freeR ancs i m W) && exB u.ex (freeR ancs i m W)))) (secondW T P X hi N ops ancs W l ms (i + 1) (b + makesN o.op) (u.on { s with sl := s1.sl }) q)
        | .cold _ => False) := h
      obtain ⟨u, h1, h2⟩ := evalW_ok h
      have hsl : (hid (freeR ancs i m W) s).sl = s.sl := by cases freeR ancs i m W <;> rfl
      simp only [hsl] at h2
      have hf : secondF T (semLo T P X) hi N ops ancs W (o :: l) (m :: ms) i b s = (match evalU T (semLo T P X) hi ancs i b ops (hid (freeR ancs i m W) s) o with
        | some (.ok u) => Bool.rec none (secondF T (semLo T P X) hi N ops ancs W l ms (i + 1) (b + makesN o.op) (u.on s)) (okT N u.dst u.val && (subN (u.ws.map (·.1)) (wroteF i W) && (apartN (u.ws.map (·.1)) (freeR ancs i m W) && exB u.ex (freeR ancs i m W))))
        | _ => none) := rfl
      rw [hf, h1]
      cases u with
      | cold c => exact h2.elim
      | ok u =>
        obtain ⟨h3, h4⟩ := nd_iff.1 h2
        obtain ⟨r, h5, h6⟩ := secondW_ok l h4
        refine ⟨r, ?_, h6⟩
        simp only [h3]
        exact h5
theorem drawnW_ok {ops : List Oper} : ∀ (n : Nat) {s : VS} {k : VS → Prop}, drawnW T P X hi N ops n s k → ∃ s', drawF T (semLo T P X) hi N ops n s = some s' ∧ k s'
  | 0, s, k, h => (show False from h).elim
  | n + 1, s, k, h => by
    have h : firstW T P X hi N (ancsM ops []) ops ops 0 s.rs.length [] (startF ops s) (fun r => match r with
      | .cold l => optW (freezes l s) fun s' => drawnW T P X hi N ops n s' k
      | .ok W s' => drawWW T P X hi N ops (startF ops s) s' s.rs.length W k) := h
    obtain ⟨r, h1, h2⟩ := firstW_ok _ h
    have hf : drawF T (semLo T P X) hi N ops (n + 1) s = (match firstF T (semLo T P X) hi N (ancsM ops []) ops ops 0 s.rs.length [] (startF ops s) with
      | some (.cold l) => match freezes l s with
        | some s' => drawF T (semLo T P X) hi N ops n s'
        | none => none
      | some (.ok W s') => drawW T (semLo T P X) hi N ops (startF ops s) s' s.rs.length W
      | none => none) := rfl
    rw [hf, h1]
    cases r with
    | cold l =>
      obtain ⟨s1, h3, h4⟩ := optW_ok h2
      simp only [h3]
      exact drawnW_ok n h4
    | ok W s' =>
      have h2 : drawWW T P X hi N ops (startF ops s) s' s.rs.length W k := h2
      show ∃ s2, drawW T (semLo T P X) hi N ops (startF ops s) s' s.rs.length W = some s2 ∧ k s2
      unfold drawWW at h2
      unfold drawW
      split at h2
      · exact ⟨_, rfl, h2⟩
      · rename_i hW
        split
        · exact absurd rfl hW
        · exact secondW_ok _ h2
theorem regionW_ok {f : FuncId} {ro : Option Nat} {id : Nat} {ops : List Oper} {draw : Bool} {k : VS → Prop} (h : regionW T P X hi N f ro id ops draw s k) : ∃ s', regionF T (semLo T P X) hi N f ro id ops draw s = some s' ∧ k s' := by
  unfold regionW at h
  cases draw with
  | false =>
    obtain ⟨s1, h1, h2⟩ := opsW_ok _ h
    refine ⟨_, ?_, h2⟩
    show (match opsF T (semLo T P X) hi N ops ops s with
      | some s' => some (tidyF hi f id s')
      | none => none) = _
    rw [h1]
  | true =>
    simp only at h
    cases ro with
    | some r => exact (show False from h).elim
    | none =>
    simp only at h
    split at h
    case h_2 => exact h.elim
    rename_i hst
    obtain ⟨s1, h1, h2⟩ := drawnW_ok _ h
    refine ⟨_, ?_, h2⟩
    show (match staticB ops with
      | true => match drawF T (semLo T P X) hi N ops 8 s with
        | some s' => some (tidyF hi f id s')
        | none => none
      | false => none) = _
    rw [hst, h1]
end
open Go.RowKit
section
variable {P : Program} {T : Tab} {X : Spc} {hi : Hint} {N : Nat} {f : FuncId}
theorem writes_cons (p : Nat × Root) (ws : List (Nat × Root)) (rs : List Root) : writes (p :: ws) rs = writes ws (rs.set p.1 p.2) := by
  show writes ws (setAt rs p.1 p.2) = _
  rw [setAt_eq]
theorem writes_other {q : Nat} : ∀ {ws : List (Nat × Root)} {rs : List Root}, (∀ p ∈ ws, p.1 ≠ q) → (writes ws rs)[q]? = rs[q]?
  | [], rs, _ => rfl
  | p :: ws, rs, h => by
    rw [writes_cons, writes_other fun y hy => h y (List.mem_cons_of_mem _ hy), List.getElem?_set, if_neg (h p (List.mem_cons_self ..))]
theorem writes_same {q : Nat} {x : Root} : ∀ {ws : List (Nat × Root)} {rs : List Root}, q < rs.length → (∀ p ∈ ws, p.1 = q → p.2 = x) → ((∃ p ∈ ws, p.1 = q) ∨ rs[q]? = some x) → (writes ws rs)[q]? = some x
  | [], rs, hq, h, k => by
    rcases k with ⟨p, hp, _⟩ | k
    · cases hp
    · exact k
  | p :: ws, rs, hq, h, k => by
    rw [writes_cons]
    refine writes_same (by simpa using hq) (fun y hy => h y (List.mem_cons_of_mem _ hy)) ?_
    by_cases hp : p.1 = q
    · right
      rw [List.getElem?_set, if_pos hp, hp, if_pos hq, h p (List.mem_cons_self ..) hp]
    · rcases k with ⟨y, hy, hyq⟩ | k
      · rcases List.mem_cons.1 hy with rfl | hy
        · exact (hp hyq).elim
        · exact .inl ⟨y, hy, hyq⟩
      · right
        rw [List.getElem?_set, if_neg hp]; exact k
theorem keysB_spec {S : List Nat} : ∀ {ws : List (Nat × Root)}, keysB S ws = true → ∀ p ∈ ws, p.1 ∈ S
  | [], _, p, hp => by cases hp
  | y :: ws, h, p, hp => by
    obtain ⟨h1, h2⟩ := Bool.rec_true (show (Bool.rec false (keysB S ws) (memN y.1 S) : Bool) = true from h)
    rcases List.mem_cons.1 hp with rfl | hp
    · exact memN_spec.1 h1
    · exact keysB_spec h2 p hp
theorem lowS_spec {n : Nat} : ∀ {ws : List (Nat × Root)}, lowS n ws = true → ∀ p ∈ ws, lowR n p.2 = true
  | [], _, p, hp => by cases hp
  | y :: ws, h, p, hp => by
    obtain ⟨h1, h2⟩ := Bool.rec_true (show (Bool.rec false (lowS n ws) (lowR n y.2) : Bool) = true from h)
    rcases List.mem_cons.1 hp with rfl | hp
    · exact h1
    · exact lowS_spec h2 p hp
theorem diffS_cons (q : Nat) (S : List Nat) (rs' : List Root) : diffS (q :: S) rs' = (match rs'[q]? with
  | some x => (q, x) :: diffS S rs'
  | none => diffS S rs') := by
  show (match nthF rs' q with
    | some x => (q, x) :: diffS S rs'
    | none => diffS S rs') = _
  rw [nthF_get]
theorem diffS_mem {rs' : List Root} : ∀ {S : List Nat} {p : Nat × Root}, p ∈ diffS S rs' ↔ p.1 ∈ S ∧ rs'[p.1]? = some p.2
  | [], p => by simp [diffS]
  | q :: S, p => by
    rw [diffS_cons]
    split
    · rename_i x hx
      rw [List.mem_cons, diffS_mem, List.mem_cons]
      constructor
      · rintro (rfl | ⟨h1, h2⟩)
        · exact ⟨.inl rfl, hx⟩
        · exact ⟨.inr h1, h2⟩
      · rintro ⟨h1 | h1, h2⟩
        · left
          obtain ⟨a, b⟩ := p
          have h1 : a = q := h1
          subst h1
          rw [hx] at h2
          simp only [Option.some.injEq] at h2
          rw [h2]
        · exact .inr ⟨h1, h2⟩
    · rename_i hx
      rw [diffS_mem, List.mem_cons]
      constructor
      · rintro ⟨h1, h2⟩; exact ⟨.inr h1, h2⟩
      · rintro ⟨h1 | h1, h2⟩
        · rw [h1, hx] at h2; simp at h2
        · exact ⟨h1, h2⟩
theorem diffS_ok (S : List Nat) : ∀ rs rs', Grown S rs rs' → lowS rs.length (diffS S rs') = true → ∀ (q : Nat) (x : Root), (writes (diffS S rs') rs)[q]? = some x → rs'[q]? = some x ∧ (rs[q]? = some x ∨ lowR rs.length x = true) := by
  rintro rs rs' ⟨ws, ex, hk, rfl⟩ hl q x hx
  have hq : q < rs.length := by
    have := (List.getElem?_eq_some_iff.1 hx).1
    rwa [writes_length] at this
  have hpre : (writes ws rs ++ ex)[q]? = (writes ws rs)[q]? := List.getElem?_append_left (by rw [writes_length]; exact hq)
  have hlt : q < (writes ws rs).length := by rw [writes_length]; exact hq
  by_cases hS : q ∈ S
  · have hy := List.getElem?_eq_getElem hlt
    generalize (writes ws rs)[q] = y at hy
    have hm : (q, y) ∈ diffS S (writes ws rs ++ ex) := diffS_mem.2 ⟨hS, by rw [hpre]; exact hy⟩
    have hs := writes_same (ws := diffS S (writes ws rs ++ ex)) (x := y) hq (fun p hp hpq => by
      obtain ⟨_, h2⟩ := diffS_mem.1 hp
      rw [hpq, hpre, hy] at h2
      simp only [Option.some.injEq] at h2
      exact h2.symm) (.inl ⟨_, hm, rfl⟩)
    rw [hx] at hs
    simp only [Option.some.injEq] at hs
    subst hs
    exact ⟨by rw [hpre]; exact hy, .inr (lowS_spec hl _ hm)⟩
  · have h1 : (writes (diffS S (writes ws rs ++ ex)) rs)[q]? = rs[q]? := writes_other fun p hp e => hS (e ▸ (diffS_mem.1 hp).1)
    have h2 : (writes ws rs)[q]? = rs[q]? := writes_other fun p hp e => hS (e ▸ keysB_spec hk p hp)
    rw [h1] at hx
    exact ⟨by rw [hpre, h2]; exact hx, .inl hx⟩
theorem runRd_mono {rs rs2 : List Root} (hle : ∀ (q : Nat) (x : Root), nthF rs q = some x → x.live → nthF rs2 q = some x) : ∀ (r : Rd) {o : D × Nat × Root}, runRd rs r = some o → runRd rs2 r = some o
  | .no, o, h => by cases h
  | .ret _, _, h => h
  | .get q k, o, h => by
    have h : (match nthF rs q with
      | some x => match x with
        | .dead => none
        | x => runRd rs (k x)
      | none => none) = some o := h
    show (match nthF rs2 q with
      | some x => match x with
        | .dead => none
        | x => runRd rs2 (k x)
      | none => none) = some o
    cases hx : nthF rs q with
    | none => rw [hx] at h; simp at h
    | some x =>
      rw [hx] at h
      cases x with
      | dead => simp at h
      | _ =>
        rw [hle _ _ hx trivial]
        exact runRd_mono hle _ h
theorem semLo_ok (T : Tab) (P : Program) (X : Spc) : LoOK T P (semLo T P X) where
  call f ds rs d rs' e := by
    unfold semLo at e
    dsimp only at e
    split at e
    · rename_i hk
      simp only [Option.some.injEq, Prod.mk.injEq] at e
      obtain ⟨rfl, rfl⟩ := e
      exact hk.out
    · simp at e
  yld r ds rs d rs' e := by
    unfold semLo at e
    dsimp only at e
    split at e
    · rename_i hk
      simp only [Option.some.injEq, Prod.mk.injEq] at e
      obtain ⟨rfl, rfl⟩ := e
      exact hk.out
    · simp at e
  diff rs rs' ws e := by
    unfold semLo at e
    dsimp only at e
    split at e
    · rename_i hk
      simp only [Option.some.injEq] at e
      subst e
      exact diffS_ok _ _ _ hk.1 hk.2
    · simp at e
  wr f ds rs d q x e := by
    unfold semLo at e
    dsimp only at e
    split at e
    case h_2 => simp at e
    rename_i y hy
    split at e
    · rename_i hk
      simp only [Option.some.injEq] at e
      have h := hk.out rs rfl (fun _ _ q _ => q)
      rw [e] at h
      exact h.out
    · simp at e
  mono f ds rs rs2 r hlen hle e := by
    unfold semLo at e ⊢
    dsimp only at e ⊢
    split at e
    case h_2 => simp at e
    rename_i y hy
    split at e
    · rename_i hk
      simp only [runRd_mono hle _ hy]
      rw [if_pos ⟨fun rs3 h3 h4 => hk.out rs3 (hlen.trans h3) fun k z hz hl => h4 k z (hle k z hz hl) hl⟩]
      exact e
    · simp at e
theorem Kept.take {E E' : Env} (h : Kept E E') (n : Nat) : Kept (E.take n) (E'.take n) := by
  refine ⟨fun r e hr hne => ?_, fun q hq => ?_⟩
  · rw [List.getElem?_take] at hr ⊢
    split at hr
    · rename_i hlt
      rw [if_pos hlt]
      exact h.le r e hr hne
    · simp at hr
  · rw [List.getElem?_take] at hq ⊢
    split at hq
    · rename_i hlt
      rw [if_pos hlt]
      exact h.free q hq
    · simp at hq
theorem Kept.len {E E' : Env} (h : Kept E E') : E.length ≤ E'.length := by
  by_cases hlt : E.length ≤ E'.length
  · exact hlt
  · exfalso
    have hr : E'.length < E.length := by omega
    have h1 := List.getElem?_eq_getElem hr
    have h0 : E'[E'.length]? = none := List.getElem?_eq_none (Nat.le_refl _)
    by_cases h2 : E[E'.length] = hole
    · rw [h2] at h1
      have := h.free _ h1
      rw [h0] at this
      simp at this
    · have := h.le _ _ h1 h2
      rw [h0] at this
      simp at this
theorem Kept.of_take (E : Env) (n : Nat) : Kept (E.take n) E := ⟨fun r e hr _ => by
  rw [List.getElem?_take] at hr
  split at hr
  · exact hr
  · simp at hr, fun q hq => by
  rw [List.getElem?_take] at hq
  split at hq
  · exact hq
  · simp at hq⟩
def Goal (P : Program) (T : Tab) (N : Nat) (b : Frame) (cs : List Frame) (ro : Option Nat) (n0 : Nat) (Post : Option Code → VS → Prop) (todo : List Item) (s : VS) : Prop :=
  ∀ (av0 : Nat → Prop) (w0 : Kp) (sp : List (D × Value)) (a : Act) (w : World) (E : Env), n0 ≤ s.rs.length → (∀ x ∈ sp, lowD n0 x.1 = true) → InRound (E.take n0) b ro → R T N av0 w0 sp s a w E → NilS s.sl →
    ∃ j s' a' w' E' todo', Kept (E.take n0) E' ∧ R T N av0 w0 sp s' a' w' E' ∧ NilS s'.sl ∧ EndAt j todo' ∧ Post j s' ∧ Steps P (lone (b.atR a todo) cs w) (lone (b.atR a' todo') cs w')
theorem rangeW_ok {ro : Option Nat} {g : Operand} {ps : List Tmp} {as bd : Code} {s : VS} {k : Option Code → VS → Prop} (h : rangeW T P X N f ro g ps as bd s k) : ∃ lo j s', LoOK T P lo ∧ rangeF lo N f ro g ps as bd s = some (j, s') ∧ k j s' := by
  unfold rangeW at h
  split at h
  · exact h.elim
  split at h
  case h_2 => exact h.elim
  rename_i c hc
  split at h
  case h_2 => exact h.elim
  rename_i hf caps hcal
  have fin : ∀ (lo : Lo) (d : D) (rs' : List Root), LoOK T P lo → lo.call hf (.c (.yl (s.rs.length + 1)) :: caps) (s.rs ++ [.dfr, .loop f N s.sl ps as bd .ready none]) = some (d, rs') → rangeK s.rs.length s rs' k → ∃ lo j s', LoOK T P lo ∧ rangeF lo N f none g ps as bd s = some (j, s') ∧ k j s' := by
    intro lo d rs' hlo hcall hk
    unfold rangeK at hk
    split at hk
    · rename_i hr
      exact ⟨lo, _, _, hlo, by simp only [rangeF, hc, hcal, hcall, hr], hk⟩
    · rename_i hr
      exact ⟨lo, _, _, hlo, by simp only [rangeF, hc, hcal, hcall, hr], hk⟩
    · exact hk.elim
  unfold rangeH at h
  rcases br_of h with ⟨_, h1, h2⟩ | ⟨_, h1, h2⟩
  · exact fin (semLo T P { X with F := X.R1 }) _ _ (semLo_ok _ _ _) (by simp only [semLo]; rw [if_pos h1]) h2
  · exact fin (semLo T P { X with F := X.R2 }) _ _ (semLo_ok _ _ _) (by simp only [semLo]; rw [if_pos h1]) h2
theorem InRound.take {E E' : Env} {b : Frame} {ro : Option Nat} {n : Nat} (hk : Kept E E') (h : InRound (E.take n) b ro) : InRound (E'.take n) b ro := h.mono (hk.take n).le
theorem runW_ok (hty : TyOK P T) (hmo : P.follows .mixedOrders = true) {b : Frame} (hbf : b.fn = f) {cs : List Frame} {ro : Option Nat} {n0 : Nat} {Post : Option Code → VS → Prop} {stop : Nat → Bool} {L : List Item → VS → Prop} {Q : Option Code → VS → Prop}
    (hL : ∀ todo s, L todo s → Goal P T N b cs ro n0 Post todo s) (hQ : ∀ j s, Q j s → Post j s) :
    ∀ (n : Nat) {go : Bool} {todo : List Item} {s : VS}, runW T P X hi N f ro stop L Q n go todo s → Goal P T N b cs ro n0 Post todo s
  | 0, go, todo, s, e => (show False from e).elim
  | n + 1, go, todo, s, e => by
    intro av0 w0 sp a w E hn0 hlow hro h hn
    have hl := semLo_ok T P X
    have run : ∀ {go1 : Bool} {todo1 : List Item} {s1 : VS} {a1 : Act} {w1 : World} {E1 : Env}, runW T P X hi N f ro stop L Q n go1 todo1 s1 → Kept E E1 → R T N av0 w0 sp s1 a1 w1 E1 → NilS s1.sl → Steps P (lone (b.atR a todo) cs w) (lone (b.atR a1 todo1) cs w1) →
        ∃ j s' a' w' E' todo', Kept (E.take n0) E' ∧ R T N av0 w0 sp s' a' w' E' ∧ NilS s'.sl ∧ EndAt j todo' ∧ Post j s' ∧ Steps P (lone (b.atR a todo) cs w) (lone (b.atR a' todo') cs w') := by
      intro go1 todo1 s1 a1 w1 E1 e1 hk h1 hn1 hst
      have hlen : n0 ≤ s1.rs.length := by
        have := hk.len
        rw [h.len, h1.len] at this
        omega
      obtain ⟨j, s', a', w', E', todo', q1, q2, q3, q4, q5, q6⟩ := runW_ok hty hmo hbf hL hQ n e1 av0 w0 sp a1 w1 E1 hlen hlow (hro.take hk) h1 hn1
      exact ⟨j, s', a', w', E', todo', (hk.take n0).trans q1, q2, q3, q4, q5, hst.trans q6⟩
    have stp : ∀ {c : Option Code}, Q c s → EndAt c todo → ∃ j s' a' w' E' todo', Kept (E.take n0) E' ∧ R T N av0 w0 sp s' a' w' E' ∧ NilS s'.sl ∧ EndAt j todo' ∧ Post j s' ∧ Steps P (lone (b.atR a todo) cs w) (lone (b.atR a' todo') cs w') :=
      fun hq he => ⟨_, s, a, w, E, todo, Kept.of_take E n0, h, hn, he, hQ _ _ hq, Steps.refl _ _⟩
    have hroE : InRound E b ro := hro.mono (Kept.of_take E n0).le
    cases todo with
    | nil => exact stp (c := none) e rfl
    | cons x k =>
      cases x with
      | inBlock id => exact run (todo1 := k) (s1 := s) e (Kept.refl E) h hn (.one stepR_inBlock)
      | inLoop c => exact run (todo1 := .code c :: .inLoop c :: k) (s1 := s) e (Kept.refl E) h hn (.one stepR_inLoop)
      | beginRound =>
        obtain ⟨s1, hs1, e⟩ := optW_ok (show optW (beginF ro s) (fun s' => runW T P X hi N f ro stop L Q n go k s') from e)
        obtain ⟨w', h1, h2, h3⟩ := beginF_R h hroE hs1
        exact run e (Kept.refl E) h1 (by rw [h2]; exact hn) h3
      | code c =>
        cases c with
        | skip => exact run (todo1 := k) (s1 := s) e (Kept.refl E) h hn (.one stepR_skip)
        | label l => exact run (todo1 := k) (s1 := s) e (Kept.refl E) h hn (.one stepR_label)
        | ret => exact stp (c := some .ret) e (.inl ⟨k, rfl, rfl⟩)
        | seq x y => exact run (todo1 := .code x :: .code y :: k) (s1 := s) e (Kept.refl E) h hn (.one stepR_seq)
        | cond c x y =>
          have e : (match boolF (evF s.sl c) with
            | some p => condW s c p (runW T P X hi N f ro stop L Q n go (.code x :: k)) (runW T P X hi N f ro stop L Q n go (.code y :: k))
            | none => False) := e
          split at e
          case h_2 => exact e.elim
          rename_i p hp
          have hv : a.eval c = .bool p := (h.evF hn (boolF_some hp)).1
          have hst := Steps.one (stepR_cond (P := P) (b := b) (k := k) (cs := cs) (w := w) (x := x) (y := y) hv)
          rcases condW_ok hp e with ⟨rfl, e'⟩ | ⟨rfl, e'⟩
          · exact run e' (Kept.refl E) h hn hst
          · exact run e' (Kept.refl E) h hn hst
        | block id c => exact run (todo1 := .code c :: .inBlock id :: k) (s1 := s) e (Kept.refl E) h hn (.one stepR_block)
        | loop c => exact run (todo1 := .code c :: .inLoop c :: k) (s1 := s) e (Kept.refl E) h hn (.one stepR_loop)
        | exit id =>
          have e : (match exitTo id k with
            | some k' => runW T P X hi N f ro stop L Q n go k' s
            | none => Q (some (.exit id)) s) := e
          split at e
          · rename_i k' hk'
            exact run e (Kept.refl E) h hn (.one (stepR_exit hk'))
          · rename_i hk'
            exact stp e (.inr ⟨id, k, rfl, rfl, hk'⟩)
        | region id ops draw =>
          have e0 : Bool.rec (regionW T P X hi N f ro id ops.toList draw s fun s' => runW T P X hi N f ro stop L Q n false k s') (L (.code (.region id ops draw) :: k) s) (!go && stop id) := e
          clear e
          cases hgo : (!go && stop id) with
          | true =>
            rw [hgo] at e0
            exact hL _ _ e0 av0 w0 sp a w E hn0 hlow hro h hn
          | false =>
            rw [hgo] at e0
            obtain ⟨s1, hs1, e⟩ := regionW_ok e0
            cases draw with
            | false =>
              obtain ⟨a', w', E', q1, q2, q3, q4⟩ := region_run (b := b) (k := k) (cs := cs) hty hl h hn hs1
              exact run e q1 q2 q3 q4
            | true =>
              obtain ⟨a', w', E', q1, q2, q3, q4⟩ := draw_run (b := b) (k := k) (cs := cs) hty hl hmo h hn hs1
              exact run e q1 q2 q3 q4
        | rangeFunc g ps as bd =>
          obtain ⟨lo, j1, s1, hlo, hs1, e⟩ := rangeW_ok (show rangeW T P X N f ro g ps.toList as bd s (fun j s' => runW T P X hi N f ro stop L Q n false (jumpF j k) s') from e)
          obtain ⟨a', w', E', q1, q2, q3, q4⟩ := rangeF_R (k := k) (cs := cs) hlo h hn hbf hroE hs1
          exact run e q1 q2 (by rw [q3]; exact hn) q4
        | _ => exact (show False from e).elim
      | _ => exact (show False from e).elim
end
open Go.RowKit
section
variable {P : Program} {T : Tab} {N : Nat} {av0 : Nat → Prop} {w0 : Kp} {sp : List (D × Value)} {s : VS} {a : Act} {w w' : World} {E E' : Env} {f : FuncId}
def DLe (d d' : D) : Prop := ∀ (E : Env) (av : Nat → Prop) (w : World) (v : Value), DRel E av w d v → DRel E av w d' v
theorem DLe.refl (d : D) : DLe d d := fun _ _ _ _ h => h
def LowRoot (n : Nat) (x : Root) : Prop := lowR n x = true ∨ ∃ f N sl ps as bd st pend, x = .loop f N sl ps as bd st pend ∧ ∀ t d c, look sl t = some (d, c) → lowD n d = true
theorem allLt_mono {n m : Nat} (h : n ≤ m) {l : List Nat} (e : allLt n l = true) : allLt m l = true := allLt_of fun r hr => Nat.lt_of_lt_of_le (allLt_spec e r hr) h
theorem lowC_mono {n m : Nat} (h : n ≤ m) {x : C} (e : lowC n x = true) : lowC m x = true := by
  cases x with
  | im x => rfl
  | rt r i j => exact blt_of (Nat.lt_of_lt_of_le (toNat_of_blt e) h)
  | sa r k => exact blt_of (Nat.lt_of_lt_of_le (toNat_of_blt e) h)
  | mp r => exact blt_of (Nat.lt_of_lt_of_le (toNat_of_blt e) h)
  | yl r => exact blt_of (Nat.lt_of_lt_of_le (toNat_of_blt e) h)
  | clo f l => exact allLt_mono h e
theorem lowCs_mono {n m : Nat} (h : n ≤ m) {l : List C} (e : lowCs n l = true) : lowCs m l = true := lowCs_of fun x hx => lowC_mono h (lowCs_spec e x hx)
theorem lowT_mono {n m : Nat} (h : n ≤ m) : ∀ {l : List (Bool × List C)}, lowT n l = true → lowT m l = true
  | [], _ => rfl
  | y :: l, e => by
    obtain ⟨h1, h2⟩ := Bool.rec_true (show (Bool.rec false (lowT n l) (lowCs n y.2) : Bool) = true from e)
    show (Bool.rec false (lowT m l) (lowCs m y.2) : Bool) = true
    rw [lowCs_mono h h1]
    exact lowT_mono h h2
theorem lowD_mono {n m : Nat} (h : n ≤ m) {d : D} (e : lowD n d = true) : lowD m d = true := by
  cases d with
  | c x => exact lowC_mono h e
  | a l => exact lowCs_mono h e
  | t l => exact lowT_mono h e
theorem lowR_mono {n m : Nat} (h : n ≤ m) {x : Root} (e : lowR n x = true) : lowR m x = true := by
  cases x with
  | box l => exact lowCs_mono h e
  | row el sz k l => exact lowCs_mono h e
  | loop f N sl ps as bd st pend => simp [lowR] at e
  | _ => rfl
theorem LowRoot.mono {n m : Nat} (h : n ≤ m) {x : Root} : LowRoot n x → LowRoot m x
  | .inl e => .inl (lowR_mono h e)
  | .inr ⟨f, N, sl, ps, as, bd, st, pend, e, k⟩ => .inr ⟨f, N, sl, ps, as, bd, st, pend, e, fun t d c q => lowD_mono h (k t d c q)⟩
theorem RootRel.low {av : Nat → Prop} {base : Nat} {e : Option Nat × Value × Nat} {x : Root} (h : RootRel E av base w e x) : LowRoot E.length x := by
  cases x with
  | dead => exact .inl rfl
  | box l => obtain ⟨_, _, _, _, _, _, p⟩ := h; exact .inl (L.low p)
  | arr el sz n get => exact .inl rfl
  | row el sz n l => obtain ⟨_, _, _, _, p⟩ := h; exact .inl (L.low p)
  | set l => exact .inl rfl
  | dfr => exact .inl rfl
  | loop f N sl ps as bd st pend =>
    obtain ⟨b, db, tm, p1, p2, p3, p4, p5⟩ := h
    refine .inr ⟨f, N, sl, ps, as, bd, st, pend, rfl, fun t d c q => ?_⟩
    have hcn : c = [] := p5 _ (look_memX q)
    subst hcn
    exact DRel.low ((p4 t d [] q).2.1 fun p hp => by cases hp)
theorem R.cut {sl : Slots} {rs : List Root} {df : List Nat} (h : R T N av0 w0 sp ⟨sl, rs, df⟩ a w E) {n : Nat} (hn : n ≤ rs.length) (hsp : ∀ x ∈ sp, lowD n x.1 = true) (hsl : ∀ t d, look sl t = some (d, []) → lowD n d = true) (hnil : ∀ t d c, look sl t = some (d, c) → c = [])
    (hdf : ∀ r ∈ df, r < n) (hrs : ∀ (q : Nat) (x : Root), (rs.take n)[q]? = some x → LowRoot n x) : R T N av0 w0 sp ⟨sl, rs.take n, df⟩ a w (E.take n) := by
  have hk := Kept.of_take E n
  have hEl : (E.take n).length = n := by rw [List.length_take, h.len]; exact Nat.min_eq_left hn
  have hat : ∀ {r b sz : Nat}, atRoot (E.take n) r b sz → atRoot E r b sz := fun ⟨hh, q⟩ => ⟨hh, by
    rw [List.getElem?_take] at q
    split at q
    · exact q
    · simp at q⟩
  have hr : ∀ {q : Nat} {x : Root}, (rs.take n)[q]? = some x → rs[q]? = some x := fun q => by
    rw [List.getElem?_take] at q
    split at q
    · exact q
    · simp at q
  have hav : ∀ b, AV av0 (rs.take n) (E.take n) b → AV av0 rs E b := by
    rintro b (q | ⟨r, x, sz, h1, h2, h3⟩)
    · exact .inl q
    · exact .inr ⟨r, x, sz, hr h1, h2, hat h3⟩
  have hD : ∀ {d : D} {v : Value}, lowD n d = true → DRel E (AV av0 rs E) w d v → DRel (E.take n) (AV av0 (rs.take n) (E.take n)) w d v := fun hl q => DRel.shrink hk hav (by rw [hEl]; exact hl) q
  have hC : ∀ {l : List C} {cs : List Value}, lowCs n l = true → All2 (CRel E (AV av0 rs E) w) l cs → All2 (CRel (E.take n) (AV av0 (rs.take n) (E.take n)) w) l cs := fun hl q => q.shrink fun x hx y p => CRel.shrink hk hav (by rw [hEl]; exact lowCs_spec hl x hx) p
  have hdef : ∀ {df : List Nat} {ds : List Deferred}, (∀ r ∈ df, r < n) → All2 (fun r (d : Deferred) => ∃ b sz, atRoot E r b sz ∧ d = { target := .collected b, args := #[] }) df ds → All2 (fun r (d : Deferred) => ∃ b sz, atRoot (E.take n) r b sz ∧ d = { target := .collected b, args := #[] }) df ds := by
    intro df ds h1 h2
    refine h2.shrink fun r hr' d ⟨b, sz, ⟨hh, q⟩, e⟩ => ⟨b, sz, ⟨hh, ?_⟩, e⟩
    rw [List.getElem?_take, if_pos (h1 r hr')]; exact q
  refine ⟨h.size, hdef hdf h.defers, fun x hx => hD (hsp x hx) (h.spec x hx), h.below, by rw [hEl]; simp [Nat.min_eq_left hn], h.outer, ?_, fun r x b sz h1 h2 h3 => h.blk r x b sz (hr h1) h2 (hat h3), fun r r' x x' b sz sz' h1 h1' h2 h2' h3 h3' => h.inj r r' x x' b sz sz' (hr h1) (hr h1') h2 h2' (hat h3) (hat h3'), ?_, h.glob.mono (Keeps.refl _ w) (fun b _ q => hav b q)⟩
  · intro r x e h1 h2
    have hE : E[r]? = some e := by
      rw [List.getElem?_take] at h2
      split at h2
      · exact h2
      · simp at h2
    have hrel := h.roots r x e (hr h1) hE
    have hlow := hrs r x h1
    cases x with
    | dead => trivial
    | box l =>
      obtain ⟨b, cs, Tc, p1, p2, p3, p4⟩ := hrel
      rcases hlow with hlow | ⟨_, _, _, _, _, _, _, _, e, _⟩
      · exact ⟨b, cs, Tc, p1, p2, p3, hC hlow p4⟩
      · cases e
    | row el sz k l =>
      obtain ⟨p1, p2, xs, p3, p4⟩ := hrel
      rcases hlow with hlow | ⟨_, _, _, _, _, _, _, _, e, _⟩
      · exact ⟨p1, p2, xs, p3, hC hlow p4⟩
      · cases e
    | arr el sz k get =>
      obtain ⟨p1, p2, xs, p3, p4⟩ := hrel
      refine ⟨p1, p2, xs, p3, fun i hi j hj => ?_⟩
      obtain ⟨x, p5, p6⟩ := p4 i hi j hj
      exact ⟨x, p5, IRel.mono (Keeps.refl _ w) (fun b _ q => hav b q) p6⟩
    | set l => exact hrel
    | dfr => exact hrel
    | loop f M sl' ps as bd st pend =>
      obtain ⟨b, db, tm, p1, p2, p3, p4, p5⟩ := hrel
      rcases hlow with hlow | ⟨_, _, _, _, _, _, _, _, e, hlow⟩
      · simp [lowR] at hlow
      · simp only [Root.loop.injEq] at e
        obtain ⟨rfl, rfl, rfl, rfl, rfl, rfl, rfl, rfl⟩ := e
        exact ⟨b, db, tm, p1, p2, p3, fun t d c hl => by
          obtain ⟨s1, s2, s3⟩ := p4 t d c hl
          exact ⟨s1, fun q => hD (hlow t d c hl) (s2 q), s3⟩, p5⟩
  · intro t d c hl
    have hcn := hnil t d c hl
    subst hcn
    obtain ⟨s1, s2, s3⟩ := h.slots t d [] hl
    exact ⟨s1, fun q => hD (hsl t d hl) (s2 q), s3⟩
def likeR (x y : Root) : Prop := y = x ∨ ∃ f N sl ps a b st pd st' pd', x = .loop f N sl ps a b st pd ∧ y = .loop f N sl ps a b st' pd'
theorem likeR.low {n : Nat} {x y : Root} (h : likeR x y) (hx : LowRoot n x) : LowRoot n y := by
  rcases h with rfl | ⟨f, N, sl, ps, a, b, st, pd, st', pd', rfl, rfl⟩
  · exact hx
  · rcases hx with h | ⟨_, _, _, _, _, _, _, _, e, k⟩
    · simp [lowR] at h
    · simp only [Root.loop.injEq] at e
      obtain ⟨rfl, rfl, rfl, rfl, rfl, rfl, rfl, rfl⟩ := e
      exact .inr ⟨_, _, _, _, _, _, _, _, rfl, k⟩
def endsR (n : Nat) : List Root → List Root → Prop
  | _, [] => True
  | [], y :: l => lowR n y = true ∧ endsR n [] l
  | x :: k, y :: l => (likeR x y ∨ lowR n y = true) ∧ endsR n k l
theorem endsR_get {n : Nat} : ∀ {k l : List Root}, endsR n k l → ∀ (q : Nat) (x : Root), l[q]? = some x → (∃ z, k[q]? = some z ∧ likeR z x) ∨ lowR n x = true
  | _, [], _, q, x, e => by simp at e
  | [], y :: l, h, 0, x, e => by simp at e; subst e; exact .inr h.1
  | [], y :: l, h, q + 1, x, e => by
    rcases endsR_get h.2 q x (by simpa using e) with h1 | h1
    · simp at h1
    · exact .inr h1
  | z :: k, y :: l, h, 0, x, e => by
    simp at e; subst e
    exact h.1.imp (fun e => ⟨z, rfl, e⟩) id
  | z :: k, y :: l, h, q + 1, x, e => by simpa using endsR_get h.2 q x (by simpa using e)
theorem endsR_refl (n : Nat) : ∀ l, endsR n l l
  | [] => trivial
  | _ :: l => ⟨.inl (.inl rfl), endsR_refl n l⟩
def Ends (rs : List Root) (d : D) (rs' : List Root) (d1 : D) (rs1 : List Root) : Prop := ∃ n, rs.length ≤ n ∧ n ≤ rs1.length ∧ rs1.take n = rs' ∧ lowD n d1 = true ∧ DLe d1 d ∧ endsR n rs rs'
theorem R.ends {sl : Slots} {rs rs1 rs' : List Root} {df : List Nat} (h : R T N av0 w0 sp ⟨sl, rs, df⟩ a w E) (hnil : ∀ t d c, look sl t = some (d, c) → c = []) (h' : R T N av0 w0 sp ⟨sl, rs1, df⟩ a w' E') (hk : Kept E E') {d d1 : D} (he : Ends rs d rs' d1 rs1) {v : Value} (hv : DRel E' (AV av0 rs1 E') w' d1 v) :
    ∃ E'', Kept E E'' ∧ R T N av0 w0 sp ⟨sl, rs', df⟩ a w' E'' ∧ DRel E'' (AV av0 rs' E'') w' d v := by
  obtain ⟨n, h1, h2, rfl, h4, h5, h6⟩ := he
  have hlE : E.length = rs.length := h.len
  have hlE' : E'.length = rs1.length := h'.len
  have hcut := h'.cut h2 (fun x hx => lowD_mono (by omega) (DRel.low (h.spec x hx))) (fun t d hl => lowD_mono (by omega) (DRel.low ((h.slots t d [] hl).2.1 fun p hp => by cases hp))) hnil (fun r hr => by
      obtain ⟨dd, b, sz, q, _⟩ := h.defers.left r hr
      have := lt_of_at q
      omega) (fun q x hx => by
      rcases endsR_get h6 q x hx with ⟨z, hq, hz⟩ | hq
      · have hlt : q < E.length := by rw [hlE]; exact (List.getElem?_eq_some_iff.1 hq).1
        exact hz.low ((RootRel.low (h.roots q z _ hq (List.getElem?_eq_getElem hlt))).mono (by omega))
      · exact .inl hq)
  have hk2 : Kept E (E'.take n) := by
    have hEt : E.take n = E := List.take_of_length_le (by omega)
    have := hk.take n
    rwa [hEt] at this
  refine ⟨E'.take n, hk2, hcut, h5 _ _ _ _ (DRel.shrink (Kept.of_take E' n) (fun b q => ?_) (by rw [List.length_take, hlE', Nat.min_eq_left h2]; exact h4) hv)⟩
  rcases q with q | ⟨r, x, sz, q1, q2, ⟨hh, q3⟩⟩
  · exact .inl q
  · rw [List.getElem?_take] at q1 q3
    split at q1
    · rename_i hlt
      rw [if_pos hlt] at q3
      exact .inr ⟨r, x, sz, q1, q2, hh, q3⟩
    · simp at q1
theorem enter_R {fn : Func} {c : Code} (hf : P.funcs[f]? = some fn) (hc : fn.body = some c) {ds : List D} (hlen : ds.length ≤ fn.ntmps) {sl : Slots} {rs : List Root} {df : List Nat} (h : R T N av0 w0 sp ⟨sl, rs, df⟩ a w E) {vs : List Value} (hv : All2 (DRel E (AV av0 rs E) w) ds vs) :
    ∃ (b : Frame) (tm : Array Value), b.fn = f ∧ b.roundOf = none ∧ b.kind = .normal ∧ Frame.enter P f vs.toArray .normal = b.atR { tmps := tm, defers := [] } [.code c] ∧ R T fn.ntmps av0 w0 (spOf sl a ++ sp) ⟨argSlots 0 ds, rs, []⟩ { tmps := tm, defers := [] } w E := by
  let b : Frame := { (default : Frame) with fn := f, kind := .normal, roundOf := none }
  let tm := vs.toArray ++ Array.replicate (fn.ntmps - vs.toArray.size) undef
  have hvl := hv.length
  have henter : Frame.enter P f vs.toArray .normal = b.atR { tmps := tm, defers := [] } [.code c] := by
    simp [Frame.enter, Frame.atR, hf, hc, b, tm]
  have htm : tm.size = fn.ntmps := by simp only [tm, Array.size_append, Array.size_replicate, List.size_toArray]; omega
  refine ⟨b, tm, rfl, rfl, rfl, henter, h.deeper (M := fn.ntmps) (sl1 := argSlots 0 ds) (tm := tm) htm (fun t d' c' hl => ?_)⟩
  obtain ⟨rfl, _, h2⟩ := argSlots_look hl
  simp only [Nat.sub_zero] at h2
  have ht : t < ds.length := (List.getElem?_eq_some_iff.1 h2).1
  obtain ⟨v, h3, h4⟩ := hv.nth (i := t) (x := d') (by rw [nth_eq]; exact h2)
  refine ⟨Nat.lt_of_lt_of_le ht hlen, fun _ => ?_, fun q => (q fun p hp => by cases hp).elim⟩
  have hg : tm.getD t undef = v := by
    have htv : t < vs.length := by rw [← hvl]; exact ht
    have : vs[t]? = some v := h3
    simp only [tm]
    rw [Array.getD_eq_getD_getElem?, Array.getElem?_append_left (by simpa using htv)]
    simp [this]
  rw [hg]
  exact h4
theorem fun_conQ (hty : TyOK P T) {fn : Func} (hf : P.funcs[f]? = some fn) (hname : (fn.name == "runtime.NumGoroutine") = false) {c : Code} (hc : fn.body = some c) {ds : List D} {rs : List Root} {d : D} {rs' : List Root} (hlen : ds.length ≤ fn.ntmps) {Q : D → List Root → Prop} (hQ : ∀ {av0 : Nat → Prop} {w0 : Kp} {sp : List (D × Value)} {a : Act} {w w' : World} {E E' : Env} {d1 : D} {rs1 : List Root} {v : Value}, Q d1 rs1 → (∀ x ∈ sp, lowD rs.length x.1 = true) → R T fn.ntmps av0 w0 sp ⟨[], rs, []⟩ a w E → R T fn.ntmps av0 w0 sp ⟨[], rs1, []⟩ a w' E' → Kept E E' → DRel E' (AV av0 rs1 E') w' d1 v → ∃ E'', Kept E E'' ∧ R T fn.ntmps av0 w0 sp ⟨[], rs', []⟩ a w' E'' ∧ DRel E'' (AV av0 rs' E'') w' d v)
    (hg : ∀ (b : Frame) (cs : List Frame), b.fn = f → Goal P T fn.ntmps b cs none rs.length (leafQ T fn.results.toList Q) [.code c] ⟨argSlots 0 ds, rs, []⟩) : LoCon T P f ds rs d rs' := by
  refine ⟨⟨fn, hf, hname, by simp [hc]⟩, ?_⟩
  intro N av0 w0 sp sl df a w E vs h0 hv cs
  -- the caller's slots, as spectators; those under a condition are let go
  obtain ⟨b, tm, hbf, hbr, hbk, henter, hR⟩ := enter_R (P := P) (f := f) hf hc hlen h0 hv
  have hlow : ∀ x ∈ spOf sl a ++ sp, lowD rs.length x.1 = true := fun x hx => by
    have := DRel.low (hR.spec x hx)
    rwa [hR.len] at this
  obtain ⟨j, s, a', w1, E', todo', hk, hR', hn', hend, hpost, hsteps⟩ := hg b cs hbf _ _ _ _ _ _ (Nat.le_refl _) hlow hbr hR argSlots_nil
  have hEt : E.take rs.length = E := List.take_of_length_le (Nat.le_of_eq h0.len)
  rw [hEt] at hk
  obtain ⟨hret, hpost⟩ := nd_iff.1 hpost
  obtain ⟨x, hres0, hpost⟩ := optW_ok hpost
  obtain ⟨d1, rs1⟩ := x
  unfold endF at hres0
  split at hres0
  case h_2 => simp at hres0
  rename_i rs2 htake
  split at hres0
  case h_2 => simp at hres0
  rename_i d2 hres
  simp only [Option.some.injEq, Prod.mk.injEq] at hres0
  obtain ⟨rfl, rfl⟩ := hres0
  have hback : Steps P (lone (b.atR a' todo') cs w1) (lone { b.atR a' todo' with mode := .returning } cs w1) := by
    cases j with
    | none =>
      have hend : todo' = [] := hend
      subst hend
      exact .one (stepR_end hbr)
    | some c' =>
      rcases hend with ⟨k, rfl, rfl⟩ | ⟨id, k, rfl, _, _⟩
      · exact .one (stepR_ret hbr)
      · simp [retB] at hret
  have hR'' : R T fn.ntmps av0 w0 (spOf sl a ++ sp) ⟨s.sl, s.rs, s.df⟩ a' w1 E' := hR'
  obtain ⟨w2, hR2, hst2⟩ := take_run (P := P) (cs := cs) s.df (fr := { b.atR a' todo' with mode := .returning }) htake hR'' rfl rfl
  obtain ⟨pr, hpr1, hpr2⟩ := resF_D (s := ⟨s.sl, rs2, []⟩) hn' hres
  obtain ⟨v, hrv, hdv⟩ := results_sound hty hR2 hpr1 hpr2
  -- the callee's frame is as without slots
  have hR3 : R T fn.ntmps av0 w0 (spOf sl a ++ sp) ⟨[], rs2, []⟩ { a' with defers := [] } w2 E' := ⟨hR2.size, hR2.defers, hR2.spec, hR2.below, hR2.len, hR2.outer, hR2.roots, hR2.blk, hR2.inj, fun t d c q => by simp [look] at q, hR2.glob⟩
  have hR0 : R T fn.ntmps av0 w0 (spOf sl a ++ sp) ⟨[], rs, []⟩ { tmps := a'.tmps, defers := [] } w E := ⟨hR2.size, .nil, hR.spec, hR.below, hR.len, hR.outer, hR.roots, hR.blk, hR.inj, fun t d c q => by simp [look] at q, hR.glob⟩
  obtain ⟨E'', hk2, hR4, hd4⟩ := hQ hpost hlow hR0 hR3 hk hdv
  refine ⟨.returned v, w2, { { b.atR a' todo' with mode := .returning } with defers := [] }, ⟨v, E'', rfl, hk2, h0.back (s' := ⟨[], rs', []⟩) hR4 hk2.le, hd4⟩, ?_, ?_, ?_, ?_, ?_, fn, ?_, hrv⟩
  · rw [henter]
    exact (hsteps.trans hback).trans hst2
  all_goals first | rfl | exact hbf | exact hbk | exact hbr | exact (show P.funcs[b.fn]? = some fn from hbf ▸ hf)
theorem fun_con (hty : TyOK P T) {fn : Func} (hf : P.funcs[f]? = some fn) (hname : (fn.name == "runtime.NumGoroutine") = false) {c : Code} (hc : fn.body = some c) {ds : List D} {rs : List Root} {d : D} {rs' : List Root} (hlen : ds.length ≤ fn.ntmps)
    (hg : ∀ (b : Frame) (cs : List Frame), b.fn = f → Goal P T fn.ntmps b cs none rs.length (leafQ T fn.results.toList (Ends rs d rs')) [.code c] ⟨argSlots 0 ds, rs, []⟩) : LoCon T P f ds rs d rs' :=
  fun_conQ hty hf hname hc hlen (fun hq _ h h' hk hv => h.ends (fun t d c q => by simp [look] at q) h' hk hq hv) hg
theorem round_con (hty : TyOK P T) {r M : Nat} {g : FuncId} {sl0 sl1 : Slots} {ps : List Tmp} {as bd : Code} {ds : List D} {rs : List Root} {d : D} {rs' : List Root} (hr : rs[r]? = some (.loop g M sl0 ps as bd .ready none)) (hsl1 : setP M ps ds sl0 = some sl1)
    (hg : ∀ (b : Frame) (cs : List Frame), b.fn = g → Goal P T M b cs (some r) rs.length (leafY r (Ends rs d rs')) [.code as, .beginRound, .code bd] ⟨sl1, rs, []⟩) : YCon T P r ds rs d rs' := by
  constructor
  intro N av0 w0 sp sl df a w E vs h hv
  obtain ⟨l, hd, sz, db, tm, h1, h2, h3, h4, h5⟩ := h.loop hr
  have hR := h.deeper (M := M) (sl1 := sl0) (tm := tm) h3 h4
  obtain ⟨hlen, hR1, hn1⟩ := setP_R (tms := id) hsl1 hR h5 hv
  have hy := run_yield (P := P) (args := vs.toArray) h2 (by simp [hlen])
  refine ⟨l, sz, g, _, as, bd, ⟨hd, h1⟩, hy, ?_⟩
  have htm : (Array.foldl (fun tmps x => match x with
      | (t, a) => tmps.setIfInBounds t a) tm (ps.toArray.zip vs.toArray)) = (ps.zip vs).foldl (fun tmps x => tmps.setIfInBounds x.1 x.2) tm := by
    simp
  intro c cs
  simp only at htm ⊢
  rw [htm]
  let b : Frame := { (default : Frame) with fn := g, kind := .normal, roundOf := some l }
  have hb0 : ∀ tm, Frame.round l g tm as bd .normal = b.atR { tmps := tm, defers := [] } [.code as, .beginRound, .code bd] := fun tm => by
    simp [Frame.round, Frame.atR, b]
  rw [hb0]
  have hlow : ∀ x ∈ spOf sl a ++ sp, lowD rs.length x.1 = true := fun x hx => by
    have := DRel.low (hR.spec x hx)
    rwa [hR.len] at this
  have hEt : E.take rs.length = E := List.take_of_length_le (Nat.le_of_eq h.len)
  obtain ⟨j, s, a', w1, E', todo', hk, hR', hn', hend, hpost, hsteps⟩ := hg b (c :: cs) rfl _ _ _ _ _ _ (Nat.le_refl _) hlow (by rw [hEt]; exact ⟨l, sz, rfl, hd, h1⟩) hR1 hn1
  rw [hEt] at hk
  obtain ⟨x, e, hpost⟩ := optW_ok hpost
  obtain ⟨d1, rs1⟩ := x
  unfold roundF at e
  split at e
  case h_2 => simp at e
  rename_i hdf
  split at e
  case h_2 => simp at e
  rename_i g' M' sl' ps' as' bd' hr'
  rw [nthF_get] at hr'
  obtain ⟨l', hd', sz', db', tm', q1, q2, q3, q4, q5⟩ := hR'.loop hr'
  have hE' := hk.le r _ h1 (by simp [hole])
  rw [hE'] at q1
  simp only [Option.some.injEq, Prod.mk.injEq] at q1
  obtain ⟨rfl, rfl, rfl⟩ := q1
  have fin : ∀ (st : LoopState) (pend : Option Code) (bv : Bool), d1 = bool bv → rs1 = setAt s.rs r (.loop g' M' sl' ps' as' bd' st pend) →
      ∃ E'', Kept E E'' ∧ R T N av0 w0 sp ⟨sl, rs', df⟩ a (w1.putObj l (.loop { state := st, pending := pend, fn := g', tmps := tm', params := ps'.toArray, assign := as', body := bd', defers := db' })) E'' ∧ DRel E'' (AV av0 rs' E'') (w1.putObj l (.loop { state := st, pending := pend, fn := g', tmps := tm', params := ps'.toArray, assign := as', body := bd', defers := db' })) d (.bool bv) := by
    intro st pend bv hd1 hrs1
    have hT := hR'.turnLoop hr' hE' q2 q3 q4 q5 st pend
    rw [← hrs1] at hT
    have hsd : s.df = [] := hdf
    have hR3 : R T M av0 w0 (spOf sl a ++ sp) ⟨[], rs1, []⟩ { a' with defers := [] } (w1.putObj l (.loop { state := st, pending := pend, fn := g', tmps := tm', params := ps'.toArray, assign := as', body := bd', defers := db' })) E' := ⟨hT.size, .nil, hT.spec, hT.below, hT.len, hT.outer, hT.roots, hT.blk, hT.inj, fun t d c q => by simp [look] at q, hT.glob⟩
    have hR0 : R T M av0 w0 (spOf sl a ++ sp) ⟨[], rs, []⟩ { tmps := a'.tmps, defers := [] } w E := ⟨hT.size, .nil, hR1.spec, hR1.below, hR1.len, hR1.outer, hR1.roots, hR1.blk, hR1.inj, fun t d c q => by simp [look] at q, hR1.glob⟩
    obtain ⟨E'', hk2, hR4, hd4⟩ := hR0.ends (fun t d c q => by simp [look] at q) hR3 hk hpost (v := .bool bv) (by rw [hd1]; exact ⟨rfl, rfl⟩)
    exact ⟨E'', hk2, h.back (s' := ⟨[], rs', []⟩) hR4 hk2.le, hd4⟩
  cases j with
  | none =>
    simp only [Option.some.injEq, Prod.mk.injEq] at e
    have hend : todo' = [] := hend
    subst hend
    exact ⟨.bool true, _, fin .ready none true e.1.symm e.2.symm, hsteps.trans (.one (stepR_round_end rfl rfl (run_endRound none q2)))⟩
  | some c' =>
    simp only [Option.some.injEq, Prod.mk.injEq] at e
    refine ⟨.bool false, _, fin .done (some c') false e.1.symm e.2.symm, hsteps.trans (.one ?_)⟩
    rcases hend with ⟨k, rfl, rfl⟩ | ⟨id, k, rfl, rfl, hx⟩
    · exact stepR_round_ret rfl rfl (run_endRound (some .ret) q2)
    · exact stepR_round_exit rfl rfl hx (run_endRound (some (.exit id)) q2)
end
end Go.V
