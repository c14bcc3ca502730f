/- A row that isn't turned any more. -/
import Derived.Test.YtkbgcnppkmkkiaaDoorVx7
set_option linter.unusedVariables false
namespace Go.V
open Go.RowKit
/-- A choice of blocks that may turn, without root r's. -/
structure But (r : Nat) (av' : Nat → Prop) (av0 : Nat → Prop) (s : VS) (E : Env) : Prop where
  le : ∀ b, av' b → AV av0 s.rs E b
  no : ∀ b sz, atRoot E r b sz → ¬ av' b
section
variable {P : Program} {T : Tab} {lo : Lo} {hi : Hint} {N : Nat} {av0 : Nat → Prop} {w0 : World} {sp : List (D × Value)} {s : VS} {a : Act} {w : World} {E : Env} {ρ : Option Nat}

theorem row_frozen (h : R T N av0 w0 sp s a w E) {r el sz n m : Nat} {l : List C} {is : List I} (hr : s.rs[r]? = some (.row el sz n l)) (hi : imm l = some is) {av' : Nat → Prop} (ha : But r av' av0 s E) {v : Value}
    (hv : CRel E (AV av0 s.rs E) w (.sa r m) v) : IRel av' w (.sl sz m (flat sz is)) v := by
  obtain ⟨e', ao, n', cap, h1, h2, h3, rfl⟩ := hv
  obtain ⟨q1, q2, xs, q3, q4⟩ := h.roots r _ _ hr h1
  have him := imm_eq hi
  subst him
  have hx := lift_to q4
  have hxl := hx.length
  rcases q3.2 with ⟨q5, q6⟩ | ⟨g, cap', cur, q5, q6, q7, q8, q9, q10, q11⟩
  · rw [h2] at q5
    simp only [Value.slice.injEq] at q5
    obtain ⟨rfl, rfl, rfl⟩ := q5
    exact ⟨none, 0, rfl, by omega, by omega, fun h0 => by omega⟩
  · rw [h2] at q5
    simp only [Value.slice.injEq] at q5
    obtain ⟨rfl, rfl, rfl⟩ := q5
    have hat : atRoot E r g e'.2.2 := by
      obtain ⟨e1, e2, e3⟩ := e'
      have h2 : e2 = _ := h2
      have q2 : e1 = e2.ownBlock := q2
      rw [h2] at q2
      exact ⟨e2, by rw [h1, q2]; rfl⟩
    refine ⟨_, cap, rfl, by omega, by omega, fun _ => ⟨_, rfl, rfl, ha.no g _ hat, (Array.getElem?_eq_some_iff.1 q7).1, fun i hi' j hj => ?_⟩⟩
    have hlt : i * sz + j < n' * sz := by
      have := Nat.mul_le_mul_right sz (show i + 1 ≤ n' by omega)
      rw [Nat.add_mul, Nat.one_mul] at this
      omega
    obtain ⟨x, h5, h6⟩ := getL_rel hx (q := i * sz + j) (by rw [hxl, q3.1]; exact hlt)
    refine ⟨x, ?_, IRel.mono (Keeps.refl _ w) (fun b _ hb => ha.le b hb) h6⟩
    rw [Addr.add_mid, getElem?_lit q7]
    rw [← q11, List.getElem?_take, if_pos hlt] at h5
    simpa using h5

theorem subC_rel (h : R T N av0 w0 sp s a w E) {r el sz n : Nat} {l : List C} {is : List I} (hr : s.rs[r]? = some (.row el sz n l)) (hi : imm l = some is) {av' : Nat → Prop} (ha : But r av' av0 s E) {x : C} {v : Value}
    (hv : CRel E (AV av0 s.rs E) w x v) : CRel E av' w (subC r sz (flat sz is) x) v := by
  unfold subC
  split
  · rename_i q m
    cases hq : Nat.beq q r with
    | true =>
      have hq := Nat.eq_of_beq_eq_true hq
      subst hq
      exact row_frozen h hr hi ha hv
    | false => exact CRel.mono (Env.le_refl E) (Keeps.refl _ w) (fun b _ q => ha.le b q) hv
  · exact CRel.mono (Env.le_refl E) (Keeps.refl _ w) (fun b _ q => ha.le b q) hv
theorem All2.mapL {α β γ : Type} {f : α → β} {Ra : α → γ → Prop} {Rb : β → γ → Prop} (h : ∀ x y, Ra x y → Rb (f x) y) {l : List α} {m : List γ} (k : All2 Ra l m) : All2 Rb (l.map f) m := by
  induction k with
  | nil => exact .nil
  | cons q _ ih => exact .cons (h _ _ q) ih
theorem subD_rel (h : R T N av0 w0 sp s a w E) {r el sz n : Nat} {l : List C} {is : List I} (hr : s.rs[r]? = some (.row el sz n l)) (hi : imm l = some is) {av' : Nat → Prop} (ha : But r av' av0 s E) {d : D} {v : Value}
    (hv : DRel E (AV av0 s.rs E) w d v) : DRel E av' w (subD r sz (flat sz is) d) v := by
  cases d with
  | c x => exact subC_rel h hr hi ha hv
  | a l => obtain ⟨cs, h1, h2⟩ := hv; exact ⟨cs, h1, h2.mapL fun _ _ q => subC_rel h hr hi ha q⟩
  | t l =>
    obtain ⟨vs, h1, h2⟩ := hv
    refine ⟨vs, h1, h2.mapL ?_⟩
    rintro ⟨b, l⟩ y q
    cases b with
    | true => obtain ⟨cs, q1, q2⟩ := q; exact ⟨cs, q1, q2.mapL fun _ _ q => subC_rel h hr hi ha q⟩
    | false => obtain ⟨c, q1, q2⟩ := q; exact ⟨_, by simp [show l = [c] from q1], subC_rel h hr hi ha q2⟩

theorem look_map {sl : Slots} (f : D → D) : ∀ {t : Tmp} {d : D} {c : Cond}, look (sl.map fun x => (x.1, f x.2.1, x.2.2)) t = some (d, c) → ∃ d0, d = f d0 ∧ look sl t = some (d0, c) := by
  induction sl with
  | nil => intro t d c h; simp [look] at h
  | cons x sl ih =>
    intro t d c h
    obtain ⟨k, e, c0⟩ := x
    simp only [List.map_cons, look] at h ⊢
    split at h
    · rename_i hk
      simp only [Option.some.injEq, Prod.mk.injEq] at h
      obtain ⟨rfl, rfl⟩ := h
      exact ⟨e, rfl, by simp⟩
    · rename_i hk
      obtain ⟨d0, h1, h2⟩ := ih h
      exact ⟨d0, h1, h2⟩

theorem subR_live {r sz : Nat} {get : Nat → Nat → I} {x : Root} : (subR r sz get x).live → x.live := by
  cases x <;> exact id

/-- A row is frozen. -/
theorem R.freeze (h : R T N av0 w0 sp s a w E) {r : Nat} {s' : VS} (e : freeze r s = some s') : R T N av0 w0 sp s' a w E ∧ (NilS s.sl → NilS s'.sl) := by
  unfold Go.V.freeze at e
  split at e
  · rename_i el sz n l hl
    rw [nthF_eq, nth_eq] at hl
    unfold freezeL at e
    split at e
    case h_2 => simp at e
    rename_i is hi
    simp only [Option.some.injEq] at e
    subst e
    have key : ∀ (q : Nat) (y : Root), (setAt (s.rs.map (subR r sz (flat sz is))) r .dead)[q]? = some y → y.live → q ≠ r ∧ ∃ x, s.rs[q]? = some x ∧ y = subR r sz (flat sz is) x ∧ x.live := by
      intro q y h1 h2
      rw [setAt_eq, List.getElem?_set] at h1
      split at h1
      · rename_i hq
        split at h1
        · simp only [Option.some.injEq] at h1; subst h1; exact h2.elim
        · simp at h1
      · rename_i hq
        rw [List.getElem?_map] at h1
        cases hx : s.rs[q]? with
        | none => rw [hx] at h1; simp at h1
        | some x =>
          rw [hx] at h1
          simp only [Option.map_some, Option.some.injEq] at h1
          subst h1
          exact ⟨fun e => hq e.symm, x, rfl, rfl, subR_live h2⟩
    have hb : But r (AV av0 (setAt (s.rs.map (subR r sz (flat sz is))) r .dead) E) av0 s E := by
      refine ⟨?_, ?_⟩
      · rintro b (q | ⟨q, y, z, h1, h2, h3⟩)
        · exact .inl q
        · obtain ⟨_, x, h4, _, h5⟩ := key q y h1 h2
          exact .inr ⟨q, x, z, h4, h5, h3⟩
      · rintro b z hat (q | ⟨q, y, z', h1, h2, h3⟩)
        · have := (h.blk r _ b z hl trivial hat).1
          have := h.outer b q
          omega
        · obtain ⟨hne, x, h4, _, h5⟩ := key q y h1 h2
          exact hne (h.inj q r x _ b z' z h4 hl h5 trivial h3 hat)
    refine ⟨⟨h.size, h.defers, fun x hx => DRel.mono (Env.le_refl E) (Keeps.refl _ w) (fun b _ q => hb.le b q) (h.spec x hx), h.below, by rw [setAt_eq]; simpa using h.len, h.outer, ?_, ?_, ?_, ?_, h.glob.mono (Keeps.refl _ w) (fun b _ q => hb.le b q)⟩, ?_⟩
    · intro q y e h1 h2
      by_cases hlv : y.live
      · obtain ⟨hne, x, h4, rfl, h5⟩ := key q y h1 hlv
        have hx := h.roots q x e h4 h2
        cases x with
        | box l2 =>
          obtain ⟨b, cs, Tc, p1, p2, p3, p4⟩ := hx
          exact ⟨b, cs, Tc, p1, by rw [p2]; simp, p3, p4.mapL fun _ _ q => subC_rel h hl hi hb q⟩
        | row el2 sz2 n2 l2 =>
          obtain ⟨p1, p2, xs, p3, p4⟩ := hx
          exact ⟨p1, p2, xs, p3, p4.mapL fun _ _ q => subC_rel h hl hi hb q⟩
        | dead => trivial
        | arr el2 sz2 n2 get => exact RootRel.mono (x := .arr el2 sz2 n2 get) (Env.le_refl E) (Keeps.refl _ w) (fun b _ q => hb.le b q) (fun _ _ _ => rfl) hx
        | set l2 => exact hx
        | dfr => exact hx
        | loop f M sl ps as bd st pend => exact RootRel.mono (x := .loop f M sl ps as bd st pend) (Env.le_refl E) (Keeps.refl _ w) (fun b _ q => hb.le b q) (fun _ _ _ => rfl) hx
      · cases y with
        | dead => trivial
        | _ => exact (hlv trivial).elim
    · intro q y b z h1 h2 h3
      obtain ⟨_, x, h4, _, h5⟩ := key q y h1 h2
      exact h.blk q x b z h4 h5 h3
    · intro q q' y y' b z z' h1 h1' h2 h2' h3 h3'
      obtain ⟨_, x, h4, _, h5⟩ := key q y h1 h2
      obtain ⟨_, x', h4', _, h5'⟩ := key q' y' h1' h2'
      exact h.inj q q' x x' b z z' h4 h4' h5 h5' h3 h3'
    · intro t d c hlk
      obtain ⟨d0, rfl, h1⟩ := look_map (subD r sz (flat sz is)) hlk
      obtain ⟨p1, p2, p3⟩ := h.slots t d0 c h1
      exact ⟨p1, fun q => subD_rel h hl hi hb (p2 q), p3⟩
    · intro hn x hx
      obtain ⟨y, hy, rfl⟩ := List.mem_map.1 hx
      exact hn y hy
  · simp only [Option.some.injEq] at e
    subst e
    exact ⟨h, id⟩
  · simp at e
theorem R.freezes : ∀ {l : List Nat} {s s' : VS}, R T N av0 w0 sp s a w E → freezes l s = some s' → R T N av0 w0 sp s' a w E ∧ (NilS s.sl → NilS s'.sl)
  | [], s, s', h, e => by
    have e : some s = some s' := e
    simp only [Option.some.injEq] at e; subst e; exact ⟨h, id⟩
  | r :: l, s, s', h, e => by
    have e : (match Go.V.freeze r s with
      | some s1 => Go.V.freezes l s1
      | Option.none => Option.none) = some s' := e
    split at e
    case h_2 => simp at e
    rename_i s1 h1
    obtain ⟨h2, h3⟩ := h.freeze h1
    obtain ⟨h4, h5⟩ := R.freezes h2 e
    exact ⟨h4, fun q => h5 (h3 q)⟩
end
end Go.V
