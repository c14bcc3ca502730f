/- Runs of code: the executor's answer is the machine's. -/
import Derived.Test.YtkbgcnppkmkkiaaDoorVxF
set_option linter.unusedVariables false
namespace Go.V
open Go.RowKit
section
variable {P : Program} {T : Tab} {lo : Lo} {hi : Hint} {N : Nat} {av0 : Nat → Prop} {w0 : World} {sp : List (D × Value)} {s : VS} {a : Act} {w : World} {E : Env} {f : FuncId} {ro : Option Nat}

theorem rangeF_R (hl : LoOK T P lo) (h : R T N av0 w0 sp s a w E) (hn : NilS s.sl) {b : Frame} (hbf : b.fn = f) (hro : InRound E b ro) {g : Operand} {ps : Array Tmp} {as bd : Code} {j : Option Code} {s' : VS} (e : rangeF lo N f ro g ps.toList as bd s = some (j, s')) {k : List Item} {cs : List Frame} :
    ∃ a' w' E', Kept E E' ∧ R T N av0 w0 sp s' a' w' E' ∧ s'.sl = s.sl ∧ Steps P (lone (b.atR a (.code (.rangeFunc g ps as bd) :: k)) cs w) (lone (b.atR a' (jumpF j k)) cs w') := by
  unfold rangeF at e
  split at e
  · simp at e
  split at e
  case h_2 => simp at e
  rename_i c hc
  split at e
  case h_2 => simp at e
  rename_i hf caps hcal
  split at e
  case h_2 => simp at e
  rename_i d0 rs' hcall
  have hbr : b.roundOf = none := hro
  obtain ⟨h2, hat⟩ := enterLoop_R h hn f ps.toList as bd
  generalize hE2 : ((E ++ [(some w.heap.size, undef, 1)]) ++ [(some (w.heap.size + 1), undef, 1)] : Env) = E2 at h2 hat
  generalize hw2 : ((w.alloc (.deferred (some []))).alloc (.loop { state := .ready, pending := none, fn := f, tmps := a.tmps, params := ps.toList.toArray, assign := as, body := bd, defers := w.heap.size })) = w2 at h2
  have hkE : Kept E E2 := by
    subst hE2
    refine ⟨(Env.le_append _ _).trans (Env.le_append _ _), fun q hq => ?_⟩
    have hlt := (List.getElem?_eq_some_iff.1 hq).1
    rw [List.getElem?_append_left (by simp; omega), List.getElem?_append_left hlt]
    exact hq
  have hev := h2.evF hn (cellF_some hc)
  obtain ⟨cv, hfv, hcv⟩ := calleeC_rel h2 hcal hev
  obtain ⟨hen, hcon⟩ := hl.call _ _ _ _ _ hcall
  have hfv' : a.eval g = .func (.func hf) #[] cv := hfv
  obtain ⟨dd, hres, hinv⟩ := resolve_range (l := w.heap.size + 1) (ρ := a.eval) hfv' rfl hen w2
  have henter : (Instr.enterLoop b.fn a.tmps ps as bd b.roundOf).run P w = .ok (w.heap.size + 1, [{ target := .collected w.heap.size, args := #[] }]) w2 := by
    rw [hbr, hbf, ← hw2]
    exact run_enterLoop_outer _ _ _ _ _
  have hstep := stepR_rangeFunc (k := k) (cs := cs) henter hres hinv
  have hargs : All2 (DRel E2 (AV av0 (s.rs ++ [Root.dfr, .loop f N s.sl ps.toList as bd .ready Option.none]) E2) w2) (.c (.yl (s.rs.length + 1)) :: caps) (.func (.yield (w.heap.size + 1)) #[] #[] :: cv.toList) :=
    .cons ⟨_, _, hat, rfl⟩ hcv
  have hvs : ((Value.func (.yield (w.heap.size + 1)) #[] #[] :: cv.toList : List Value)).toArray = #[.func (.yield (w.heap.size + 1)) #[] #[]] ++ cv := by
    apply Array.ext'; simp
  obtain ⟨en, w3, fr, ⟨v, E3, rfl, hk3, hR3, _⟩, hcomes, hfr, hleave⟩ := hcon N av0 w0 sp s.sl (s.rs.length :: s.df) _ w2 E2 _ h2 hargs (b.atR { a with defers := [{ target := .collected w.heap.size, args := #[] }] ++ a.defers } (.inRangeFunc (w.heap.size + 1) :: k) :: cs)
  rw [hvs] at hcomes
  have hsteps : Steps P (lone (b.atR a (.code (.rangeFunc g ps as bd) :: k)) cs w) (lone (b.atR { a with defers := [{ target := .collected w.heap.size, args := #[] }] ++ a.defers } (.endRangeFunc (w.heap.size + 1) :: k)) cs w3) := by
    refine (Steps.one hstep).trans (Steps.trans hcomes (.one ?_))
    rw [← finish_atR_inRangeFunc (w.heap.size + 1) v]
    exact step_leave_returned hleave
  have fin : ∀ (st : LoopState) (pend : Option Code) (g' : FuncId) (M : Nat) (sl' : Slots) (ps' : List Tmp) (as' bd' : Code), st ≠ .busy → nthF rs' (s.rs.length + 1) = some (.loop g' M sl' ps' as' bd' st pend) →
      ∃ a' w' E', Kept E E' ∧ R T N av0 w0 sp { s with rs := setAt rs' (s.rs.length + 1) .dead, df := s.rs.length :: s.df } a' w' E' ∧ Steps P (lone (b.atR a (.code (.rangeFunc g ps as bd) :: k)) cs w) (lone (b.atR a' (jumpF pend k)) cs w') := by
    intro st pend g' M sl' ps' as' bd' hst hr
    rw [nthF_get] at hr
    obtain ⟨l, hd, sz, db, tm, h1, h3, h4, h5, h6⟩ := hR3.loop hr
    obtain ⟨hd', h7⟩ := hk3.le.at_ hat
    rw [h1] at h7
    simp only [Option.some.injEq, Prod.mk.injEq] at h7
    obtain ⟨rfl, rfl, rfl⟩ := h7
    refine ⟨_, _, E3, hkE.trans hk3, hR3.kill hr trivial h1 (.loop { state := .exhausted, pending := pend, fn := g', tmps := tm, params := ps'.toArray, assign := as', body := bd', defers := db }), hsteps.trans (.one ?_)⟩
    have := stepR_endRangeFunc (P := P) (b := b) (a := { a with defers := [{ target := .collected w.heap.size, args := #[] }] ++ a.defers }) (k := k) (cs := cs) (run_endLoop h3 hst)
    rw [this]
    cases pend <;> rfl
  split at e
  · rename_i hr
    simp only [Option.some.injEq, Prod.mk.injEq] at e
    obtain ⟨rfl, rfl⟩ := e
    obtain ⟨a', w', E', q1, q2, q3⟩ := fin _ _ _ _ _ _ _ _ (by simp) hr
    exact ⟨a', w', E', q1, q2, rfl, q3⟩
  · rename_i c' hr
    simp only [Option.some.injEq, Prod.mk.injEq] at e
    obtain ⟨rfl, rfl⟩ := e
    obtain ⟨a', w', E', q1, q2, q3⟩ := fin _ _ _ _ _ _ _ _ (by simp) hr
    exact ⟨a', w', E', q1, q2, rfl, q3⟩
  · simp at e

/-- A run of code. -/
theorem runF_sound (hty : TyOK P T) (hl : LoOK T P lo) (hmo : P.follows .mixedOrders = true) {b : Frame} (hbf : b.fn = f) {cs : List Frame} {j : Option Code} {s' : VS} :
    ∀ (n : Nat) {todo : List Item} {s : VS} {a : Act} {w : World} {E : Env}, runF T lo hi N f ro n todo s = some (j, s') → R T N av0 w0 sp s a w E → NilS s.sl → InRound E b ro →
      ∃ a' w' E' todo', Kept E E' ∧ R T N av0 w0 sp s' a' w' E' ∧ NilS s'.sl ∧ EndAt j todo' ∧ Steps P (lone (b.atR a todo) cs w) (lone (b.atR a' todo') cs w')
  | 0, todo, s, a, w, E, e, h, hn, hro => by
    have e : (none : Option (Option Code × VS)) = some (j, s') := e
    simp at e
  | n + 1, todo, s, a, w, E, e, h, hn, hro => by
    have go : ∀ {todo1 : List Item} {s1 : VS} {a1 : Act} {w1 : World} {E1 : Env}, runF T lo hi N f ro n todo1 s1 = some (j, s') → Kept E E1 → R T N av0 w0 sp s1 a1 w1 E1 → NilS s1.sl → Steps P (lone (b.atR a todo) cs w) (lone (b.atR a1 todo1) cs w1) →
        ∃ a' w' E' todo', Kept E E' ∧ R T N av0 w0 sp s' a' w' E' ∧ NilS s'.sl ∧ EndAt j todo' ∧ Steps P (lone (b.atR a todo) cs w) (lone (b.atR a' todo') cs w') := by
      intro todo1 s1 a1 w1 E1 e1 hk h1 hn1 hst
      obtain ⟨a', w', E', todo', q1, q2, q3, q4, q5⟩ := runF_sound hty hl hmo hbf n e1 h1 hn1 (hro.mono hk.le)
      exact ⟨a', w', E', todo', hk.trans q1, q2, q3, q4, hst.trans q5⟩
    have stop : ∀ {todo1 : List Item} {c : Option Code}, some (c, s) = some (j, s') → EndAt c todo → ∃ a' w' E' todo', Kept E E' ∧ R T N av0 w0 sp s' a' w' E' ∧ NilS s'.sl ∧ EndAt j todo' ∧ Steps P (lone (b.atR a todo) cs w) (lone (b.atR a' todo') cs w') := by
      intro todo1 c e1 he
      simp only [Option.some.injEq, Prod.mk.injEq] at e1
      obtain ⟨rfl, rfl⟩ := e1
      exact ⟨a, w, E, todo, Kept.refl E, h, hn, he, Steps.refl _ _⟩
    cases todo with
    | nil => exact stop (todo1 := []) e rfl
    | cons x k =>
      cases x with
      | inBlock id => exact go (todo1 := k) (s1 := s) e (Kept.refl E) h hn (.one stepR_inBlock)
      | inLoop c => exact go (todo1 := .code c :: .inLoop c :: k) (s1 := s) e (Kept.refl E) h hn (.one stepR_inLoop)
      | beginRound =>
        have e : (match beginF ro s with
          | some s' => runF T lo hi N f ro n k s'
          | none => none) = some (j, s') := e
        split at e
        case h_2 => simp at e
        rename_i s1 hs1
        obtain ⟨w', h1, h2, h3⟩ := beginF_R h hro hs1
        exact go e (Kept.refl E) h1 (by rw [h2]; exact hn) h3
      | code c =>
        cases c with
        | skip => exact go (todo1 := k) (s1 := s) e (Kept.refl E) h hn (.one stepR_skip)
        | label l => exact go (todo1 := k) (s1 := s) e (Kept.refl E) h hn (.one stepR_label)
        | ret => exact stop (todo1 := []) (c := some .ret) e (.inl ⟨k, rfl, rfl⟩)
        | seq x y => exact go (todo1 := .code x :: .code y :: k) (s1 := s) e (Kept.refl E) h hn (.one stepR_seq)
        | cond c x y =>
          have e : (match boolF (evF s.sl c) with
            | some p => runF T lo hi N f ro n (.code (Bool.rec y x p) :: k) s
            | none => none) = some (j, s') := e
          split at e
          case h_2 => simp at e
          rename_i p hp
          have hv : a.eval c = .bool p := (h.evF hn (boolF_some hp)).1
          refine go e (Kept.refl E) h hn ?_
          have := Steps.one (stepR_cond (P := P) (b := b) (k := k) (cs := cs) (w := w) (x := x) (y := y) hv)
          cases p <;> exact this
        | block id c => exact go (todo1 := .code c :: .inBlock id :: k) (s1 := s) e (Kept.refl E) h hn (.one stepR_block)
        | loop c => exact go (todo1 := .code c :: .inLoop c :: k) (s1 := s) e (Kept.refl E) h hn (.one stepR_loop)
        | exit id =>
          have e : (match exitTo id k with
            | some k' => runF T lo hi N f ro n k' s
            | none => some (some (.exit id), s)) = some (j, s') := e
          split at e
          · rename_i k' hk'
            exact go e (Kept.refl E) h hn (.one (stepR_exit hk'))
          · rename_i hk'
            exact stop (todo1 := []) e (.inr ⟨id, k, rfl, rfl, hk'⟩)
        | region id ops draw =>
          have e0 : (match regionF T lo hi N f ro id ops.toList draw s with
            | some s' => runF T lo hi N f ro n k s'
            | none => none) = some (j, s') := e
          clear e
          cases hs1 : regionF T lo hi N f ro id ops.toList draw s with
          | none => rw [hs1] at e0; simp at e0
          | some s1 =>
          rw [hs1] at e0
          have e : runF T lo hi N f ro n k s1 = some (j, s') := e0
          clear e0
          cases draw with
          | false =>
            obtain ⟨a', w', E', q1, q2, q3, q4⟩ := region_run (b := b) (k := k) (cs := cs) hty hl h hn hs1
            exact go e q1 q2 q3 q4
          | true =>
            obtain ⟨a', w', E', q1, q2, q3, q4⟩ := draw_run (b := b) (k := k) (cs := cs) hty hl hmo h hn hs1
            exact go e q1 q2 q3 q4
        | rangeFunc g ps as bd =>
          have e : (match rangeF lo N f ro g ps.toList as bd s with
            | some (j, s') => runF T lo hi N f ro n (jumpF j k) s'
            | none => none) = some (j, s') := e
          split at e
          case h_2 => simp at e
          rename_i j1 s1 hs1
          obtain ⟨a', w', E', q1, q2, q3, q4⟩ := rangeF_R (k := k) (cs := cs) hl h hn hbf hro hs1
          exact go e q1 q2 (by rw [q3]; exact hn) q4
        | _ =>
          have e : (none : Option (Option Code × VS)) = some (j, s') := e
          simp at e
      | _ =>
        have e : (none : Option (Option Code × VS)) = some (j, s') := e
        simp at e
end
end Go.V
