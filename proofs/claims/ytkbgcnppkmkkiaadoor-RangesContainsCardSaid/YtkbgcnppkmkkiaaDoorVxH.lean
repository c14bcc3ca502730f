/- Calls: a function's contract, and a round's, out of the executor's run; by depth. -/
import Derived.Test.YtkbgcnppkmkkiaaDoorVxG
set_option linter.unusedVariables false
namespace Go.V
open Go.RowKit
section
variable {P : Program} {T : Tab} {lo : Lo} {hi : Hint} {N : Nat} {av0 : Nat → Prop} {w0 : World} {sp : List (D × Value)} {s : VS} {a : Act} {w : World} {E : Env} {f : FuncId} {ro : Option Nat}

def resRel (E : Env) (av : Nat → Prop) (w : World) (x : Bool × List C) (y : Value) : Prop := match x with
  | (true, l) => ∃ cs : Array Value, y = .agg cs ∧ All2 (CRel E av w) l cs.toList
  | (false, l) => ∃ c, l = [c] ∧ CRel E av w c y

def resRun (tmps : Array Value) : ResultVar → Sem Value
  | .tmp t => pure (tmps.getD t undef)
  | .cell a t => do loadVar t (← asAddr (tmps.getD a undef))

theorem resOne_sound (hty : TyOK P T) (h : R T N av0 w0 sp s a w E) {x : ResultVar} {p : Option Prop} {q : Bool × List C} (e : resOne T s x = some (p, q)) (hp : need p) :
    ∃ v, (resRun a.tmps x).run P w = .ok v w ∧ resRel E (AV av0 s.rs E) w q v := by
  have nil : CondsHold a [] := fun p hp => by cases hp
  cases x with
  | tmp t =>
    simp only [resOne] at e
    split at e
    · rename_i x hx
      have hx := h.ev nil hx
      simp only [Option.some.injEq, Prod.mk.injEq] at e
      obtain ⟨rfl, rfl⟩ := e
      exact ⟨_, rfl, x, rfl, hx⟩
    · rename_i l hx
      obtain ⟨cs, hv, hl⟩ := h.ev nil hx
      simp only [Option.some.injEq, Prod.mk.injEq] at e
      obtain ⟨rfl, rfl⟩ := e
      exact ⟨_, rfl, cs, hv, hl⟩
    · simp at e
  | cell ad t =>
    simp only [resOne] at e
    have run : ∀ v, (Instr.loadAt t (a.eval (.tmp ad))).run P w = .ok v w → (resRun a.tmps (.cell ad t)).run P w = .ok v w := by
      intro v hv
      have he : a.eval (.tmp ad) = a.tmps.getD ad undef := rfl
      rw [he] at hv
      unfold resRun
      cases hu : a.tmps.getD ad undef <;> rw [hu] at hv <;> simp [Instr.loadAt, Instr.sureAddr, stuck] at hv
      rename_i oa
      cases oa with
      | none => simp at hv
      | some x =>
        simp only [hu, asAddr, Sem.run_bind]
        exact hv
    split at e
    · rename_i p' x hx
      simp only [Option.some.injEq, Prod.mk.injEq] at e
      obtain ⟨rfl, rfl⟩ := e
      obtain ⟨v, h1, h2⟩ := load_sound hty h nil hx hp
      exact ⟨v, run v (h1 w (Below.refl _ _)), x, rfl, h2⟩
    · rename_i p' l hx
      simp only [Option.some.injEq, Prod.mk.injEq] at e
      obtain ⟨rfl, rfl⟩ := e
      obtain ⟨v, h1, cs, h2, h3⟩ := load_sound hty h nil hx hp
      exact ⟨v, run v (h1 w (Below.refl _ _)), cs, h2, h3⟩
    · simp at e

theorem resAll_sound (hty : TyOK P T) (h : R T N av0 w0 sp s a w E) : ∀ {rs : List ResultVar} {p : Option Prop} {l : List (Bool × List C)}, resAll T s rs = some (p, l) → need p →
    ∃ vs, (rs.mapM (resRun a.tmps)).run P w = .ok vs w ∧ All2 (resRel E (AV av0 s.rs E) w) l vs
  | [], p, l, e, hp => by
    simp only [resAll, Option.some.injEq, Prod.mk.injEq] at e
    obtain ⟨rfl, rfl⟩ := e
    exact ⟨[], rfl, .nil⟩
  | x :: rs, p, l, e, hp => by
    simp only [resAll] at e
    split at e
    · rename_i p1 q p2 l' h1 h2
      simp only [Option.some.injEq, Prod.mk.injEq] at e
      obtain ⟨rfl, rfl⟩ := e
      have hp' : need p1 ∧ need p2 := by
        cases p1 <;> cases p2 <;> simp_all [bothP, need]
      obtain ⟨v, h3, h4⟩ := resOne_sound hty h h1 hp'.1
      obtain ⟨vs, h5, h6⟩ := resAll_sound hty h h2 hp'.2
      refine ⟨v :: vs, ?_, .cons h4 h6⟩
      rw [List.mapM_cons]
      simp only [Sem.run_bind, h3, Result.andThen_ok, h5, Sem.run_pure]
    · simp at e

theorem results_sound (hty : TyOK P T) (h : R T N av0 w0 sp s a w E) {fn : Func} {p : Option Prop} {d : D} (e : resD T s fn.results.toList = some (p, d)) (hp : need p) :
    ∃ v, (results fn a.tmps).run P w = .ok v w ∧ DRel E (AV av0 s.rs E) w d v := by
  have run : ∀ vs, (fn.results.toList.mapM (resRun a.tmps)).run P w = .ok vs w → (results fn a.tmps).run P w = .ok (if h : vs.toArray.size = 1 then vs.toArray[0] else .tuple vs.toArray) w := by
    intro vs hvs
    have hm : (fn.results.mapM (resRun a.tmps)).run P w = .ok vs.toArray w := by
      have hgs : fn.results = fn.results.toList.toArray := rfl
      rw [hgs, List.mapM_toArray]
      simp only [Sem.run_map, hvs, Result.andThen_ok]
    show ((do let vs ← fn.results.mapM (resRun a.tmps); pure (if h : vs.size = 1 then vs[0] else .tuple vs)) : Sem Value).run P w = _
    rw [Sem.run_bind, hm]
    rfl
  unfold resD at e
  split at e
  · rename_i p' x hx
    simp only [Option.some.injEq, Prod.mk.injEq] at e
    obtain ⟨rfl, rfl⟩ := e
    obtain ⟨vs, h1, h2⟩ := resAll_sound hty h hx hp
    cases h2 with
    | cons q1 q2 =>
      cases q2
      obtain ⟨c, hc, q⟩ := q1
      simp only [List.cons.injEq, and_true] at hc
      subst hc
      exact ⟨_, run _ h1, q⟩
  · rename_i p' l hx
    simp only [Option.some.injEq, Prod.mk.injEq] at e
    obtain ⟨rfl, rfl⟩ := e
    obtain ⟨vs, h1, h2⟩ := resAll_sound hty h hx hp
    cases h2 with
    | cons q1 q2 => cases q2; exact ⟨_, run _ h1, q1⟩
  · rename_i p' l hne1 hne2 hx
    simp only [Option.some.injEq, Prod.mk.injEq] at e
    obtain ⟨rfl, rfl⟩ := e
    obtain ⟨vs, h1, h2⟩ := resAll_sound hty h hx hp
    refine ⟨_, run vs h1, ?_⟩
    have hlen : vs.length ≠ 1 := by
      intro hl
      have := h2.length
      rw [hl] at this
      match l, this with
      | [(true, l)], _ => exact hne2 _ rfl
      | [(false, k)], _ =>
        cases h2 with
        | cons q1 q2 =>
          obtain ⟨c, hc, _⟩ := q1
          exact hne1 _ (by rw [hc])
    rw [dif_neg (by simpa using hlen)]
    exact ⟨_, rfl, h2⟩
  · simp at e

theorem argSlots_look : ∀ {ds : List D} {k t : Nat} {d : D} {c : Cond}, look (argSlots k ds) t = some (d, c) → c = [] ∧ k ≤ t ∧ ds[t - k]? = some d
  | [], k, t, d, c, h => by simp [argSlots, look] at h
  | x :: ds, k, t, d, c, h => by
    simp only [argSlots, look] at h
    split at h
    · rename_i he
      have he := of_beq he
      simp only [Option.some.injEq, Prod.mk.injEq] at h
      obtain ⟨rfl, rfl⟩ := h
      subst he
      exact ⟨rfl, Nat.le_refl _, by simp⟩
    · obtain ⟨h1, h2, h3⟩ := argSlots_look h
      refine ⟨h1, by omega, ?_⟩
      rw [show t - k = (t - (k + 1)) + 1 by omega]
      simpa using h3
theorem argSlots_nil : ∀ {ds : List D} {k : Nat}, NilS (argSlots k ds)
  | [], k, x, hx => by simp [argSlots] at hx
  | d :: ds, k, x, hx => by
    simp only [argSlots] at hx
    rcases List.mem_cons.1 hx with rfl | hx
    · rfl
    · exact argSlots_nil x hx

/-! The executor's results. -/
theorem resOneF_one (hn : NilS s.sl) {x : ResultVar} {q : Bool × List C} (e : resOneF T s x = some q) : resOne T s x = some (none, q) := by
  unfold resOneF at e
  cases x with
  | tmp t =>
    simp only at e
    simp only [resOne]
    split at e
    · rename_i c hc
      have : s.ev [] (.tmp t) = some (.c c) := evF_ev (x := .tmp t) hn hc
      rw [this]
      simp only [Option.some.injEq] at e
      subst e; rfl
    · rename_i l hc
      have : s.ev [] (.tmp t) = some (.a l) := evF_ev (x := .tmp t) hn hc
      rw [this]
      simp only [Option.some.injEq] at e
      subst e; rfl
    · simp at e
  | cell ad t =>
    simp only at e
    simp only [resOne]
    split at e
    · rename_i c hc
      rw [loadF_pure hn hc]
      simp only [Option.some.injEq] at e
      subst e; rfl
    · rename_i l hc
      rw [loadF_pure hn hc]
      simp only [Option.some.injEq] at e
      subst e; rfl
    · simp at e
theorem resAllF_all (hn : NilS s.sl) : ∀ {l : List ResultVar} {q : List (Bool × List C)}, resAllF T s l = some q → resAll T s l = some (none, q)
  | [], q, e => by
    have e : some [] = some q := e
    simp only [Option.some.injEq] at e
    subst e; rfl
  | x :: l, q, e => by
    have e : (match resOneF T s x, resAllF T s l with
      | some q, some l => some (q :: l)
      | _, _ => none) = some q := e
    split at e
    case h_2 => simp at e
    rename_i h1 h2
    simp only [Option.some.injEq] at e
    subst e
    simp only [resAll, resOneF_one hn h1, resAllF_all hn h2, bothP]
theorem resF_D (hn : NilS s.sl) {l : List ResultVar} {d : D} (e : resF T s l = some d) : resD T s l = some (none, d) := by
  unfold resF at e
  unfold resD
  split at e
  · rename_i h1
    rw [resAllF_all hn h1]
    simp only [Option.some.injEq] at e
    subst e; rfl
  · rename_i h1
    rw [resAllF_all hn h1]
    simp only [Option.some.injEq] at e
    subst e; rfl
  · rename_i l' h1 h2 h3
    rw [resAllF_all hn h3]
    simp only [Option.some.injEq] at e
    subst e
    split
    · rename_i h4; simp only [Option.some.injEq, Prod.mk.injEq] at h4; exact (h1 _ h4.2).elim
    · rename_i h4; simp only [Option.some.injEq, Prod.mk.injEq] at h4; exact (h2 _ h4.2).elim
    · rename_i h4; simp only [Option.some.injEq, Prod.mk.injEq] at h4; obtain ⟨rfl, rfl⟩ := h4; rfl
    · rename_i h4; simp at h4
  · simp at e

/-! A caller's slots, kept. -/
open Classical in
noncomputable def spOf (sl : Slots) (a : Act) : List (D × Value) := sl.filterMap fun x => if look sl x.1 = some x.2 ∧ CondsHold a x.2.2 then some (x.2.1, a.tmps.getD x.1 undef) else none
theorem look_mem : ∀ {sl : Slots} {t : Tmp} {x : D × Cond}, look sl t = some x → (t, x) ∈ sl
  | [], t, x, h => by simp [look] at h
  | (k, d, c) :: sl, t, x, h => by
    simp only [look] at h
    split at h
    · rename_i hb
      simp only [Option.some.injEq] at h
      rw [← of_beq hb, ← h]
      exact List.mem_cons_self ..
    · exact List.mem_cons_of_mem _ (look_mem h)
theorem spOf_mem {sl : Slots} {t : Tmp} {d : D} {c : Cond} (hl : look sl t = some (d, c)) (hc : CondsHold a c) : (d, a.tmps.getD t undef) ∈ spOf sl a := by
  unfold spOf
  rw [List.mem_filterMap]
  refine ⟨(t, d, c), look_mem hl, ?_⟩
  rw [if_pos ⟨hl, hc⟩]
theorem spOf_rel (h : R T N av0 w0 sp s a w E) : ∀ x ∈ spOf s.sl a, DRel E (AV av0 s.rs E) w x.1 x.2 := by
  intro x hx
  unfold spOf at hx
  rw [List.mem_filterMap] at hx
  obtain ⟨⟨t, d, c⟩, h1, h2⟩ := hx
  split at h2
  · rename_i h3
    simp only [Option.some.injEq] at h2
    subst h2
    exact (h.slots t d c h3.1).2.1 h3.2
  · simp at h2
/-- A frame of a callee's, or of a round's. -/
theorem R.deeper {sl : Slots} {rs : List Root} {df : List Nat} (h : R T N av0 w0 sp ⟨sl, rs, df⟩ a w E) {M : Nat} {sl1 : Slots} {tm : Array Value} (hM : tm.size = M)
    (hs : SlotsRel E (AV av0 rs E) w M sl1 tm) : R T M av0 w0 (spOf sl a ++ sp) ⟨sl1, rs, []⟩ { tmps := tm, defers := [] } w E :=
  ⟨hM, .nil, fun x hx => (List.mem_append.1 hx).elim (fun q => spOf_rel h x q) (h.spec x), h.below, h.len, h.outer, h.roots, h.blk, h.inj, hs, h.glob⟩
theorem R.back {sl : Slots} {rs : List Root} {df : List Nat} (h : R T N av0 w0 sp ⟨sl, rs, df⟩ a w E) {M : Nat} {s' : VS} {a' : Act} {w' : World} {E' : Env} (h' : R T M av0 w0 (spOf sl a ++ sp) s' a' w' E') (hE : Env.le E E') :
    R T N av0 w0 sp ⟨sl, s'.rs, df⟩ a w' E' :=
  ⟨h.size, h.defers.mono fun _ _ ⟨b, sz, q, e⟩ => ⟨b, sz, hE.at_ q, e⟩, fun x hx => h'.spec x (List.mem_append_right _ hx), h'.below, h'.len, h'.outer, h'.roots, h'.blk, h'.inj, fun t d c hl =>
    ⟨(h.slots t d c hl).1, fun hc => h'.spec _ (List.mem_append_left _ (spOf_mem hl hc)), (h.slots t d c hl).2.2⟩, h'.glob⟩

/-- The marks of loops over functions are taken. -/
theorem take_run {cs : List Frame} : ∀ (l : List Nat) {sl : Slots} {rs rs1 : List Root} {a : Act} {w : World} {fr : Frame}, takeF l rs = some rs1 → R T N av0 w0 sp ⟨sl, rs, l⟩ a w E → fr.mode = .returning → fr.defers = a.defers →
    ∃ w', R T N av0 w0 sp ⟨sl, rs1, []⟩ { a with defers := [] } w' E ∧ Steps P (lone fr cs w) (lone { fr with defers := [] } cs w')
  | [], sl, rs, rs1, a, w, fr, e, h, hm, hd => by
    have e : some rs = some rs1 := e
    simp only [Option.some.injEq] at e
    subst e
    have hnil : a.defers = [] := by
      have := h.defers
      generalize a.defers = l at this
      cases this; rfl
    have ha : ({ a with defers := [] } : Act) = a := by rw [← hnil]
    have hf : ({ fr with defers := [] } : Frame) = fr := by rw [← hnil, ← hd]
    rw [ha, hf]
    exact ⟨w, h, Steps.refl _ _⟩
  | r :: l, sl, rs, rs1, a, w, fr, e, h, hm, hd => by
    have e : (match nthF rs r with
      | some .dfr => takeF l (setAt rs r .dead)
      | _ => none) = some rs1 := e
    split at e
    case h_2 => simp at e
    rename_i hr
    rw [nthF_get] at hr
    have hdf := h.defers
    generalize hads : a.defers = ads at hdf
    cases hdf with
    | cons h1 h2 =>
      rename_i d ds
      obtain ⟨b, sz, ⟨hd', hE⟩, rfl⟩ := h1
      obtain ⟨b', h3, h4⟩ := h.roots r _ _ hr hE
      have h3 : some b = some b' := h3
      simp only [Option.some.injEq] at h3
      subst h3
      have hk := h.kill hr trivial hE (.deferred none)
      have hR : R T N av0 w0 sp ⟨sl, setAt rs r .dead, l⟩ { a with defers := ds } (w.putObj b (.deferred none)) E :=
        ⟨hk.size, h2, hk.spec, hk.below, hk.len, hk.outer, hk.roots, hk.blk, hk.inj, hk.slots, hk.glob⟩
      have hst := step_collected (P := P) (cs := cs) (fr := fr) (by rw [hm]; simp) (hd.trans hads) rfl (run_takeDeferred h4)
      obtain ⟨w', q1, q2⟩ := take_run l (fr := { fr with defers := [] ++ ds }) e hR hm rfl
      exact ⟨w', q1, (Steps.one hst).trans q2⟩

/-- What is known of the table of functions. -/
def FunOK (P : Program) (F : FuncId → Option Func) : Prop := ∀ f fn, F f = some fn → P.funcs[f]? = some fn ∧ (fn.name == "runtime.NumGoroutine") = false

theorem bodyS_sound (hty : TyOK P T) (hmo : P.follows .mixedOrders = true) {F : FuncId → Option Func} (hF : FunOK P F) (hl : LoOK T P lo) {fuel : Nat} {ds : List D} {rs rs' : List Root} {d : D} (e : bodyS T hi F fuel lo f ds rs = some (d, rs')) :
    Enters P f ∧ ∀ (N : Nat) (av0 : Nat → Prop) (w0 : World) (sp : List (D × Value)) (sl : Slots) (df : List Nat) (a : Act) (w : World) (E : Env) (vs : List Value), R T N av0 w0 sp ⟨sl, rs, df⟩ a w E → All2 (DRel E (AV av0 rs E) w) ds vs →
    Go.Calls P f vs.toArray w fun e w' => ∃ v E', e = .returned v ∧ Kept E E' ∧ R T N av0 w0 sp ⟨sl, rs', df⟩ a w' E' ∧ DRel E' (AV av0 rs' E') w' d v := by
  unfold bodyS at e
  split at e
  case h_2 => simp at e
  rename_i fn hfn
  split at e
  case h_2 => simp at e
  rename_i c hc
  obtain ⟨hlen, e⟩ := Bool.rec_some e
  have hlen := of_ble hlen
  split at e
  case h_2 => simp at e
  rename_i j s hrun
  obtain ⟨hret, e⟩ := Bool.rec_some e
  unfold endF at e
  split at e
  case h_2 => simp at e
  rename_i rs1 htake
  split at e
  case h_2 => simp at e
  rename_i d1 hres
  simp only [Option.some.injEq, Prod.mk.injEq] at e
  obtain ⟨rfl, rfl⟩ := e
  obtain ⟨hf, hname⟩ := hF f fn hfn
  refine ⟨⟨fn, hf, hname, by simp [hc]⟩, ?_⟩
  intro N av0 w0 sp sl df a w E vs h hv cs
  let b : Frame := { (default : Frame) with fn := f, kind := .normal, roundOf := none }
  let tm := vs.toArray ++ Array.replicate (fn.ntmps - vs.toArray.size) undef
  have hvl := hv.length
  have henter : Frame.enter P f vs.toArray .normal = b.atR { tmps := tm, defers := [] } [.code c] := by
    simp [Frame.enter, Frame.atR, hf, hc, b, tm]
  have htm : tm.size = fn.ntmps := by simp only [tm, Array.size_append, Array.size_replicate, List.size_toArray]; omega
  have hR := h.deeper (M := fn.ntmps) (sl1 := argSlots 0 ds) (tm := tm) htm (fun t d' c' hl => by
    obtain ⟨rfl, _, h2⟩ := argSlots_look hl
    simp only [Nat.sub_zero] at h2
    have ht : t < ds.length := (List.getElem?_eq_some_iff.1 h2).1
    obtain ⟨v, h3, h4⟩ := hv.nth (i := t) (x := d') (by rw [nth_eq]; exact h2)
    refine ⟨Nat.lt_of_lt_of_le ht hlen, fun _ => ?_, fun q => (q fun p hp => by cases hp).elim⟩
    have hg : tm.getD t undef = v := by
      have htv : t < vs.length := by rw [← hvl]; exact ht
      have : vs[t]? = some v := h3
      simp only [tm]
      rw [Array.getD_eq_getD_getElem?, Array.getElem?_append_left (by simpa using htv)]
      simp [this]
    rw [hg]
    exact h4)
  obtain ⟨a', w1, E', todo', hk, hR', hn', hend, hsteps⟩ := runF_sound (hi := hi) (ro := none) (b := b) (cs := cs) hty hl hmo rfl fuel hrun hR argSlots_nil rfl
  have hback : Steps P (lone (b.atR a' todo') cs w1) (lone { b.atR a' todo' with mode := .returning } cs w1) := by
    cases j with
    | none =>
      have hend : todo' = [] := hend
      subst hend
      exact .one (stepR_end rfl)
    | some c' =>
      rcases hend with ⟨k, rfl, rfl⟩ | ⟨id, k, rfl, _, _⟩
      · exact .one (stepR_ret rfl)
      · simp [retB] at hret
  have hR'' : R T fn.ntmps av0 w0 (spOf sl a ++ sp) ⟨s.sl, s.rs, s.df⟩ a' w1 E' := hR'
  obtain ⟨w2, hR2, hst2⟩ := take_run (P := P) (cs := cs) s.df (fr := { b.atR a' todo' with mode := .returning }) htake hR'' rfl rfl
  obtain ⟨v, hrv, hdv⟩ := results_sound hty hR2 (resF_D (s := ⟨s.sl, rs1, []⟩) hn' hres) trivial
  refine ⟨.returned v, w2, { { b.atR a' todo' with mode := .returning } with defers := [] }, ⟨v, E', rfl, hk, h.back hR2 hk.le, hdv⟩, ?_, rfl, rfl, rfl, rfl, fn, hf, hrv⟩
  rw [henter]
  exact (hsteps.trans hback).trans hst2

theorem callS_sound (hty : TyOK P T) (hmo : P.follows .mixedOrders = true) {F : FuncId → Option Func} (hF : FunOK P F) {Kn : FuncId → Option D} (hKn : ∀ f d, Kn f = some d → Enters P f ∧ Pure1 T P f [] d) (hl : LoOK T P lo) {fuel : Nat} {ds : List D} {rs rs' : List Root} {d : D}
    (e : callS T hi F Kn fuel lo f ds rs = some (d, rs')) :
    Enters P f ∧ ∀ (N : Nat) (av0 : Nat → Prop) (w0 : World) (sp : List (D × Value)) (sl : Slots) (df : List Nat) (a : Act) (w : World) (E : Env) (vs : List Value), R T N av0 w0 sp ⟨sl, rs, df⟩ a w E → All2 (DRel E (AV av0 rs E) w) ds vs →
    Go.Calls P f vs.toArray w fun e w' => ∃ v E', e = .returned v ∧ Kept E E' ∧ R T N av0 w0 sp ⟨sl, rs', df⟩ a w' E' ∧ DRel E' (AV av0 rs' E') w' d v := by
  unfold callS at e
  split at e
  · rename_i d0 hd0
    split at e
    case h_2 => simp at e
    simp only [Option.some.injEq, Prod.mk.injEq] at e
    obtain ⟨rfl, rfl⟩ := e
    obtain ⟨h1, h2⟩ := hKn f _ hd0
    refine ⟨h1, ?_⟩
    intro N av0 w0 sp sl df a w E vs h hv
    cases hv
    have avlt : ∀ b, AV av0 rs E b → b < w.heap.size := by
      rintro b (q | ⟨r, x, sz, q1, q2, q3⟩)
      · have := h.outer b q; have := h.size_le; omega
      · exact (h.blk r x b sz q1 q2 q3).2
    refine (h2 (AV av0 rs E) w [] avlt h.glob .nil).mono ?_
    rintro en w' ⟨v, rfl, hd, hb⟩
    exact ⟨v, E, rfl, Kept.refl E, h.grown hb, DRel.mono (fun r e q => by simp at q) (Keeps.refl _ w') (fun b _ q => q) hd⟩
  · exact bodyS_sound hty hmo hF hl e

theorem setP_R {rs : List Root} {tms : Array Value → Array Value} : ∀ {ps : List Tmp} {ds : List D} {vs : List Value} {sl sl' : Slots} {tm : Array Value}, setP N ps ds sl = some sl' → R T N av0 w0 sp ⟨sl, rs, []⟩ { tmps := tm, defers := [] } w E → NilS sl →
    All2 (DRel E (AV av0 rs E) w) ds vs → ps.length = vs.length ∧ R T N av0 w0 sp ⟨sl', rs, []⟩ { tmps := (ps.zip vs).foldl (fun tmps x => tmps.setIfInBounds x.1 x.2) tm, defers := [] } w E ∧ NilS sl'
  | [], [], vs, sl, sl', tm, e, h, hn, hv => by
    have e : some sl = some sl' := e
    simp only [Option.some.injEq] at e
    subst e
    cases hv
    exact ⟨rfl, h, hn⟩
  | [], d :: ds, vs, sl, sl', tm, e, h, hn, hv => by
    have e : (none : Option Slots) = some sl' := e
    simp at e
  | t :: ps, [], vs, sl, sl', tm, e, h, hn, hv => by
    have e : (none : Option Slots) = some sl' := e
    simp at e
  | t :: ps, d :: ds, vs, sl, sl', tm, e, h, hn, hv => by
    obtain ⟨ht, e⟩ := Bool.rec_some (show (Bool.rec none (setP N ps ds ((t, d, []) :: sl)) (Nat.blt t N) : Option Slots) = some sl' from e)
    cases hv with
    | cons q k =>
      rename_i v vs
      have hp : putF N ⟨sl, rs, []⟩ (some t) d = some ⟨(t, d, []) :: sl, rs, []⟩ := by
        unfold putF; simp only [ht]
      obtain ⟨h1, h2⟩ := putF_R h hn hp q
      obtain ⟨h3, h4, h5⟩ := setP_R (tms := tms) e h1 h2 k
      exact ⟨by simp [h3], h4, h5⟩

theorem yldS_sound (hty : TyOK P T) (hmo : P.follows .mixedOrders = true) (hl : LoOK T P lo) {fuel r : Nat} {ds : List D} {rs rs' : List Root} {d : D} (e : yldS T hi fuel lo r ds rs = some (d, rs')) :
    ∀ (N : Nat) (av0 : Nat → Prop) (w0 : World) (sp : List (D × Value)) (sl : Slots) (df : List Nat) (a : Act) (w : World) (E : Env) (vs : List Value), R T N av0 w0 sp ⟨sl, rs, df⟩ a w E → All2 (DRel E (AV av0 rs E) w) ds vs →
    ∃ b sz f tm as bd, atRoot E r b sz ∧ (Instr.yield b vs.toArray).run P w = .ok (.round b f tm as bd) w ∧
      RoundS P b f tm as bd w fun v w' => ∃ E', Kept E E' ∧ R T N av0 w0 sp ⟨sl, rs', df⟩ a w' E' ∧ DRel E' (AV av0 rs' E') w' d v := by
  intro N av0 w0 sp sl df a w E vs h hv
  unfold yldS at e
  split at e
  case h_2 => simp at e
  rename_i g M sl0 ps as bd hr
  split at e
  case h_2 => simp at e
  rename_i sl1 hsl1
  split at e
  case h_2 => simp at e
  rename_i j s hrun
  rw [nthF_get] at hr
  obtain ⟨l, hd, sz, db, tm, h1, h2, h3, h4, h5⟩ := h.loop hr
  have hR := h.deeper (M := M) (sl1 := sl0) (tm := tm) h3 h4
  obtain ⟨hlen, hR1, hn1⟩ := setP_R (tms := id) hsl1 hR h5 hv
  have hy := run_yield (P := P) (args := vs.toArray) h2 (by simp [hlen])
  refine ⟨l, sz, g, _, as, bd, ⟨hd, h1⟩, hy, ?_⟩
  have htm : (Array.foldl (fun tmps x => match x with
      | (t, a) => tmps.setIfInBounds t a) tm (ps.toArray.zip vs.toArray)) = (ps.zip vs).foldl (fun tmps x => tmps.setIfInBounds x.1 x.2) tm := by
    simp
  intro c cs
  simp only at htm ⊢
  rw [htm]
  let b : Frame := { (default : Frame) with fn := g, kind := .normal, roundOf := some l }
  have hb0 : ∀ tm, Frame.round l g tm as bd .normal = b.atR { tmps := tm, defers := [] } [.code as, .beginRound, .code bd] := fun tm => by
    simp [Frame.round, Frame.atR, b]
  rw [hb0]
  obtain ⟨a', w1, E', todo', hk, hR', hn', hend, hsteps⟩ := runF_sound (hi := hi) (ro := some r) (b := b) (cs := c :: cs) hty hl hmo rfl fuel hrun hR1 hn1 ⟨l, sz, rfl, hd, h1⟩
  unfold roundF at e
  split at e
  case h_2 => simp at e
  split at e
  case h_2 => simp at e
  rename_i g' M' sl' ps' as' bd' hr'
  rw [nthF_get] at hr'
  obtain ⟨l', hd', sz', db', tm', q1, q2, q3, q4, q5⟩ := hR'.loop hr'
  have hE' := hk.le r _ h1 (by simp [hole])
  rw [hE'] at q1
  simp only [Option.some.injEq, Prod.mk.injEq] at q1
  obtain ⟨rfl, rfl, rfl⟩ := q1
  cases j with
  | none =>
    simp only [Option.some.injEq, Prod.mk.injEq] at e
    obtain ⟨rfl, rfl⟩ := e
    have hend : todo' = [] := hend
    subst hend
    exact ⟨.bool true, _, ⟨E', hk, h.back (hR'.turnLoop hr' hE' q2 q3 q4 q5 .ready none) hk.le, rfl, rfl⟩, hsteps.trans (.one (stepR_round_end rfl rfl (run_endRound none q2)))⟩
  | some c' =>
    simp only [Option.some.injEq, Prod.mk.injEq] at e
    obtain ⟨rfl, rfl⟩ := e
    refine ⟨.bool false, _, ⟨E', hk, h.back (hR'.turnLoop hr' hE' q2 q3 q4 q5 .done (some c')) hk.le, rfl, rfl⟩, hsteps.trans (.one ?_)⟩
    rcases hend with ⟨k, rfl, rfl⟩ | ⟨id, k, rfl, rfl, hx⟩
    · exact stepR_round_ret rfl rfl (run_endRound (some .ret) q2)
    · exact stepR_round_exit rfl rfl hx (run_endRound (some (.exit id)) q2)

/-- All calls, by depth. -/
theorem loN_sound (hty : TyOK P T) (hmo : P.follows .mixedOrders = true) {F : FuncId → Option Func} (hF : FunOK P F) {Kn : FuncId → Option D} (hKn : ∀ f d, Kn f = some d → Enters P f ∧ Pure1 T P f [] d) {fuel : Nat} :
    ∀ n, LoOK T P (loN T hi F Kn fuel n)
  | 0 => ⟨fun f ds rs d rs' e => by
      have e : (none : Option (D × List Root)) = some (d, rs') := e
      simp at e, fun r ds rs d rs' e => by
      have e : (none : Option (D × List Root)) = some (d, rs') := e
      simp at e⟩
  | n + 1 => ⟨fun f ds rs d rs' e => callS_sound hty hmo hF hKn (loN_sound hty hmo hF hKn n) e, fun r ds rs d rs' e => yldS_sound hty hmo (loN_sound hty hmo hF hKn n) e⟩
end
end Go.V
