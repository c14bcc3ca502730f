/- The executor's operations that only compute: the machine does them. -/
import Derived.Test.YtkbgcnppkmkkiaaDoorVx1
import Derived.Test.YtkbgcnppkmkkiaaDoorVx3
set_option linter.unusedVariables false
namespace Go.V
open Go.RowKit

theorem Bool.rec_some {α : Type} {x : Option α} {b : Bool} {y : α} (h : (Bool.rec none x b : Option α) = some y) : b = true ∧ x = some y := by
  cases b with
  | false => simp at h
  | true => exact ⟨rfl, h⟩

/-- No slot bears a condition. -/
def NilS (sl : Slots) : Prop := ∀ x ∈ sl, x.2.2 = []
theorem NilS.cons {sl : Slots} (h : NilS sl) (t : Tmp) (d : D) : NilS ((t, d, []) :: sl) := fun x hx => by
  cases hx with
  | head => rfl
  | tail _ hx => exact h x hx

theorem nthF_eq {α : Type} : ∀ (l : List α) (i : Nat), nthF l i = nth l i
  | [], _ => rfl
  | _ :: _, 0 => rfl
  | _ :: l, i + 1 => nthF_eq l i
theorem lookF_look : ∀ {sl : Slots} {t : Tmp} {d : D}, NilS sl → lookF sl t = some d → look sl t = some (d, [])
  | [], t, d, _, h => by simp [lookF] at h
  | x :: sl, t, d, hn, h => by
    have hs : NilS sl := fun y hy => hn y (List.mem_cons_of_mem _ hy)
    obtain ⟨k, e, c⟩ := x
    have hc : c = [] := hn _ (List.mem_cons_self ..)
    subst hc
    simp only [look]
    have h : (Bool.rec (lookF sl t) (some e) (Nat.beq k t) : Option D) = some d := h
    cases hk : Nat.beq k t with
    | true => rw [hk] at h; simp only [Option.some.injEq] at h; subst h; rfl
    | false => rw [hk] at h; exact lookF_look hs h

section
variable {P : Program} {T : Tab} {N : Nat} {av0 : Nat → Prop} {w0 : World} {sp : List (D × Value)} {s : VS} {a : Act} {w : World} {E : Env}

theorem evF_ev (hn : NilS s.sl) {x : Operand} {d : D} (e : evF s.sl x = some d) : s.ev [] x = some d := by
  cases x with
  | tmp t => simp only [evF] at e; simp [VS.ev, lookF_look hn e, sub]
  | const v => exact e
  | func f => exact e
  | global g => exact e
theorem CondsHold.nil (a : Act) : CondsHold a [] := fun p hp => by cases hp
theorem R.evF (h : R T N av0 w0 sp s a w E) (hn : NilS s.sl) {x : Operand} {d : D} (e : evF s.sl x = some d) : DRel E (AV av0 s.rs E) w d (a.eval x) :=
  h.ev (CondsHold.nil a) (evF_ev hn e)

theorem evsF_evs (hn : NilS s.sl) : ∀ {l : List Operand} {ds : List D}, evsF s.sl l = some ds → evs s [] l = some ds
  | [], ds, e => e
  | x :: l, ds, e => by
    have e : (match Go.V.evF s.sl x with
      | some d => match evsF s.sl l with
        | some r => some (d :: r)
        | none => none
      | none => none) = some ds := e
    split at e
    · rename_i d hd
      split at e
      · rename_i r hr
        simp only [evs, evF_ev hn hd, evsF_evs hn hr]
        exact e
      · simp at e
    · simp at e

theorem valF_some {d : Option D} {v : Value} (e : valF d = some v) : d = some (.c (.im (.v v))) := by
  unfold valF at e
  split at e
  · rename_i x
    unfold cvalF at e
    split at e
    · rename_i i
      unfold ivalF at e
      split at e
      · simp only [Option.some.injEq] at e; subst e; rfl
      · simp at e
    · simp at e
  · simp at e
theorem intF_some {d : Option D} {n : Int} (e : intF d = some n) : d = some (int n) := by
  unfold intF at e
  split at e
  · rename_i v hv
    unfold vint at e
    split at e
    · simp only [Option.some.injEq] at e; subst e; exact valF_some hv
    · simp at e
  · simp at e
theorem boolF_some {d : Option D} {b : Bool} (e : boolF d = some b) : d = some (bool b) := by
  unfold boolF at e
  split at e
  · rename_i v hv
    unfold vbool at e
    split at e
    · simp only [Option.some.injEq] at e; subst e; exact valF_some hv
    · simp at e
  · simp at e
theorem cellF_some {d : Option D} {c : C} (e : cellF d = some c) : d = some (.c c) := by
  unfold cellF at e
  split at e
  · simp only [Option.some.injEq] at e; subst e; rfl
  · simp at e
theorem aggF_some {d : Option D} {l : List C} (e : aggF d = some l) : d = some (.a l) := by
  unfold aggF at e
  split at e
  · simp only [Option.some.injEq] at e; subst e; rfl
  · simp at e
theorem tupF_some {d : Option D} {l : List (Bool × List C)} (e : tupF d = some l) : d = some (.t l) := by
  unfold tupF at e
  split at e
  · simp only [Option.some.injEq] at e; subst e; rfl
  · simp at e

/-- What an operation that only computes comes to. -/
def Looks (P : Program) (av0 : Nat → Prop) (s : VS) (a : Act) (w : World) (E : Env) (o : Oper) (d : D) : Prop :=
  ∃ v, (execOp a.eval o).run P w = .ok (.value v) w ∧ DRel E (AV av0 s.rs E) w d v

theorem Looks.of_pure (hty : TyOK P T) (h : R T N av0 w0 sp s a w E) {o : Oper} {p : Option Prop} {d : D} (e : pureOp T s [] o.op = some (p, d)) (hp : need p) : Looks P av0 s a w E o d := by
  obtain ⟨v, h1, h2⟩ := pureOp_sound hty h (CondsHold.nil a) e hp
  exact ⟨v, h1 w (Below.refl _ _), h2⟩

theorem evF_tmp {sl : Slots} {t : Tmp} : evF sl (.tmp t) = lookF sl t := rfl

theorem pickF_sound (h : R T N av0 w0 sp s a w E) (hn : NilS s.sl) {o : Oper} {c x y : Operand} (ho : o.op = .pick c x y) {d : D} (e : pickF s c x y = some d) : Looks P av0 s a w E o d := by
  unfold pickF at e
  split at e
  case h_2 => simp at e
  rename_i b hb
  have hb := boolF_some hb
  split at e
  case h_2 => simp at e
  rename_i z hz
  simp only [Option.some.injEq] at e
  subst e
  have hb := (h.evF hn hb).1
  cases b with
  | true =>
    have hz : boolF (evF s.sl x) = some z := hz
    have hx := (h.evF hn (boolF_some hz)).1
    exact ⟨.bool z, by simp [execOp, ho, hb, asBool, hx], rfl, rfl⟩
  | false =>
    have hz : boolF (evF s.sl y) = some z := hz
    have hx := (h.evF hn (boolF_some hz)).1
    exact ⟨.bool z, by simp [execOp, ho, hb, asBool, hx], rfl, rfl⟩

/-- A slice's cell beside nil: whether there is an address. -/
theorem nilF_sound (h : R T N av0 w0 sp s a w E) {c : C} {v : Value} {b : Bool} (hc : CRel E (AV av0 s.rs E) w c v) (e : nilF s.rs c = some b) :
    (b = true ∧ ∃ n k, v = .slice none n k) ∨ (b = false ∧ ∃ ad n k, v = .slice (some ad) n k) := by
  unfold nilF at e
  split at e
  · rename_i x
    unfold nilI at e
    split at e
    · obtain ⟨rfl, _⟩ := hc
      simp only [Option.some.injEq] at e
      exact .inl ⟨e.symm, _, _, rfl⟩
    · rename_i sz n get
      simp only [Option.some.injEq] at e
      obtain ⟨ao, cap, rfl, _, _, h3⟩ := hc
      obtain ⟨ad, rfl, _⟩ := h3 (by omega)
      exact .inr ⟨e.symm, _, _, _, rfl⟩
    · simp at e
  · rename_i r m
    split at e
    case h_2 => simp at e
    rename_i el sz n l hl
    simp only [Option.some.injEq] at e
    rw [nthF_eq, nth_eq] at hl
    obtain ⟨e', ao, n', cap, h1, h2, h3, rfl⟩ := hc
    obtain ⟨q1, q2, xs, ⟨_, q3⟩, q4⟩ := h.roots r _ _ hl h1
    rcases q3 with ⟨q3, _⟩ | ⟨g', cap', cur, q3, _⟩
    · rw [h2] at q3
      simp at q3
      omega
    · rw [h2] at q3
      simp only [Value.slice.injEq] at q3
      obtain ⟨rfl, _, _⟩ := q3
      exact .inr ⟨e.symm, _, _, _, rfl⟩
  · simp at e

theorem nil_run {t el : TypeId} (hu : P.underlying t = some (.slice el)) (b : Bool) {ao : Option Addr} {n k : Nat} (hb : ao.isNone = b) (x y : Operand) :
    (do eqGuard .eql t x y (.slice ao n k) (.slice none 0 0); binOp .eql t (.slice ao n k) (.slice none 0 0)).run P w = .ok (.bool b) w ∧
    (do eqGuard .neq t x y (.slice ao n k) (.slice none 0 0); binOp .neq t (.slice ao n k) (.slice none 0 0)).run P w = .ok (.bool (!b)) w := by
  have he : ∀ d, (Op.equalIn (d + 1) t (.slice ao n k) (.slice none 0 0)).run P w = .ok b w := fun d => by
    unfold Op.equalIn
    cases ao <;> simp [run_underlying hu, ← hb]
  have h0 : (Op.equal t (.slice ao n k) (.slice none 0 0)).run P w = .ok b w := he 9999
  constructor
  · show ((do eqGuard .eql t x y (.slice ao n k) (.slice none 0 0); (do pure (.bool (← Op.equal t (.slice ao n k) (.slice none 0 0)))) : Sem Value)).run P w = _
    rw [Sem.run_bind]
    simp [eqGuard, h0]
  · show ((do eqGuard .neq t x y (.slice ao n k) (.slice none 0 0); (do pure (.bool !(← Op.equal t (.slice ao n k) (.slice none 0 0)))) : Sem Value)).run P w = _
    rw [Sem.run_bind]
    simp [eqGuard, h0]

theorem nilcF_sound (hty : TyOK P T) (h : R T N av0 w0 sp s a w E) (hn : NilS s.sl) {o : Oper} {op : BinOp} {t t2 : TypeId} {x y : Operand} (ho : o.op = .binOp op t x y t2) (hy : isNil y = true) {d : D} (e : nilcF T s op t x = some d) : Looks P av0 s a w E o d := by
  have hy' : y = .const (.slice none 0 0) := by
    unfold isNil at hy
    split at hy
    · rfl
    · simp at hy
  subst hy'
  unfold nilcF at e
  split at e
  case h_2 => simp at e
  rename_i sz0 by0 z0 el hyt
  have hu := (hty.ty _ _ hyt).slice rfl
  split at e
  case h_2 => simp at e
  rename_i c hc
  have hc := h.evF hn (cellF_some hc)
  split at e
  case h_2 => simp at e
  rename_i b hb
  have hv : ∃ ao n k, a.eval x = .slice ao n k ∧ ao.isNone = b := by
    rcases nilF_sound h hc hb with ⟨rfl, n, k, hv⟩ | ⟨rfl, ad, n, k, hv⟩
    · exact ⟨none, n, k, hv, rfl⟩
    · exact ⟨some ad, n, k, hv, rfl⟩
  obtain ⟨ao, n, k, hv, hb⟩ := hv
  have hr := nil_run (P := P) (w := w) hu b (n := n) (k := k) hb x (.const (.slice none 0 0))
  have hce : a.eval (.const (.slice none 0 0)) = .slice none 0 0 := rfl
  split at e
  · simp only [Option.some.injEq] at e
    subst e
    exact ⟨.bool b, by simp only [execOp, ho, hv, hce]; exact run_value hr.1, rfl, rfl⟩
  · simp only [Option.some.injEq] at e
    subst e
    exact ⟨.bool (!b), by simp only [execOp, ho, hv, hce]; exact run_value hr.2, rfl, rfl⟩
  · simp at e

theorem geB_spec {b : Int} (h : geB b = true) : 0 ≤ b := by
  cases b with
  | ofNat k => exact Int.natCast_nonneg k
  | negSucc k => simp [geB] at h
theorem binI_pure {op : BinOp} {a b : Int} {z : Value} (e : binI op a b = some z) : binV op (.int .i64 a) (.int .i64 b) = some z ∨ (binV op (.int .i64 a) (.int .i64 b) = none ∧ ∃ p, divV op (.int .i64 a) (.int .i64 b) = some (p, z) ∧ p) := by
  cases op
  case quo =>
    right
    refine ⟨rfl, b ≠ 0, ?_, ?_⟩ <;> (simp only [binI] at e; cases hb : b == 0 <;> rw [hb] at e <;> simp_all [divV])
  case rem =>
    right
    refine ⟨rfl, b ≠ 0, ?_, ?_⟩ <;> (simp only [binI] at e; cases hb : b == 0 <;> rw [hb] at e <;> simp_all [divV])
  case shl =>
    right
    simp only [binI] at e
    obtain ⟨h1, e⟩ := Bool.rec_some e
    exact ⟨rfl, 0 ≤ b, by simp only [divV, Option.some.injEq] at e ⊢; rw [e], geB_spec h1⟩
  case shr =>
    right
    simp only [binI] at e
    obtain ⟨h1, e⟩ := Bool.rec_some e
    exact ⟨rfl, 0 ≤ b, by simp only [divV, Option.some.injEq] at e ⊢; rw [e], geB_spec h1⟩
  case and => left; exact e
  case andNot => left; exact e
  all_goals first | (simp [binI] at e; done) | (left; simpa [binI, binV] using e)

theorem vint_some {v : Value} {n : Int} (e : vint v = some n) : v = .int .i64 n := by
  unfold vint at e
  split at e
  · simp only [Option.some.injEq] at e; subst e; rfl
  · simp at e
theorem vbool_some {v : Value} {b : Bool} (e : vbool v = some b) : v = .bool b := by
  unfold vbool at e
  split at e
  · simp only [Option.some.injEq] at e; subst e; rfl
  · simp at e

theorem binF_sound (hty : TyOK P T) (h : R T N av0 w0 sp s a w E) (hn : NilS s.sl) {o : Oper} {op : BinOp} {t t2 : TypeId} {x y : Operand} (ho : o.op = .binOp op t x y t2) {d : D} (e : binF T s op t x y = some d) : Looks P av0 s a w E o d := by
  unfold binF at e
  split at e
  · rename_i hy; exact nilcF_sound hty h hn ho hy e
  rename_i hy
  split at e
  · rename_i u v hu hv
    have hu := evF_ev hn (valF_some hu)
    have hv := evF_ev hn (valF_some hv)
    split at e
    case h_2 => simp at e
    rename_i z hz
    simp only [Option.some.injEq] at e
    subst e
    unfold binVal at hz
    split at hz
    · rename_i n m hn' hm'
      have hn' := vint_some hn'
      have hm' := vint_some hm'
      subst hn' hm'
      rcases binI_pure hz with hz | ⟨hz, p, hz2, hp⟩
      · exact Looks.of_pure (p := none) hty h (by simp only [ho, pureOp, hu, hv, hz]) trivial
      · exact Looks.of_pure (p := some p) hty h (by simp only [ho, pureOp, hu, hv, hz, hz2]) hp
    · split at hz
      · rename_i b c hb hc
        have hb := vbool_some hb
        have hc := vbool_some hc
        subst hb hc
        unfold binB at hz
        split at hz
        case h_2 => simp at hz
        rename_i sz0 by0 z0 hyt
        split at hz
        · simp only [Option.some.injEq] at hz; subst hz
          exact Looks.of_pure (p := none) hty h (by simp only [ho, pureOp, hu, hv, hyt]) trivial
        · simp only [Option.some.injEq] at hz; subst hz
          exact Looks.of_pure (p := none) hty h (by simp only [ho, pureOp, hu, hv, hyt]) trivial
        · simp at hz
      · rename_i hnb
        refine Looks.of_pure (p := none) hty h ?_ trivial
        simp only [ho, pureOp, hu, hv]
        split
        · rename_i b c hb hc
          simp only [Option.some.injEq, D.c.injEq, C.im.injEq, I.v.injEq] at hb hc
          subst hb hc
          exact (hnb _ _ rfl rfl).elim
        · rename_i u' v' _ hb hc
          simp only [Option.some.injEq, D.c.injEq, C.im.injEq, I.v.injEq] at hb hc
          subst hb hc
          simp only [hz]
        · rename_i hb hc; simp at hb
        · rename_i hb hc _; exact (hc _ _ rfl rfl).elim
  · split at e
    case h_2 => simp at e
    rename_i l m hl hm
    have hl := evF_ev hn (aggF_some hl)
    have hm := evF_ev hn (aggF_some hm)
    unfold eqF at e
    split at e
    case h_2 => simp at e
    rename_i ks hks
    split at e
    case h_2 => simp at e
    rename_i b hb
    split at e
    · simp only [Option.some.injEq] at e; subst e
      exact Looks.of_pure (p := none) hty h (by simp only [ho, pureOp, hl, hm, hks, hb]) trivial
    · simp only [Option.some.injEq] at e; subst e
      exact Looks.of_pure (p := none) hty h (by simp only [ho, pureOp, hl, hm, hks, hb]) trivial
    · simp at e

theorem unF_sound (hty : TyOK P T) (h : R T N av0 w0 sp s a w E) (hn : NilS s.sl) {o : Oper} {op : UnOp} {t : TypeId} {x : Operand} (ho : o.op = .unOp op t x) {d : D} (e : unF s op x = some d) : Looks P av0 s a w E o d := by
  unfold unF at e
  split at e
  · split at e
    case h_2 => simp at e
    rename_i b hb
    simp only [Option.some.injEq] at e; subst e
    exact Looks.of_pure (p := none) hty h (by simp only [ho, pureOp, evF_ev hn (boolF_some hb)]) trivial
  · split at e
    case h_2 => simp at e
    rename_i b hb
    simp only [Option.some.injEq] at e; subst e
    exact Looks.of_pure (p := none) hty h (by simp only [ho, pureOp, evF_ev hn (intF_some hb)]) trivial
  · simp at e
theorem nilchkF_sound (hty : TyOK P T) (h : R T N av0 w0 sp s a w E) (hn : NilS s.sl) {o : Oper} {x : Operand} (ho : o.op = .nilCheck x) {d : D} (e : nilchkF s x = some d) : Looks P av0 s a w E o d := by
  unfold nilchkF at e
  split at e
  case h_2 => simp at e
  rename_i c hc
  have hc := evF_ev hn (cellF_some hc)
  split at e <;> first | (simp at e; done) | (simp only [Option.some.injEq] at e; subst e; exact Looks.of_pure (p := none) hty h (by simp only [ho, pureOp, hc]) trivial)
theorem faddrF_sound (hty : TyOK P T) (h : R T N av0 w0 sp s a w E) (hn : NilS s.sl) {o : Oper} {t : TypeId} {x : Operand} {f : Nat} (ho : o.op = .fieldAddr t x f) {d : D} (e : faddrF T s t x f = some d) : Looks P av0 s a w E o d := by
  unfold faddrF at e
  split at e
  case h_2 => simp at e
  rename_i sz0 by0 z0 fs hy
  split at e
  case h_2 => simp at e
  rename_i p hp
  rw [nthF_eq] at hp
  obtain ⟨o1, sz⟩ := p
  split at e
  case h_2 => simp at e
  rename_i c hc
  have hc := evF_ev hn (cellF_some hc)
  obtain ⟨hpos, e⟩ := Bool.rec_some e
  unfold faddrC at e
  split at e
  · simp only [Option.some.injEq] at e; subst e
    exact Looks.of_pure (p := none) hty h (by simp only [ho, pureOp, hy, hp, hpos, hc]) trivial
  · obtain ⟨hle, e⟩ := Bool.rec_some e
    simp only [Option.some.injEq] at e; subst e
    exact Looks.of_pure (p := none) hty h (by simp only [ho, pureOp, hy, hp, hpos, hc, hle]) trivial
  · simp at e
theorem inB_spec {i : Int} {n : Nat} (h : inB i n = true) : 0 ≤ i ∧ i < (n : Int) := by
  unfold inB at h
  split at h
  · have := toNat_of_blt h; exact ⟨Int.natCast_nonneg _, Int.ofNat_lt.2 this⟩
  · simp at h
theorem leB_spec {i : Int} {n : Nat} (h : leB i n = true) : 0 ≤ i ∧ i ≤ (n : Int) := by
  unfold leB at h
  split at h
  · have := of_ble h; exact ⟨Int.natCast_nonneg _, Int.ofNat_le.2 this⟩
  · simp at h
theorem elemF_some {t : Nat} {y : Ty} (e : elemF T t = some y) : ∃ sz0 by0 z0 el, T.ty t = some ⟨sz0, by0, z0, .slice el⟩ ∧ T.ty el = some y := by
  unfold elemF at e
  split at e
  · rename_i sz0 by0 z0 el hy; exact ⟨sz0, by0, z0, el, hy, e⟩
  · simp at e
theorem TyFact.array {P : Program} {t : TypeId} {y : Ty} (h : TyFact P t y) {n e : Nat} (hk : y.kd = .array n e) : P.underlying t = some (.array n e) := by
  have := h.kd
  rw [hk] at this
  unfold kdOf at this
  split at this <;> (try split at this) <;> simp_all
theorem arrF_some {t : Nat} {n : Nat} {y : Ty} (e : arrF T t = some (n, y)) : ∃ sz0 by0 z0 el, T.ty t = some ⟨sz0, by0, z0, .array n el⟩ ∧ T.ty el = some y := by
  unfold arrF at e
  split at e
  · rename_i sz0 by0 z0 n' el hy
    split at e
    · rename_i y' hy'
      simp only [Option.some.injEq, Prod.mk.injEq] at e
      obtain ⟨rfl, rfl⟩ := e
      exact ⟨sz0, by0, z0, el, hy, hy'⟩
    · simp at e
  · simp at e
theorem iaddrA_sound (hty : TyOK P T) (h : R T N av0 w0 sp s a w E) (hn : NilS s.sl) {o : Oper} {t : TypeId} {x ix : Operand} (ho : o.op = .indexAddr t x ix) {n : Nat} {y : Ty} (hy : arrF T t = some (n, y)) {i : Int} (hi : intF (evF s.sl ix) = some i) {c : C} (hc : cellF (evF s.sl x) = some c) {d : D} (e : iaddrA n y.size i c = some d) : Looks P av0 s a w E o d := by
  obtain ⟨sz0, by0, z0, el, hy1, hy2⟩ := arrF_some hy
  have hu := (hty.ty _ _ hy1).array rfl
  have hye := hty.ty _ _ hy2
  replace hi := (h.evF hn (intF_some hi)).1
  replace hc := h.evF hn (cellF_some hc)
  unfold iaddrA at e
  split at e
  · rename_i r k j
    obtain ⟨h1, e⟩ := Bool.rec_some e
    simp only [Option.some.injEq] at e
    subst e
    obtain ⟨h2, h3⟩ := inB_spec h1
    obtain ⟨b, sz, hat, hv⟩ := hc
    refine ⟨.pointer (some ((⟨b, k * sz + j, none⟩ : Addr).add (i.toNat * y.size))), ?_, b, sz, hat, ?_⟩
    · simp only [execOp, ho, hv, hi]
      refine run_value ?_
      simp [Instr.indexAt, run_underlying hu, asIntOf, Instr.sureAddr, h2, h3, run_sizeOf hye.sz]
    · rw [Addr.add_mid]
      simp only [Value.pointer.injEq, Option.some.injEq, Addr.mk.injEq, and_true, true_and]
      omega
  · simp at e
theorem iaddrF_sound (hty : TyOK P T) (h : R T N av0 w0 sp s a w E) (hn : NilS s.sl) {o : Oper} {t : TypeId} {x ix : Operand} (ho : o.op = .indexAddr t x ix) {d : D} (e : iaddrF T s t x ix = some d) : Looks P av0 s a w E o d := by
  unfold iaddrF at e
  split at e
  · rename_i a' ha
    obtain ⟨n, y⟩ := a'
    split at e
    case h_2 => simp at e
    rename_i i hi
    split at e
    case h_2 => simp at e
    rename_i c hc
    exact iaddrA_sound hty h hn ho ha hi hc e
  split at e
  case h_2 => simp at e
  rename_i y hy
  obtain ⟨sz0, by0, z0, el, hy1, hy2⟩ := elemF_some hy
  split at e
  case h_2 => simp at e
  rename_i i hi
  have hi := evF_ev hn (intF_some hi)
  split at e
  case h_2 => simp at e
  rename_i c hc
  have hc := evF_ev hn (cellF_some hc)
  unfold iaddrC at e
  split at e
  · obtain ⟨h1, e⟩ := Bool.rec_some e
    obtain ⟨h2, e⟩ := Bool.rec_some e
    simp only [Option.some.injEq] at e; subst e
    refine Looks.of_pure (p := some _) hty h (by simp only [ho, pureOp, hy1, hy2, hi, hc, h1]) (inB_spec h2)
  · split at e
    case h_2 => simp at e
    rename_i hl
    rw [nthF_eq] at hl
    obtain ⟨h1, e⟩ := Bool.rec_some e
    obtain ⟨h2, e⟩ := Bool.rec_some e
    simp only [Option.some.injEq] at e; subst e
    refine Looks.of_pure (p := some _) hty h (by simp only [ho, pureOp, hy1, hy2, hi, hc, hl, h1]) (inB_spec h2)
  · simp at e
theorem loadF_pure (hn : NilS s.sl) {t : TypeId} {x : Operand} {d : D} (e : loadF T s t x = some d) : pureOp T s [] (.load t x) = some (none, d) := by
  unfold loadF at e
  split at e
  case h_2 => simp at e
  rename_i y hy
  split at e
  case h_2 => simp at e
  rename_i c hc
  have hc := evF_ev hn (cellF_some hc)
  have box : ∀ {l : List C} {j : Nat}, loadBox y l j = some d → (match y.kd.agg with
      | true => match takeN y.size (dropN j l) with
        | some cs => some (none, D.a cs)
        | none => none
      | false => match nth l j with
        | some c => some (none, .c c)
        | none => none) = some ((none : Option Prop), d) := by
    intro l j e
    unfold loadBox at e
    split at e
    · rename_i hagg
      split at e
      case h_2 => simp at e
      rename_i cs hcs
      simp only [Option.some.injEq] at e; subst e
      simp only [hagg, hcs]
    · rename_i hagg
      split at e
      case h_2 => simp at e
      rename_i cs hcs
      rw [nthF_eq] at hcs
      simp only [Option.some.injEq] at e; subst e
      simp only [hagg, hcs]
  unfold loadC at e
  split at e
  · rename_i r i j
    unfold loadR at e
    split at e
    · rename_i l hl
      rw [nthF_eq] at hl
      split at e
      · simp only [pureOp, hy, hc, hl]
        exact box e
      · simp at e
    · rename_i sz n l hl
      rw [nthF_eq] at hl
      simp only [pureOp, hy, hc, hl]
      exact box e
    · simp at e
  · rename_i q
    unfold loadG at e
    split at e
    case h_2 => simp at e
    rename_i z hz
    split at e
    · simp at e
    · rename_i hagg
      simp only [Option.some.injEq] at e; subst e
      simp only [pureOp, hy, hc, hagg, hz]
  · rename_i n get
    unfold loadPt at e
    split at e
    · rename_i hagg
      obtain ⟨h1, e⟩ := Bool.rec_some e
      simp only [Option.some.injEq] at e; subst e
      simp only [pureOp, hy, hc, hagg, h1]
    · rename_i hagg
      obtain ⟨h1, e⟩ := Bool.rec_some e
      simp only [Option.some.injEq] at e; subst e
      simp only [pureOp, hy, hc, hagg, h1]
  · simp at e
theorem extractF_sound (hty : TyOK P T) (h : R T N av0 w0 sp s a w E) (hn : NilS s.sl) {o : Oper} {x : Operand} {k : Nat} (ho : o.op = .extract x k) {d : D} (e : extractF s x k = some d) : Looks P av0 s a w E o d := by
  unfold extractF at e
  split at e
  case h_2 => simp at e
  rename_i l hl
  have hl := evF_ev hn (tupF_some hl)
  rw [nthF_eq] at e
  split at e
  · rename_i cs hc
    simp only [Option.some.injEq] at e; subst e
    exact Looks.of_pure (p := none) hty h (by simp only [ho, pureOp, hl, hc]) trivial
  · rename_i cs hc
    simp only [Option.some.injEq] at e; subst e
    exact Looks.of_pure (p := none) hty h (by simp only [ho, pureOp, hl, hc]) trivial
  · simp at e
theorem fillF_fillD (hn : NilS s.sl) {fs : List (Nat × Nat)} : ∀ {ps : List (Nat × Operand)} {l r : List C}, fillF fs s.sl ps l = some r → fillD fs s [] ps l = some r
  | [], l, r, e => e
  | p :: ps, l, r, e => by
    obtain ⟨k, x⟩ := p
    have e : (match nthF fs k with
      | some o => match Go.V.evF s.sl x with
        | some d => match d.cells with
          | some cs => (Bool.rec none (match put l o.1 cs with
            | some l' => fillF fs s.sl ps l'
            | none => none) (Nat.beq cs.length o.2 && Nat.blt 0 o.2) : Option (List C))
          | none => none
        | none => none
      | none => none) = some r := e
    split at e
    case h_2 => simp at e
    rename_i o ho
    rw [nthF_eq] at ho
    obtain ⟨o1, o2⟩ := o
    split at e
    case h_2 => simp at e
    rename_i d hd
    split at e
    case h_2 => simp at e
    rename_i cs hcs
    obtain ⟨h1, e⟩ := Bool.rec_some e
    split at e
    case h_2 => simp at e
    rename_i l' hl'
    simp only at h1 hl'
    simp only [fillD, ho, evF_ev hn hd, hcs, h1, hl']
    exact fillF_fillD hn e
theorem buildF_sound (hty : TyOK P T) (h : R T N av0 w0 sp s a w E) (hn : NilS s.sl) {o : Oper} {t : TypeId} {ps : Array (Nat × Operand)} (ho : o.op = .build t ps) {d : D} (e : buildF T s t ps.toList = some d) : Looks P av0 s a w E o d := by
  unfold buildF at e
  split at e
  case h_2 => simp at e
  rename_i y hy
  split at e
  case h_2 => simp at e
  rename_i fs hk
  split at e
  case h_2 => simp at e
  rename_i z hz
  split at e
  case h_2 => simp at e
  rename_i l hl
  simp only [Option.some.injEq] at e; subst e
  exact Looks.of_pure (p := none) hty h (by simp only [ho, pureOp, hy, hk, hz, fillF_fillD hn hl]) trivial
theorem mkfnF_sound (hty : TyOK P T) (h : R T N av0 w0 sp s a w E) (hn : NilS s.sl) {o : Oper} {fn : Fn} {first caps : Array Operand} (ho : o.op = .makeFunc fn first caps) {d : D} (e : mkfnF s fn first.toList caps.toList = some d) : Looks P av0 s a w E o d := by
  unfold mkfnF at e
  split at e
  case h_2 => simp at e
  split at e
  case h_2 => simp at e
  rename_i hf
  split at e
  · rename_i hc
    simp only [Option.some.injEq] at e; subst e
    exact Looks.of_pure (p := none) hty h (by simp only [ho, pureOp, hf, evsF_evs hn hc]) trivial
  · rename_i hc
    simp only [Option.some.injEq] at e; subst e
    exact Looks.of_pure (p := none) hty h (by simp only [ho, pureOp, hf, evsF_evs hn hc]) trivial
  · rename_i hc
    simp only [Option.some.injEq] at e; subst e
    exact Looks.of_pure (p := none) hty h (by simp only [ho, pureOp, hf, evsF_evs hn hc]) trivial
  · rename_i hc
    simp only [Option.some.injEq] at e; subst e
    exact Looks.of_pure (p := none) hty h (by simp only [ho, pureOp, hf, evsF_evs hn hc]) trivial
  · simp at e

theorem calF_sound (hty : TyOK P T) (h : R T N av0 w0 sp s a w E) (hn : NilS s.sl) {o : Oper} {c : Call} (ho : o.op = .call c) {d : D} (e : calF T s c = some d) : Looks P av0 s a w E o d := by
  unfold calF at e
  split at e
  case h_2 => simp at e
  rename_i b hb
  have go : builtinD T b c.argTypes.toList (evs s [] c.args.toList) = some (none, d) → Looks P av0 s a w E o d := fun q =>
    Looks.of_pure (p := none) hty h (by simp only [ho, pureOp, hb]; exact q) trivial
  unfold builtF at e
  split at e
  · apply go
    unfold lenF at e
    split at e
    case h_2 => simp at e
    rename_i t x hts hxs
    rw [hts, hxs]
    split at e
    · rename_i hy
      split at e
      case h_2 => simp at e
      rename_i cc hc
      have hc := evF_ev hn (cellF_some hc)
      unfold lenC at e
      split at e <;> first | (simp at e; done) | (simp only [Option.some.injEq] at e; subst e; simp only [builtinD, evs, hc, hy])
    · rename_i hy
      split at e
      case h_2 => simp at e
      rename_i b hc
      have hc := evF_ev hn (valF_some hc)
      simp only [Option.some.injEq] at e; subst e
      simp only [builtinD, evs, hc, hy]
    · simp at e
  · apply go
    unfold maxF at e
    split at e
    case h_2 => simp at e
    rename_i x y hxs
    split at e
    case h_2 => simp at e
    rename_i n m h1 h2
    simp only [Option.some.injEq] at e; subst e
    rw [hxs]
    simp only [builtinD, evs, evF_ev hn (intF_some h1), evF_ev hn (intF_some h2)]
  · apply go
    unfold minF at e
    split at e
    case h_2 => simp at e
    rename_i x y hxs
    split at e
    case h_2 => simp at e
    rename_i n m h1 h2
    simp only [Option.some.injEq] at e; subst e
    rw [hxs]
    simp only [builtinD, evs, evF_ev hn (intF_some h1), evF_ev hn (intF_some h2)]
  · simp at e
theorem findG_eq (n : Int) : ∀ l : List (Int × FuncId), findG n l = findI n l
  | [] => rfl
  | x :: l => by
    show (Bool.rec (findG n l) (some x.2) (n == x.1) : Option FuncId) = findI n (x :: l)
    unfold findI
    cases n == x.1 with
    | true => rfl
    | false => exact findG_eq n l
theorem fmF_sound (hty : TyOK P T) (h : R T N av0 w0 sp s a w E) (hn : NilS s.sl) {o : Oper} {t : TypeId} {x i : Operand} {ok : Bool} (ho : o.op = .lookup t x i ok) {d : D} (e : fmF T s t x i ok = some d) : Looks P av0 s a w E o d := by
  unfold fmF at e
  obtain ⟨hk, e⟩ := Bool.rec_some e
  unfold fmK at hk
  split at hk
  case h_2 => simp at hk
  rename_i k el hyt
  split at hk
  case h_2 => simp at hk
  rename_i hyk hye
  have hyt := (hty.ty _ _ hyt).map rfl
  have hyk := (hty.ty _ _ hyk).int rfl
  have hye := hty.ty _ _ hye
  obtain ⟨inf, hin, _, _, hz⟩ := hye.full
  split at e
  case h_2 => simp at e
  rename_i l n hx hi
  simp only [Option.some.injEq] at e
  subst e
  obtain ⟨b, es, clock, hx, _, h2, h3⟩ := h.evF hn (cellF_some hx)
  have hi := (h.evF hn (intF_some hi)).1
  rw [findG_eq]
  have hu : (Go.underlying t).run P w = .ok (.map k el) w := by simp [Go.underlying, Go.program, Sem.run, hyt]
  have huk : (Go.underlying k).run P w = .ok (.int .i64) w := by simp [Go.underlying, Go.program, Sem.run, hyk]
  have hg' : (getObj b).run P w = .ok (.map es clock) w := by simp [getObj, Sem.run, h2]
  have hz0 : (zeroValue el).run P w = .ok .nilFunc w := by simp [zeroValue, typeInfo, hin, hz]
  rcases h3 n with ⟨h4, h5⟩ | ⟨q, f, h4, h5⟩
  · have hf : (Instr.findKey k (.int .i64 n) es.toList).run P w = .ok none w := by simp [Instr.findKey, huk, h4]
    rw [h5]
    cases ok with
    | true =>
      refine ⟨.tuple #[.nilFunc, .bool false], ?_, _, rfl, .cons ⟨_, rfl, rfl, rfl⟩ (.cons ⟨_, rfl, rfl, rfl⟩ .nil)⟩
      simp only [execOp, ho, hx, hi]
      refine run_value ?_
      unfold Instr.lookup
      simp [Sem.run_bind, hu, hg', Result.andThen_ok, checkKey_int hyk, hf, hz0]
    | false =>
      refine ⟨.nilFunc, ?_, rfl, rfl⟩
      simp only [execOp, ho, hx, hi]
      refine run_value ?_
      unfold Instr.lookup
      simp [Sem.run_bind, hu, hg', Result.andThen_ok, checkKey_int hyk, hf, hz0]
  · have hf : (Instr.findKey k (.int .i64 n) es.toList).run P w = .ok (some (q, .func (.func f) #[] #[])) w := by simp [Instr.findKey, huk, h4]
    rw [h5]
    have hrel : IRel (AV av0 s.rs E) w (.fn f 0 fun _ => .v (.bool false)) (.func (.func f) #[] #[]) := ⟨#[], rfl, rfl, fun j hj => by omega⟩
    cases ok with
    | true =>
      refine ⟨.tuple #[.func (.func f) #[] #[], .bool true], ?_, _, rfl, .cons ⟨_, rfl, hrel⟩ (.cons ⟨_, rfl, rfl, rfl⟩ .nil)⟩
      simp only [execOp, ho, hx, hi]
      refine run_value ?_
      unfold Instr.lookup
      simp [Sem.run_bind, hu, hg', Result.andThen_ok, checkKey_int hyk, hf]
    | false =>
      refine ⟨.func (.func f) #[] #[], ?_, hrel⟩
      simp only [execOp, ho, hx, hi]
      refine run_value ?_
      unfold Instr.lookup
      simp [Sem.run_bind, hu, hg', Result.andThen_ok, checkKey_int hyk, hf]
theorem lookupF_sound (hty : TyOK P T) (h : R T N av0 w0 sp s a w E) (hn : NilS s.sl) {o : Oper} {t : TypeId} {x i : Operand} {ok : Bool} (ho : o.op = .lookup t x i ok) {d : D} (e : lookupF T s t x i ok = some d) : Looks P av0 s a w E o d := by
  unfold lookupF at e
  split at e
  · exact fmF_sound hty h hn ho e
  cases hk : mapK T t with
  | false => rw [hk] at e; exact fmF_sound hty h hn ho e
  | true =>
  rw [hk] at e
  simp only at e
  unfold mapK at hk
  split at hk
  case h_2 => simp at hk
  rename_i hy
  split at hk
  case h_2 => simp at hk
  rename_i hy1 hy2
  split at e
  case h_2 => simp at e
  rename_i c n hc hi
  have hc := evF_ev hn (cellF_some hc)
  have hi := evF_ev hn (intF_some hi)
  split at e
  case h_2 => simp at e
  rename_i l hl
  simp only [Option.some.injEq] at e; subst e
  unfold setF at hl
  split at hl
  · split at hl
    case h_2 => simp at hl
    rename_i hr
    rw [nthF_eq] at hr
    simp only [Option.some.injEq] at hl; subst hl
    exact Looks.of_pure (p := none) hty h (by simp only [ho, pureOp, hy, hy1, hy2, hc, hi, hr]) trivial
  · simp only [Option.some.injEq] at hl; subst hl
    exact Looks.of_pure (p := none) hty h (by simp only [ho, pureOp, hy, hy1, hy2, hc, hi]) trivial
  · simp at hl
theorem sliceL_sound (hty : TyOK P T) (h : R T N av0 w0 sp s a w E) (hn : NilS s.sl) {o : Oper} {t : TypeId} {x l : Operand} (ho : o.op = .slice t x (some l) none none) {y : Ty} (hy : elemF T t = some y) {c : C} (hc : cellF (evF s.sl x) = some c) {q : Int} (hl : intF (evF s.sl l) = some q) {d : D} (e : sliceL y.size c q = some d) : Looks P av0 s a w E o d := by
  obtain ⟨sz0, by0, z0, el, hy1, hy2⟩ := elemF_some hy
  have hyt := (hty.ty _ _ hy1).slice rfl
  replace hc := h.evF hn (cellF_some hc)
  replace hl := (h.evF hn (intF_some hl)).1
  unfold sliceL at e
  split at e
  case h_2 => simp at e
  rename_i sz n get
  obtain ⟨h1, e⟩ := Bool.rec_some e
  simp only [Bool.and_eq_true] at h1
  obtain ⟨h2, h3⟩ := leB_spec h1.1
  have h4 := of_beq h1.2
  subst h4
  simp only [Option.some.injEq] at e
  subst e
  obtain ⟨ao, cap, hv, g1, g2, g3⟩ := hc
  have he : P.elem t = el := by simp [Program.elem, hyt]
  have ht : P.underlying t = some (.slice (P.elem t)) := by rw [he]; exact hyt
  have hqn : q.toNat ≤ n := by omega
  have e1 : n - q.toNat ≤ cap - q.toNat := Nat.sub_le_sub_right g1 _
  have e2 : n - q.toNat ≤ maxLen := Nat.le_trans (Nat.sub_le _ _) g2
  have e3 : 0 < n - q.toNat → 0 < n ∧ cap ≠ q.toNat := fun h0 => ⟨by omega, by omega⟩
  have e4 : ∀ i, i < n - q.toNat → q.toNat + i < n := fun i hi => by omega
  refine ⟨sliced ao q.toNat n cap y.size, ?_, _, _, rfl, e1, e2, fun h0 => ?_⟩
  · simp only [execOp, ho, hv, hl, Option.map_some, Option.map_none]
    refine run_value ?_
    rw [run_sliceAt_slice w t _ _ _ _ ht, run_slice_l w t ao n cap ht .i64 q h2 h3, he, run_sizeOf (hty.ty _ _ hy2).sz, Result.andThen_ok]
  · obtain ⟨ad, rfl, k1, k2, k3, k4⟩ := g3 (e3 h0).1
    refine ⟨ad.add (q.toNat * y.size), ?_, add_spot _ k1 _, by rw [block_add]; exact k2, by rw [block_add]; exact k3, fun i hi j hj => ?_⟩
    · rw [if_neg (e3 h0).2]; rfl
    · obtain ⟨v, m1, m2⟩ := k4 (q.toNat + i) (e4 i hi) j hj
      refine ⟨v, ?_, m2⟩
      rw [add_add _ k1, ← m1]
      congr 2
      rw [Nat.add_mul, Nat.add_assoc]
theorem sliceF_sound (hty : TyOK P T) (h : R T N av0 w0 sp s a w E) (hn : NilS s.sl) {o : Oper} {t : TypeId} {x : Operand} {lo hi mx : Option Operand} (ho : o.op = .slice t x lo hi mx) {d : D} (e : sliceF T s t x lo hi mx = some d) : Looks P av0 s a w E o d := by
  unfold sliceF at e
  split at e
  case h_3 => simp at e
  case h_2 =>
    split at e
    case h_2 => simp at e
    rename_i y hy
    split at e
    case h_2 => simp at e
    rename_i c n hc hh
    exact sliceL_sound hty h hn ho hy hc hh e
  rename_i hi
  split at e
  case h_2 => simp at e
  rename_i y hy
  obtain ⟨sz0, by0, z0, el, hy1, hy2⟩ := elemF_some hy
  split at e
  case h_2 => simp at e
  rename_i c n hc hh
  have hc := evF_ev hn (cellF_some hc)
  have hh := evF_ev hn (intF_some hh)
  unfold sliceC at e
  split at e
  · obtain ⟨h1, e⟩ := Bool.rec_some e
    simp only [Option.some.injEq] at e; subst e
    exact Looks.of_pure (p := some _) hty h (by simp only [ho, pureOp, hy1, hy2, hc, hh]) (leB_spec h1)
  · split at e
    case h_2 => simp at e
    rename_i hl
    rw [nthF_eq] at hl
    obtain ⟨h1, e⟩ := Bool.rec_some e
    simp only [Option.some.injEq] at e; subst e
    exact Looks.of_pure (p := some _) hty h (by simp only [ho, pureOp, hy1, hy2, hc, hh, hl]) (leB_spec h1)
  · obtain ⟨h1, e⟩ := Bool.rec_some e
    simp only [Option.some.injEq] at e; subst e
    exact Looks.of_pure (p := some _) hty h (by simp only [ho, pureOp, hy1, hy2, hc, hh]) (show n = 0 by simpa using h1)
  · simp at e

/-- An operation that only computes. -/
theorem lookO_sound (hty : TyOK P T) (h : R T N av0 w0 sp s a w E) (hn : NilS s.sl) {o : Oper} {d : D} (e : lookO T s o.op = some d) : Looks P av0 s a w E o d := by
  generalize hop : o.op = op at e
  cases op with
  | move x => exact Looks.of_pure (p := none) hty h (by simp only [hop, pureOp, evF_ev hn (show Go.V.evF s.sl x = some d from e)]) trivial
  | assign x => exact Looks.of_pure (p := none) hty h (by simp only [hop, pureOp, evF_ev hn (show Go.V.evF s.sl x = some d from e)]) trivial
  | pick c x y => exact pickF_sound h hn hop e
  | binOp op t x y t2 => exact binF_sound hty h hn hop e
  | unOp op t x => exact unF_sound hty h hn hop e
  | nilCheck x => exact nilchkF_sound hty h hn hop e
  | fieldAddr t x f => exact faddrF_sound hty h hn hop e
  | indexAddr t x i => exact iaddrF_sound hty h hn hop e
  | load t x => exact Looks.of_pure (p := none) hty h (by rw [hop]; exact loadF_pure hn e) trivial
  | extract x k => exact extractF_sound hty h hn hop e
  | build t ps => exact buildF_sound hty h hn hop e
  | makeFunc fn first caps => exact mkfnF_sound hty h hn hop e
  | call c => exact calF_sound hty h hn hop e
  | lookup t x i ok => exact lookupF_sound hty h hn hop e
  | slice t x lo hi mx => exact sliceF_sound hty h hn hop e
  | _ => exact absurd e (by simp [lookO])
end
end Go.V
