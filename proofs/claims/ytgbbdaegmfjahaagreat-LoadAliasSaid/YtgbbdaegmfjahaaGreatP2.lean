/- The executor's operations that only compute: the machine does them. -/
import Derived.Test.YtgbbdaegmfjahaaGreatP1
set_option linter.unusedVariables false
namespace Go.V
open Go.RowKit
theorem Bool.rec_some {α : Type} {x : Option α} {b : Bool} {y : α} (h : (Bool.rec none x b : Option α) = some y) : b = true ∧ x = some y := by
  cases b with
  | false => simp at h
  | true => exact ⟨rfl, h⟩
def NilS (sl : Slots) : Prop := ∀ x ∈ sl, x.2.2 = []
theorem NilS.cons {sl : Slots} (h : NilS sl) (t : Tmp) (d : D) : NilS ((t, d, []) :: sl) := fun x hx => by
  cases hx with
  | head => rfl
  | tail _ hx => exact h x hx
theorem nthF_eq {α : Type} : ∀ (l : List α) (i : Nat), nthF l i = nth l i
  | [], _ => rfl
  | _ :: _, 0 => rfl
  | _ :: l, i + 1 => nthF_eq l i
theorem lookF_look : ∀ {sl : Slots} {t : Tmp} {d : D}, NilS sl → lookF sl t = some d → look sl t = some (d, [])
  | [], t, d, _, h => by simp [lookF] at h
  | x :: sl, t, d, hn, h => by
    have hs : NilS sl := fun y hy => hn y (List.mem_cons_of_mem _ hy)
    obtain ⟨k, e, c⟩ := x
    have hc : c = [] := hn _ (List.mem_cons_self ..)
    subst hc
    simp only [look]
    have h : (Bool.rec (lookF sl t) (some e) (Nat.beq k t) : Option D) = some d := h
    cases hk : Nat.beq k t with
    | true => rw [hk] at h; simp only [Option.some.injEq] at h; subst h; rfl
    | false => rw [hk] at h; exact lookF_look hs h
section
variable {P : Program} {T : Tab} {N : Nat} {av0 : Nat → Prop} {w0 : Kp} {sp : List (D × Value)} {s : VS} {a : Act} {w : World} {E : Env}
theorem evF_ev (hn : NilS s.sl) {x : Operand} {d : D} (e : evF s.sl x = some d) : s.ev [] x = some d := by
  cases x with
  | tmp t => simp only [evF] at e; simp [VS.ev, lookF_look hn e, sub]
  | const v => exact e
  | func f => exact e
  | global g => exact e
theorem CondsHold.nil (a : Act) : CondsHold a [] := fun p hp => by cases hp
theorem R.evF (h : R T N av0 w0 sp s a w E) (hn : NilS s.sl) {x : Operand} {d : D} (e : evF s.sl x = some d) : DRel E (AV av0 s.rs E) w d (a.eval x) :=
  h.ev (CondsHold.nil a) (evF_ev hn e)
theorem evsF_evs (hn : NilS s.sl) : ∀ {l : List Operand} {ds : List D}, evsF s.sl l = some ds → evs s [] l = some ds
  | [], ds, e => e
  | x :: l, ds, e => by
    have e : (match Go.V.evF s.sl x with
      | some d => match evsF s.sl l with
        | some r => some (d :: r)
        | none => none
      | none => none) = some ds := e
    split at e
    · rename_i d hd
      split at e
      · rename_i r hr
        simp only [evs, evF_ev hn hd, evsF_evs hn hr]
        exact e
      · simp at e
    · simp at e
theorem valF_some {d : Option D} {v : Value} (e : valF d = some v) : d = some (.c (.im (.v v))) := by
  unfold valF at e
  split at e
  · rename_i x
    unfold cvalF at e
    split at e
    · rename_i i
      unfold ivalF at e
      split at e
      · simp only [Option.some.injEq] at e; subst e; rfl
      · simp at e
    · simp at e
  · simp at e
theorem intF_some {d : Option D} {n : Int} (e : intF d = some n) : d = some (int n) := by
  unfold intF at e
  split at e
  · rename_i v hv
    unfold vint at e
    split at e
    · simp only [Option.some.injEq] at e; subst e; exact valF_some hv
    · simp at e
  · simp at e
theorem boolF_some {d : Option D} {b : Bool} (e : boolF d = some b) : d = some (bool b) := by
  unfold boolF at e
  split at e
  · rename_i v hv
    unfold vbool at e
    split at e
    · simp only [Option.some.injEq] at e; subst e; exact valF_some hv
    · simp at e
  · simp at e
theorem cellF_some {d : Option D} {c : C} (e : cellF d = some c) : d = some (.c c) := by
  unfold cellF at e
  split at e
  · simp only [Option.some.injEq] at e; subst e; rfl
  · simp at e
theorem aggF_some {d : Option D} {l : List C} (e : aggF d = some l) : d = some (.a l) := by
  unfold aggF at e
  split at e
  · simp only [Option.some.injEq] at e; subst e; rfl
  · simp at e
theorem tupF_some {d : Option D} {l : List (Bool × List C)} (e : tupF d = some l) : d = some (.t l) := by
  unfold tupF at e
  split at e
  · simp only [Option.some.injEq] at e; subst e; rfl
  · simp at e
def Looks (P : Program) (av0 : Nat → Prop) (s : VS) (a : Act) (w : World) (E : Env) (o : Oper) (d : D) : Prop :=
  ∃ v, (execOp a.eval o).run P w = .ok (.value v) w ∧ DRel E (AV av0 s.rs E) w d v
theorem Looks.of_pure (hty : TyOK P T) (h : R T N av0 w0 sp s a w E) {o : Oper} {p : Option Prop} {d : D} (e : pureOp T s [] o.op = some (p, d)) (hp : need p) : Looks P av0 s a w E o d := by
  obtain ⟨v, h1, h2⟩ := pureOp_sound hty h (CondsHold.nil a) e hp
  exact ⟨v, h1 w (Below.refl _ _), h2⟩
theorem pickF_sound (h : R T N av0 w0 sp s a w E) (hn : NilS s.sl) {o : Oper} {c x y : Operand} (ho : o.op = .pick c x y) {d : D} (e : pickF s c x y = some d) : Looks P av0 s a w E o d := by
  unfold pickF at e
  split at e
  case h_2 => simp at e
  rename_i b hb
  have hb := boolF_some hb
  split at e
  case h_2 => simp at e
  rename_i z hz
  simp only [Option.some.injEq] at e
  subst e
  have hb := (h.evF hn hb).1
  cases b with
  | true =>
    have hz : boolF (evF s.sl x) = some z := hz
    have hx := (h.evF hn (boolF_some hz)).1
    exact ⟨.bool z, by simp [execOp, ho, hb, asBool, hx], rfl, rfl⟩
  | false =>
    have hz : boolF (evF s.sl y) = some z := hz
    have hx := (h.evF hn (boolF_some hz)).1
    exact ⟨.bool z, by simp [execOp, ho, hb, asBool, hx], rfl, rfl⟩
theorem nilF_sound (h : R T N av0 w0 sp s a w E) {c : C} {v : Value} {b : Bool} (hc : CRel E (AV av0 s.rs E) w c v) (e : nilF s.rs c = some b) :
    (b = true ∧ ∃ n k, v = .slice none n k) ∨ (b = false ∧ ∃ ad n k, v = .slice (some ad) n k) := by
  unfold nilF at e
  split at e
  · rename_i x
    unfold nilI at e
    split at e
    · obtain ⟨rfl, _⟩ := hc
      simp only [Option.some.injEq] at e
      exact .inl ⟨e.symm, _, _, rfl⟩
    · rename_i sz n get
      simp only [Option.some.injEq] at e
      obtain ⟨ao, cap, rfl, _, _, h3⟩ := hc
      obtain ⟨ad, rfl, _⟩ := h3 (by omega)
      exact .inr ⟨e.symm, _, _, _, rfl⟩
    · simp at e
  · rename_i r m
    split at e
    case h_3 => simp at e
    · rename_i el sz n l hl
      simp only [Option.some.injEq] at e
      rw [nthF_eq, nth_eq] at hl
      obtain ⟨e', ao, n', cap, h1, h2, h3, rfl⟩ := hc
      obtain ⟨q1, q2, xs, ⟨_, q3⟩, q4⟩ := h.roots r _ _ hl h1
      rcases q3 with ⟨q3, _⟩ | ⟨g', cap', cur, q3, _⟩
      · rw [h2] at q3
        simp at q3
        omega
      · rw [h2] at q3
        simp only [Value.slice.injEq] at q3
        obtain ⟨rfl, _, _⟩ := q3
        exact .inr ⟨e.symm, _, _, _, rfl⟩
    · rename_i el sz n l hl
      simp only [Option.some.injEq] at e
      rw [nthF_eq, nth_eq] at hl
      obtain ⟨e', ao, n', cap, h1, h2, h3, rfl⟩ := hc
      obtain ⟨q1, q2, xs, ⟨_, q3⟩, q4⟩ := h.roots r _ _ hl h1
      rcases q3 with ⟨q3, _⟩ | ⟨g', cap', cur, q3, _⟩
      · rw [h2] at q3
        simp at q3
        omega
      · rw [h2] at q3
        simp only [Value.slice.injEq] at q3
        obtain ⟨rfl, _, _⟩ := q3
        exact .inr ⟨e.symm, _, _, _, rfl⟩
  · simp at e
theorem nil_run {t el : TypeId} (hu : P.underlying t = some (.slice el)) (b : Bool) {ao : Option Addr} {n k : Nat} (hb : ao.isNone = b) (x y : Operand) :
    (do eqGuard .eql t x y (.slice ao n k) (.slice none 0 0); binOp .eql t (.slice ao n k) (.slice none 0 0)).run P w = .ok (.bool b) w ∧
    (do eqGuard .neq t x y (.slice ao n k) (.slice none 0 0); binOp .neq t (.slice ao n k) (.slice none 0 0)).run P w = .ok (.bool (!b)) w := by
  have he : ∀ d, (Op.equalIn (d + 1) t (.slice ao n k) (.slice none 0 0)).run P w = .ok b w := fun d => by
    unfold Op.equalIn
    cases ao <;> simp [run_underlying hu, ← hb]
  have h0 : (Op.equal t (.slice ao n k) (.slice none 0 0)).run P w = .ok b w := he 9999
  constructor
  · show ((do eqGuard .eql t x y (.slice ao n k) (.slice none 0 0); (do pure (.bool (← Op.equal t (.slice ao n k) (.slice none 0 0)))) : Sem Value)).run P w = _
    rw [Sem.run_bind]
    simp [eqGuard, h0]
  · show ((do eqGuard .neq t x y (.slice ao n k) (.slice none 0 0); (do pure (.bool !(← Op.equal t (.slice ao n k) (.slice none 0 0)))) : Sem Value)).run P w = _
    rw [Sem.run_bind]
    simp [eqGuard, h0]
theorem nilcF_sound (hty : TyOK P T) (h : R T N av0 w0 sp s a w E) (hn : NilS s.sl) {o : Oper} {op : BinOp} {t t2 : TypeId} {x y : Operand} (ho : o.op = .binOp op t x y t2) (hy : isNil y = true) {d : D} (e : nilcF T s op t x = some d) : Looks P av0 s a w E o d := by
  have hy' : y = .const (.slice none 0 0) := by
    unfold isNil at hy
    split at hy
    · rfl
    · simp at hy
  subst hy'
  unfold nilcF at e
  split at e
  case h_2 => simp at e
  rename_i sz0 by0 z0 el hyt
  have hu := (hty.ty _ _ hyt).slice rfl
  split at e
  case h_2 => simp at e
  rename_i c hc
  have hc := h.evF hn (cellF_some hc)
  split at e
  case h_2 => simp at e
  rename_i b hb
  have hv : ∃ ao n k, a.eval x = .slice ao n k ∧ ao.isNone = b := by
    rcases nilF_sound h hc hb with ⟨rfl, n, k, hv⟩ | ⟨rfl, ad, n, k, hv⟩
    · exact ⟨none, n, k, hv, rfl⟩
    · exact ⟨some ad, n, k, hv, rfl⟩
  obtain ⟨ao, n, k, hv, hb⟩ := hv
  have hr := nil_run (P := P) (w := w) hu b (n := n) (k := k) hb x (.const (.slice none 0 0))
  have hce : a.eval (.const (.slice none 0 0)) = .slice none 0 0 := rfl
  split at e
  · simp only [Option.some.injEq] at e
    subst e
    exact ⟨.bool b, by simp only [execOp, ho, hv, hce]; exact run_value hr.1, rfl, rfl⟩
  · simp only [Option.some.injEq] at e
    subst e
    exact ⟨.bool (!b), by simp only [execOp, ho, hv, hce]; exact run_value hr.2, rfl, rfl⟩
  · simp at e
theorem geB_spec {b : Int} (h : geB b = true) : 0 ≤ b := by
  cases b with
  | ofNat k => exact Int.natCast_nonneg k
  | negSucc k => simp [geB] at h
theorem binI_pure {op : BinOp} {a b : Int} {z : Value} (e : binI op a b = some z) : binV op (.int .i64 a) (.int .i64 b) = some z ∨ (binV op (.int .i64 a) (.int .i64 b) = none ∧ ∃ p, divV op (.int .i64 a) (.int .i64 b) = some (p, z) ∧ p) := by
  cases op
  case quo =>
    right
    refine ⟨rfl, b ≠ 0, ?_, ?_⟩ <;> (simp only [binI] at e; cases hb : b == 0 <;> rw [hb] at e <;> simp_all [divV])
  case rem =>
    right
    refine ⟨rfl, b ≠ 0, ?_, ?_⟩ <;> (simp only [binI] at e; cases hb : b == 0 <;> rw [hb] at e <;> simp_all [divV])
  case shl =>
    right
    simp only [binI] at e
    obtain ⟨h1, e⟩ := Bool.rec_some e
    exact ⟨rfl, 0 ≤ b, by simp only [divV, Option.some.injEq] at e ⊢; rw [e], geB_spec h1⟩
  case shr =>
    right
    simp only [binI] at e
    obtain ⟨h1, e⟩ := Bool.rec_some e
    exact ⟨rfl, 0 ≤ b, by simp only [divV, Option.some.injEq] at e ⊢; rw [e], geB_spec h1⟩
  case and => left; exact e
  case andNot => left; exact e
  all_goals first | (simp [binI] at e; done) | (left; simpa [binI, binV] using e)
theorem vint_some {v : Value} {n : Int} (e : vint v = some n) : v = .int .i64 n := by
  unfold vint at e
  split at e
  · simp only [Option.some.injEq] at e; subst e; rfl
  · simp at e
theorem vbool_some {v : Value} {b : Bool} (e : vbool v = some b) : v = .bool b := by
  unfold vbool at e
  split at e
  · simp only [Option.some.injEq] at e; subst e; rfl
  · simp at e
theorem binF_sound (hty : TyOK P T) (h : R T N av0 w0 sp s a w E) (hn : NilS s.sl) {o : Oper} {op : BinOp} {t t2 : TypeId} {x y : Operand} (ho : o.op = .binOp op t x y t2) {d : D} (e : binF T s op t x y = some d) : Looks P av0 s a w E o d := by
  unfold binF at e
  split at e
  · rename_i hy; exact nilcF_sound hty h hn ho hy e
  rename_i hy
  split at e
  · rename_i u v hu hv
    have hu := evF_ev hn (valF_some hu)
    have hv := evF_ev hn (valF_some hv)
    split at e
    case h_2 => simp at e
    rename_i z hz
    simp only [Option.some.injEq] at e
    subst e
    unfold binVal at hz
    split at hz
    · rename_i n m hn' hm'
      have hn' := vint_some hn'
      have hm' := vint_some hm'
      subst hn' hm'
      rcases binI_pure hz with hz | ⟨hz, p, hz2, hp⟩
      · exact Looks.of_pure (p := none) hty h (by simp only [ho, pureOp, hu, hv, hz]) trivial
      · exact Looks.of_pure (p := some p) hty h (by simp only [ho, pureOp, hu, hv, hz, hz2]) hp
    · split at hz
      · rename_i b c hb hc
        have hb := vbool_some hb
        have hc := vbool_some hc
        subst hb hc
        unfold binB at hz
        split at hz
        case h_2 => simp at hz
        rename_i sz0 by0 z0 hyt
        split at hz
        · simp only [Option.some.injEq] at hz; subst hz
          exact Looks.of_pure (p := none) hty h (by simp only [ho, pureOp, hu, hv, hyt]) trivial
        · simp only [Option.some.injEq] at hz; subst hz
          exact Looks.of_pure (p := none) hty h (by simp only [ho, pureOp, hu, hv, hyt]) trivial
        · simp at hz
      · rename_i hnb
        refine Looks.of_pure (p := none) hty h ?_ trivial
        simp only [ho, pureOp, hu, hv]
        split
        · rename_i b c hb hc
          simp only [Option.some.injEq, D.c.injEq, C.im.injEq, I.v.injEq] at hb hc
          subst hb hc
          exact (hnb _ _ rfl rfl).elim
        · rename_i u' v' _ hb hc
          simp only [Option.some.injEq, D.c.injEq, C.im.injEq, I.v.injEq] at hb hc
          subst hb hc
          simp only [hz]
        · rename_i hb hc; simp at hb
        · rename_i hb hc _; exact (hc _ _ rfl rfl).elim
  · split at e
    case h_2 => simp at e
    rename_i l m hl hm
    have hl := evF_ev hn (aggF_some hl)
    have hm := evF_ev hn (aggF_some hm)
    unfold eqF at e
    split at e
    case h_2 => simp at e
    rename_i ks hks
    split at e
    case h_2 => simp at e
    rename_i b hb
    split at e
    · simp only [Option.some.injEq] at e; subst e
      exact Looks.of_pure (p := none) hty h (by simp only [ho, pureOp, hl, hm, hks, hb]) trivial
    · simp only [Option.some.injEq] at e; subst e
      exact Looks.of_pure (p := none) hty h (by simp only [ho, pureOp, hl, hm, hks, hb]) trivial
    · simp at e
theorem unF_sound (hty : TyOK P T) (h : R T N av0 w0 sp s a w E) (hn : NilS s.sl) {o : Oper} {op : UnOp} {t : TypeId} {x : Operand} (ho : o.op = .unOp op t x) {d : D} (e : unF s op x = some d) : Looks P av0 s a w E o d := by
  unfold unF at e
  split at e
  · split at e
    case h_2 => simp at e
    rename_i b hb
    simp only [Option.some.injEq] at e; subst e
    exact Looks.of_pure (p := none) hty h (by simp only [ho, pureOp, evF_ev hn (boolF_some hb)]) trivial
  · split at e
    case h_2 => simp at e
    rename_i b hb
    simp only [Option.some.injEq] at e; subst e
    exact Looks.of_pure (p := none) hty h (by simp only [ho, pureOp, evF_ev hn (intF_some hb)]) trivial
  · simp at e
theorem nilchkF_sound (hty : TyOK P T) (h : R T N av0 w0 sp s a w E) (hn : NilS s.sl) {o : Oper} {x : Operand} (ho : o.op = .nilCheck x) {d : D} (e : nilchkF s x = some d) : Looks P av0 s a w E o d := by
  unfold nilchkF at e
  split at e
  case h_2 => simp at e
  rename_i c hc
  have hc := evF_ev hn (cellF_some hc)
  split at e <;> first | (simp at e; done) | (simp only [Option.some.injEq] at e; subst e; exact Looks.of_pure (p := none) hty h (by simp only [ho, pureOp, hc]) trivial)
theorem faddrF_sound (hty : TyOK P T) (h : R T N av0 w0 sp s a w E) (hn : NilS s.sl) {o : Oper} {t : TypeId} {x : Operand} {f : Nat} (ho : o.op = .fieldAddr t x f) {d : D} (e : faddrF T s t x f = some d) : Looks P av0 s a w E o d := by
  unfold faddrF at e
  split at e
  case h_2 => simp at e
  rename_i sz0 by0 z0 fs hy
  split at e
  case h_2 => simp at e
  rename_i p hp
  rw [nthF_eq] at hp
  obtain ⟨o1, sz⟩ := p
  split at e
  case h_2 => simp at e
  rename_i c hc
  have hc := evF_ev hn (cellF_some hc)
  obtain ⟨hpos, e⟩ := Bool.rec_some e
  unfold faddrC at e
  split at e
  · simp only [Option.some.injEq] at e; subst e
    exact Looks.of_pure (p := none) hty h (by simp only [ho, pureOp, hy, hp, hpos, hc]) trivial
  · obtain ⟨hle, e⟩ := Bool.rec_some e
    simp only [Option.some.injEq] at e; subst e
    exact Looks.of_pure (p := none) hty h (by simp only [ho, pureOp, hy, hp, hpos, hc, hle]) trivial
  · simp at e
theorem inB_spec {i : Int} {n : Nat} (h : inB i n = true) : 0 ≤ i ∧ i < (n : Int) := by
  unfold inB at h
  split at h
  · have := toNat_of_blt h; exact ⟨Int.natCast_nonneg _, Int.ofNat_lt.2 this⟩
  · simp at h
theorem leB_spec {i : Int} {n : Nat} (h : leB i n = true) : 0 ≤ i ∧ i ≤ (n : Int) := by
  unfold leB at h
  split at h
  · have := of_ble h; exact ⟨Int.natCast_nonneg _, Int.ofNat_le.2 this⟩
  · simp at h
theorem elemF_some {t : Nat} {y : Ty} (e : elemF T t = some y) : ∃ sz0 by0 z0 el, T.ty t = some ⟨sz0, by0, z0, .slice el⟩ ∧ T.ty el = some y := by
  unfold elemF at e
  split at e
  · rename_i sz0 by0 z0 el hy; exact ⟨sz0, by0, z0, el, hy, e⟩
  · simp at e
theorem TyFact.array {P : Program} {t : TypeId} {y : Ty} (h : TyFact P t y) {n e : Nat} (hk : y.kd = .array n e) : P.underlying t = some (.array n e) := by
  have := h.kd
  rw [hk] at this
  unfold kdOf at this
  split at this <;> (try split at this) <;> simp_all
theorem arrF_some {t : Nat} {n : Nat} {y : Ty} (e : arrF T t = some (n, y)) : ∃ sz0 by0 z0 el, T.ty t = some ⟨sz0, by0, z0, .array n el⟩ ∧ T.ty el = some y := by
  unfold arrF at e
  split at e
  · rename_i sz0 by0 z0 n' el hy
    split at e
    · rename_i y' hy'
      simp only [Option.some.injEq, Prod.mk.injEq] at e
      obtain ⟨rfl, rfl⟩ := e
      exact ⟨sz0, by0, z0, el, hy, hy'⟩
    · simp at e
  · simp at e
theorem iaddrA_sound (hty : TyOK P T) (h : R T N av0 w0 sp s a w E) (hn : NilS s.sl) {o : Oper} {t : TypeId} {x ix : Operand} (ho : o.op = .indexAddr t x ix) {n : Nat} {y : Ty} (hy : arrF T t = some (n, y)) {i : Int} (hi : intF (evF s.sl ix) = some i) {c : C} (hc : cellF (evF s.sl x) = some c) {d : D} (e : iaddrA n y.size i c = some d) : Looks P av0 s a w E o d := by
  obtain ⟨sz0, by0, z0, el, hy1, hy2⟩ := arrF_some hy
  have hu := (hty.ty _ _ hy1).array rfl
  have hye := hty.ty _ _ hy2
  replace hi := (h.evF hn (intF_some hi)).1
  replace hc := h.evF hn (cellF_some hc)
  unfold iaddrA at e
  split at e
  · rename_i r k j
    obtain ⟨h1, e⟩ := Bool.rec_some e
    simp only [Option.some.injEq] at e
    subst e
    obtain ⟨h2, h3⟩ := inB_spec h1
    obtain ⟨b, sz, hat, hv⟩ := hc
    refine ⟨.pointer (some ((⟨b, k * sz + j, none⟩ : Addr).add (i.toNat * y.size))), ?_, b, sz, hat, ?_⟩
    · simp only [execOp, ho, hv, hi]
      refine run_value ?_
      simp [Instr.indexAt, run_underlying hu, asIntOf, Instr.sureAddr, h2, h3, run_sizeOf hye.sz]
    · rw [Addr.add_mid]
      simp only [Value.pointer.injEq, Option.some.injEq, Addr.mk.injEq, and_true, true_and]
      omega
  · simp at e
theorem iaddrF_sound (hty : TyOK P T) (h : R T N av0 w0 sp s a w E) (hn : NilS s.sl) {o : Oper} {t : TypeId} {x ix : Operand} (ho : o.op = .indexAddr t x ix) {d : D} (e : iaddrF T s t x ix = some d) : Looks P av0 s a w E o d := by
  unfold iaddrF at e
  split at e
  · rename_i a' ha
    obtain ⟨n, y⟩ := a'
    split at e
    case h_2 => simp at e
    rename_i i hi
    split at e
    case h_2 => simp at e
    rename_i c hc
    exact iaddrA_sound hty h hn ho ha hi hc e
  split at e
  case h_2 => simp at e
  rename_i y hy
  obtain ⟨sz0, by0, z0, el, hy1, hy2⟩ := elemF_some hy
  split at e
  case h_2 => simp at e
  rename_i i hi
  have hi := evF_ev hn (intF_some hi)
  split at e
  case h_2 => simp at e
  rename_i c hc
  have hc := evF_ev hn (cellF_some hc)
  unfold iaddrC at e
  split at e
  · obtain ⟨h1, e⟩ := Bool.rec_some e
    obtain ⟨h2, e⟩ := Bool.rec_some e
    simp only [Option.some.injEq] at e; subst e
    refine Looks.of_pure (p := some _) hty h (by simp only [ho, pureOp, hy1, hy2, hi, hc, h1]) (inB_spec h2)
  · split at e
    case h_3 => simp at e
    all_goals
      rename_i hl
      rw [nthF_eq] at hl
      obtain ⟨h1, e⟩ := Bool.rec_some e
      obtain ⟨h2, e⟩ := Bool.rec_some e
      simp only [Option.some.injEq] at e; subst e
      refine Looks.of_pure (p := some _) hty h (by simp only [ho, pureOp, hy1, hy2, hi, hc, hl, h1]) (inB_spec h2)
  · simp at e
theorem loadF_pure (hn : NilS s.sl) {t : TypeId} {x : Operand} {d : D} (e : loadF T s t x = some d) : ∃ p, pureOp T s [] (.load t x) = some (p, d) ∧ need p := by
  unfold loadF at e
  split at e
  case h_2 => simp at e
  rename_i y hy
  split at e
  case h_2 => simp at e
  rename_i c hc
  have hc := evF_ev hn (cellF_some hc)
  have box : ∀ {l : List C} {j : Nat}, loadBox y l j = some d → (match y.kd.agg with
      | true => match takeN y.size (dropN j l) with
        | some cs => some (none, D.a cs)
        | none => none
      | false => match nth l j with
        | some c => some (none, .c c)
        | none => none) = some ((none : Option Prop), d) := by
    intro l j e
    unfold loadBox at e
    split at e
    · rename_i hagg
      split at e
      case h_2 => simp at e
      rename_i cs hcs
      simp only [Option.some.injEq] at e; subst e
      simp only [hagg, hcs]
    · rename_i hagg
      split at e
      case h_2 => simp at e
      rename_i cs hcs
      rw [nthF_eq] at hcs
      simp only [Option.some.injEq] at e; subst e
      simp only [hagg, hcs]
  unfold loadC at e
  split at e
  · rename_i r i j
    unfold loadR at e
    split at e
    · rename_i l hl
      rw [nthF_eq] at hl
      split at e
      · simp only [pureOp, hy, hc, hl]
        exact ⟨_, box e, trivial⟩
      · simp at e
    · rename_i sz n l hl
      rw [nthF_eq] at hl
      simp only [pureOp, hy, hc, hl]
      exact ⟨_, box e, trivial⟩
    · rename_i el sz n get hl
      rw [nthF_eq] at hl
      unfold loadA at e
      split at e
      · rename_i hagg
        obtain ⟨h1, e⟩ := Bool.rec_some e
        obtain ⟨h2, e⟩ := Bool.rec_some e
        simp only [Option.some.injEq] at e; subst e
        exact ⟨some (_ < n), by simp only [pureOp, hy, hc, hl, hagg, h1], toNat_of_blt h2⟩
      · rename_i hagg
        obtain ⟨h1, e⟩ := Bool.rec_some e
        obtain ⟨h2, e⟩ := Bool.rec_some e
        simp only [Option.some.injEq] at e; subst e
        exact ⟨some (_ < n), by simp only [pureOp, hy, hc, hl, hagg, h1], toNat_of_blt h2⟩
    · simp at e
  · rename_i q
    unfold loadG at e
    split at e
    case h_2 => simp at e
    rename_i z hz
    split at e
    · simp at e
    · rename_i hagg
      simp only [Option.some.injEq] at e; subst e
      exact ⟨none, by simp only [pureOp, hy, hc, hagg, hz], trivial⟩
  · rename_i n get
    unfold loadPt at e
    split at e
    · rename_i hagg
      obtain ⟨h1, e⟩ := Bool.rec_some e
      simp only [Option.some.injEq] at e; subst e
      exact ⟨none, by simp only [pureOp, hy, hc, hagg, h1], trivial⟩
    · rename_i hagg
      obtain ⟨h1, e⟩ := Bool.rec_some e
      simp only [Option.some.injEq] at e; subst e
      exact ⟨none, by simp only [pureOp, hy, hc, hagg, h1], trivial⟩
  · simp at e
theorem extractF_sound (hty : TyOK P T) (h : R T N av0 w0 sp s a w E) (hn : NilS s.sl) {o : Oper} {x : Operand} {k : Nat} (ho : o.op = .extract x k) {d : D} (e : extractF s x k = some d) : Looks P av0 s a w E o d := by
  unfold extractF at e
  split at e
  case h_2 => simp at e
  rename_i l hl
  have hl := evF_ev hn (tupF_some hl)
  rw [nthF_eq] at e
  split at e
  · rename_i cs hc
    simp only [Option.some.injEq] at e; subst e
    exact Looks.of_pure (p := none) hty h (by simp only [ho, pureOp, hl, hc]) trivial
  · rename_i cs hc
    simp only [Option.some.injEq] at e; subst e
    exact Looks.of_pure (p := none) hty h (by simp only [ho, pureOp, hl, hc]) trivial
  · simp at e
theorem fillF_fillD (hn : NilS s.sl) {fs : List (Nat × Nat)} : ∀ {ps : List (Nat × Operand)} {l r : List C}, fillF fs s.sl ps l = some r → fillD fs s [] ps l = some r
  | [], l, r, e => e
  | p :: ps, l, r, e => by
    obtain ⟨k, x⟩ := p
    have e : (match nthF fs k with
      | some o => match Go.V.evF s.sl x with
        | some d => match d.cells with
          | some cs => (Bool.rec none (match put l o.1 cs with
            | some l' => fillF fs s.sl ps l'
            | none => none) (Nat.beq cs.length o.2 && Nat.blt 0 o.2) : Option (List C))
          | none => none
        | none => none
      | none => none) = some r := e
    split at e
    case h_2 => simp at e
    rename_i o ho
    rw [nthF_eq] at ho
    obtain ⟨o1, o2⟩ := o
    split at e
    case h_2 => simp at e
    rename_i d hd
    split at e
    case h_2 => simp at e
    rename_i cs hcs
    obtain ⟨h1, e⟩ := Bool.rec_some e
    split at e
    case h_2 => simp at e
    rename_i l' hl'
    simp only at h1 hl'
    simp only [fillD, ho, evF_ev hn hd, hcs, h1, hl']
    exact fillF_fillD hn e
theorem buildF_sound (hty : TyOK P T) (h : R T N av0 w0 sp s a w E) (hn : NilS s.sl) {o : Oper} {t : TypeId} {ps : Array (Nat × Operand)} (ho : o.op = .build t ps) {d : D} (e : buildF T s t ps.toList = some d) : Looks P av0 s a w E o d := by
  unfold buildF at e
  split at e
  case h_2 => simp at e
  rename_i y hy
  split at e
  case h_2 => simp at e
  rename_i fs hk
  split at e
  case h_2 => simp at e
  rename_i z hz
  split at e
  case h_2 => simp at e
  rename_i l hl
  simp only [Option.some.injEq] at e; subst e
  exact Looks.of_pure (p := none) hty h (by simp only [ho, pureOp, hy, hk, hz, fillF_fillD hn hl]) trivial
theorem mkfnF_sound (hty : TyOK P T) (h : R T N av0 w0 sp s a w E) (hn : NilS s.sl) {o : Oper} {fn : Fn} {first caps : Array Operand} (ho : o.op = .makeFunc fn first caps) {d : D} (e : mkfnF s fn first.toList caps.toList = some d) : Looks P av0 s a w E o d := by
  unfold mkfnF at e
  split at e
  case h_2 => simp at e
  split at e
  case h_2 => simp at e
  rename_i hf
  split at e
  · rename_i hc
    simp only [Option.some.injEq] at e; subst e
    exact Looks.of_pure (p := none) hty h (by simp only [ho, pureOp, hf, evsF_evs hn hc]) trivial
  · rename_i hc
    simp only [Option.some.injEq] at e; subst e
    exact Looks.of_pure (p := none) hty h (by simp only [ho, pureOp, hf, evsF_evs hn hc]) trivial
  · rename_i hc
    simp only [Option.some.injEq] at e; subst e
    exact Looks.of_pure (p := none) hty h (by simp only [ho, pureOp, hf, evsF_evs hn hc]) trivial
  · rename_i hc
    simp only [Option.some.injEq] at e; subst e
    exact Looks.of_pure (p := none) hty h (by simp only [ho, pureOp, hf, evsF_evs hn hc]) trivial
  · simp at e
theorem calF_sound (hty : TyOK P T) (h : R T N av0 w0 sp s a w E) (hn : NilS s.sl) {o : Oper} {c : Call} (ho : o.op = .call c) {d : D} (e : calF T s c = some d) : Looks P av0 s a w E o d := by
  unfold calF at e
  split at e
  case h_2 => simp at e
  rename_i b hb
  have go : builtinD T b c.argTypes.toList (evs s [] c.args.toList) = some (none, d) → Looks P av0 s a w E o d := fun q =>
    Looks.of_pure (p := none) hty h (by simp only [ho, pureOp, hb]; exact q) trivial
  unfold builtF at e
  split at e
  · apply go
    unfold lenF at e
    split at e
    case h_2 => simp at e
    rename_i t x hts hxs
    rw [hts, hxs]
    split at e
    · rename_i hy
      split at e
      case h_2 => simp at e
      rename_i cc hc
      have hc := evF_ev hn (cellF_some hc)
      unfold lenC at e
      split at e <;> first | (simp at e; done) | (simp only [Option.some.injEq] at e; subst e; simp only [builtinD, evs, hc, hy])
    · rename_i hy
      split at e
      case h_2 => simp at e
      rename_i b hc
      have hc := evF_ev hn (valF_some hc)
      simp only [Option.some.injEq] at e; subst e
      simp only [builtinD, evs, hc, hy]
    · simp at e
  · apply go
    unfold maxF at e
    split at e
    case h_2 => simp at e
    rename_i x y hxs
    split at e
    case h_2 => simp at e
    rename_i n m h1 h2
    simp only [Option.some.injEq] at e; subst e
    rw [hxs]
    simp only [builtinD, evs, evF_ev hn (intF_some h1), evF_ev hn (intF_some h2)]
  · apply go
    unfold minF at e
    split at e
    case h_2 => simp at e
    rename_i x y hxs
    split at e
    case h_2 => simp at e
    rename_i n m h1 h2
    simp only [Option.some.injEq] at e; subst e
    rw [hxs]
    simp only [builtinD, evs, evF_ev hn (intF_some h1), evF_ev hn (intF_some h2)]
  · simp at e
theorem findG_eq (n : Int) : ∀ l : List (Int × FuncId), findG n l = findI n l
  | [] => rfl
  | x :: l => by
    show (Bool.rec (findG n l) (some x.2) (n == x.1) : Option FuncId) = findI n (x :: l)
    unfold findI
    cases n == x.1 with
    | true => rfl
    | false => exact findG_eq n l
theorem fmF_sound (hty : TyOK P T) (h : R T N av0 w0 sp s a w E) (hn : NilS s.sl) {o : Oper} {t : TypeId} {x i : Operand} {ok : Bool} (ho : o.op = .lookup t x i ok) {d : D} (e : fmF T s t x i ok = some d) : Looks P av0 s a w E o d := by
  unfold fmF at e
  obtain ⟨hk, e⟩ := Bool.rec_some e
  unfold fmK at hk
  split at hk
  case h_2 => simp at hk
  rename_i k el hyt
  split at hk
  case h_2 => simp at hk
  rename_i hyk hye
  have hyt := (hty.ty _ _ hyt).map rfl
  have hyk := (hty.ty _ _ hyk).int rfl
  have hye := hty.ty _ _ hye
  obtain ⟨inf, hin, _, _, hz⟩ := hye.full
  split at e
  case h_2 => simp at e
  rename_i l n hx hi
  simp only [Option.some.injEq] at e
  subst e
  obtain ⟨b, es, clock, hx, _, h2, h3⟩ := h.evF hn (cellF_some hx)
  have hi := (h.evF hn (intF_some hi)).1
  rw [findG_eq]
  have hu : (Go.underlying t).run P w = .ok (.map k el) w := by simp [Go.underlying, Go.program, Sem.run, hyt]
  have huk : (Go.underlying k).run P w = .ok (.int .i64) w := by simp [Go.underlying, Go.program, Sem.run, hyk]
  have hg' : (getObj b).run P w = .ok (.map es clock) w := by simp [getObj, Sem.run, h2]
  have hz0 : (zeroValue el).run P w = .ok .nilFunc w := by simp [zeroValue, typeInfo, hin, hz]
  rcases h3 n with ⟨h4, h5⟩ | ⟨q, f, h4, h5⟩
  · have hf : (Instr.findKey k (.int .i64 n) es.toList).run P w = .ok none w := by simp [Instr.findKey, huk, h4]
    rw [h5]
    cases ok with
    | true =>
      refine ⟨.tuple #[.nilFunc, .bool false], ?_, _, rfl, .cons ⟨_, rfl, rfl, rfl⟩ (.cons ⟨_, rfl, rfl, rfl⟩ .nil)⟩
      simp only [execOp, ho, hx, hi]
      refine run_value ?_
      unfold Instr.lookup
      simp [Sem.run_bind, hu, hg', Result.andThen_ok, checkKey_int hyk, hf, hz0]
    | false =>
      refine ⟨.nilFunc, ?_, rfl, rfl⟩
      simp only [execOp, ho, hx, hi]
      refine run_value ?_
      unfold Instr.lookup
      simp [Sem.run_bind, hu, hg', Result.andThen_ok, checkKey_int hyk, hf, hz0]
  · have hf : (Instr.findKey k (.int .i64 n) es.toList).run P w = .ok (some (q, .func (.func f) #[] #[])) w := by simp [Instr.findKey, huk, h4]
    rw [h5]
    have hrel : IRel (AV av0 s.rs E) w (.fn f 0 fun _ => .v (.bool false)) (.func (.func f) #[] #[]) := ⟨#[], rfl, rfl, fun j hj => by omega⟩
    cases ok with
    | true =>
      refine ⟨.tuple #[.func (.func f) #[] #[], .bool true], ?_, _, rfl, .cons ⟨_, rfl, hrel⟩ (.cons ⟨_, rfl, rfl, rfl⟩ .nil)⟩
      simp only [execOp, ho, hx, hi]
      refine run_value ?_
      unfold Instr.lookup
      simp [Sem.run_bind, hu, hg', Result.andThen_ok, checkKey_int hyk, hf]
    | false =>
      refine ⟨.func (.func f) #[] #[], ?_, hrel⟩
      simp only [execOp, ho, hx, hi]
      refine run_value ?_
      unfold Instr.lookup
      simp [Sem.run_bind, hu, hg', Result.andThen_ok, checkKey_int hyk, hf]
theorem lookupF_sound (hty : TyOK P T) (h : R T N av0 w0 sp s a w E) (hn : NilS s.sl) {o : Oper} {t : TypeId} {x i : Operand} {ok : Bool} (ho : o.op = .lookup t x i ok) {d : D} (e : lookupF T s t x i ok = some d) : Looks P av0 s a w E o d := by
  unfold lookupF at e
  split at e
  · exact fmF_sound hty h hn ho e
  cases hk : mapK T t with
  | false => rw [hk] at e; exact fmF_sound hty h hn ho e
  | true =>
  rw [hk] at e
  simp only at e
  unfold mapK at hk
  split at hk
  case h_2 => simp at hk
  rename_i hy
  split at hk
  case h_2 => simp at hk
  rename_i hy1 hy2
  split at e
  case h_2 => simp at e
  rename_i c n hc hi
  have hc := evF_ev hn (cellF_some hc)
  have hi := evF_ev hn (intF_some hi)
  split at e
  case h_2 => simp at e
  rename_i l hl
  simp only [Option.some.injEq] at e; subst e
  unfold setF at hl
  split at hl
  · split at hl
    case h_2 => simp at hl
    rename_i hr
    rw [nthF_eq] at hr
    simp only [Option.some.injEq] at hl; subst hl
    exact Looks.of_pure (p := none) hty h (by simp only [ho, pureOp, hy, hy1, hy2, hc, hi, hr]) trivial
  · simp only [Option.some.injEq] at hl; subst hl
    exact Looks.of_pure (p := none) hty h (by simp only [ho, pureOp, hy, hy1, hy2, hc, hi]) trivial
  · simp at hl
theorem sliceL_sound (hty : TyOK P T) (h : R T N av0 w0 sp s a w E) (hn : NilS s.sl) {o : Oper} {t : TypeId} {x l : Operand} (ho : o.op = .slice t x (some l) none none) {y : Ty} (hy : elemF T t = some y) {c : C} (hc : cellF (evF s.sl x) = some c) {q : Int} (hl : intF (evF s.sl l) = some q) {d : D} (e : sliceL y.size c q = some d) : Looks P av0 s a w E o d := by
  obtain ⟨sz0, by0, z0, el, hy1, hy2⟩ := elemF_some hy
  have hyt := (hty.ty _ _ hy1).slice rfl
  replace hc := h.evF hn (cellF_some hc)
  replace hl := (h.evF hn (intF_some hl)).1
  unfold sliceL at e
  split at e
  case h_2 => simp at e
  rename_i sz n get
  obtain ⟨h1, e⟩ := Bool.rec_some e
  simp only [Bool.and_eq_true] at h1
  obtain ⟨h2, h3⟩ := leB_spec h1.1
  have h4 := of_beq h1.2
  subst h4
  simp only [Option.some.injEq] at e
  subst e
  obtain ⟨ao, cap, hv, g1, g2, g3⟩ := hc
  have he : P.elem t = el := by simp [Program.elem, hyt]
  have ht : P.underlying t = some (.slice (P.elem t)) := by rw [he]; exact hyt
  have hqn : q.toNat ≤ n := by omega
  have e1 : n - q.toNat ≤ cap - q.toNat := Nat.sub_le_sub_right g1 _
  have e2 : n - q.toNat ≤ maxLen := Nat.le_trans (Nat.sub_le _ _) g2
  have e3 : 0 < n - q.toNat → 0 < n ∧ cap ≠ q.toNat := fun h0 => ⟨by omega, by omega⟩
  have e4 : ∀ i, i < n - q.toNat → q.toNat + i < n := fun i hi => by omega
  refine ⟨sliced ao q.toNat n cap y.size, ?_, _, _, rfl, e1, e2, fun h0 => ?_⟩
  · simp only [execOp, ho, hv, hl, Option.map_some, Option.map_none]
    refine run_value ?_
    rw [run_sliceAt_slice w t _ _ _ _ ht, run_slice_l w t ao n cap ht .i64 q h2 h3, he, run_sizeOf (hty.ty _ _ hy2).sz, Result.andThen_ok]
  · obtain ⟨ad, rfl, k1, k2, k3, k4⟩ := g3 (e3 h0).1
    refine ⟨ad.add (q.toNat * y.size), ?_, add_spot _ k1 _, by rw [block_add]; exact k2, by rw [block_add]; exact k3, fun i hi j hj => ?_⟩
    · rw [if_neg (e3 h0).2]; rfl
    · obtain ⟨v, m1, m2⟩ := k4 (q.toNat + i) (e4 i hi) j hj
      refine ⟨v, ?_, m2⟩
      rw [add_add _ k1, ← m1]
      congr 2
      rw [Nat.add_mul, Nat.add_assoc]
theorem sliceF_sound (hty : TyOK P T) (h : R T N av0 w0 sp s a w E) (hn : NilS s.sl) {o : Oper} {t : TypeId} {x : Operand} {lo hi mx : Option Operand} (ho : o.op = .slice t x lo hi mx) {d : D} (e : sliceF T s t x lo hi mx = some d) : Looks P av0 s a w E o d := by
  unfold sliceF at e
  split at e
  case h_3 => simp at e
  case h_2 =>
    split at e
    case h_2 => simp at e
    rename_i y hy
    split at e
    case h_2 => simp at e
    rename_i c n hc hh
    exact sliceL_sound hty h hn ho hy hc hh e
  rename_i hi
  split at e
  case h_2 => simp at e
  rename_i y hy
  obtain ⟨sz0, by0, z0, el, hy1, hy2⟩ := elemF_some hy
  split at e
  case h_2 => simp at e
  rename_i c n hc hh
  have hc := evF_ev hn (cellF_some hc)
  have hh := evF_ev hn (intF_some hh)
  unfold sliceC at e
  split at e
  · obtain ⟨h1, e⟩ := Bool.rec_some e
    simp only [Option.some.injEq] at e; subst e
    exact Looks.of_pure (p := some _) hty h (by simp only [ho, pureOp, hy1, hy2, hc, hh]) (leB_spec h1)
  · split at e
    case h_3 => simp at e
    all_goals
      rename_i hl
      rw [nthF_eq] at hl
      obtain ⟨h1, e⟩ := Bool.rec_some e
      simp only [Option.some.injEq] at e; subst e
      exact Looks.of_pure (p := some _) hty h (by simp only [ho, pureOp, hy1, hy2, hc, hh, hl]) (leB_spec h1)
  · obtain ⟨h1, e⟩ := Bool.rec_some e
    simp only [Option.some.injEq] at e; subst e
    exact Looks.of_pure (p := some _) hty h (by simp only [ho, pureOp, hy1, hy2, hc, hh]) (show n = 0 by simpa using h1)
  · simp at e
theorem lookO_sound (hty : TyOK P T) (h : R T N av0 w0 sp s a w E) (hn : NilS s.sl) {o : Oper} {d : D} (e : lookO T s o.op = some d) : Looks P av0 s a w E o d := by
  generalize hop : o.op = op at e
  cases op with
  | move x => exact Looks.of_pure (p := none) hty h (by simp only [hop, pureOp, evF_ev hn (show Go.V.evF s.sl x = some d from e)]) trivial
  | assign x => exact Looks.of_pure (p := none) hty h (by simp only [hop, pureOp, evF_ev hn (show Go.V.evF s.sl x = some d from e)]) trivial
  | pick c x y => exact pickF_sound h hn hop e
  | binOp op t x y t2 => exact binF_sound hty h hn hop e
  | unOp op t x => exact unF_sound hty h hn hop e
  | nilCheck x => exact nilchkF_sound hty h hn hop e
  | fieldAddr t x f => exact faddrF_sound hty h hn hop e
  | indexAddr t x i => exact iaddrF_sound hty h hn hop e
  | load t x =>
    obtain ⟨p, h1, h2⟩ := loadF_pure hn e
    exact Looks.of_pure (p := p) hty h (by rw [hop]; exact h1) h2
  | extract x k => exact extractF_sound hty h hn hop e
  | build t ps => exact buildF_sound hty h hn hop e
  | makeFunc fn first caps => exact mkfnF_sound hty h hn hop e
  | call c => exact calF_sound hty h hn hop e
  | lookup t x i ok => exact lookupF_sound hty h hn hop e
  | slice t x lo hi mx => exact sliceF_sound hty h hn hop e
  | _ => exact absurd e (by simp [lookO])
end
open Go.RowKit
theorem place_end (x : Root) (rs : List Root) : place rs.length x rs = rs ++ [x] := by simp [place, Nat.beq_refl]
theorem place_at {b : Nat} (x : Root) {rs : List Root} (h : b < rs.length) : place b x rs = rs.set b x := by
  have : Nat.beq b rs.length = false := by
    cases hb : Nat.beq b rs.length with
    | false => rfl
    | true => have := Nat.eq_of_beq_eq_true hb; omega
  simp [place, this, setAt_eq]
section
variable {P : Program} {T : Tab} {N : Nat} {av0 : Nat → Prop} {w0 : Kp} {sp : List (D × Value)} {s : VS} {a : Act} {w : World} {E : Env}
def Free (s : VS) (E : Env) (b : Nat) : Prop := (s.rs[b]? = some .dead ∧ E[b]? = some hole) ∨ b = s.rs.length
structure Grew (b : Nat) (E E' : Env) : Prop where
  le : Env.le E E'
  free : ∀ q, q ≠ b → E[q]? = some hole → E'[q]? = some hole
theorem Grew.refl (b : Nat) (E : Env) : Grew b E E := ⟨Env.le_refl E, fun _ _ h => h⟩
theorem R.make (h : R T N av0 w0 sp s a w E) {b : Nat} (hf : Free s E b) {dead : Option Nat} {x : Root} {e : Option Nat × Value × Nat} {w' : World} {row : Option Nat}
    (hg : w.grownBy w' row)
    (hrow : ∀ k, row = some k → ∃ r y q, dead = some r ∧ s.rs[r]? = some y ∧ y.live ∧ atRoot E r k q)
    (hblk : ∀ k, e.1 = some k → some k = row ∨ w.heap.size ≤ k) (hlt : ∀ k, e.1 = some k → k < w'.heap.size)
    (hx : ∀ E' av', Env.le E E' → (∀ k, k < w.heap.size → av' k → AV av0 s.rs E k) → (∀ k, av' k → AV av0 s.rs E k ∨ e.1 = some k) → Keeps (AV av0 s.rs E) w w' → RootRel E' av' w0.base w' e x) :
    ∃ E', R T N av0 w0 sp { s with rs := place b x (kill dead s.rs) } a w' E' ∧ E'[b]? = some e ∧ Grew b E E' ∧ (∀ k, k < w.heap.size → AV av0 (place b x (kill dead s.rs)) E' k → AV av0 s.rs E k) := by
  have hkl : (kill dead s.rs).length = s.rs.length := by cases dead <;> simp [kill]
  rcases hf with ⟨hb, hE⟩ | rfl
  · have hbl : b < (kill dead s.rs).length := by rw [hkl]; exact (List.getElem?_eq_some_iff.1 hb).1
    have hbE : b < E.length := (List.getElem?_eq_some_iff.1 hE).1
    obtain ⟨h1, h2⟩ := h.at (b := b) (dead := dead) (x := x) (e := e) (w' := w') (row := row) hb hE hg hrow hblk hlt (fun hav hav2 hk => hx _ _ (Env.le_set e hE) hav hav2 hk)
    rw [place_at x hbl]
    refine ⟨_, h1, by rw [List.getElem?_set]; simp [hbE], ⟨Env.le_set e hE, fun q hq h3 => ?_⟩, h2⟩
    rw [List.getElem?_set, if_neg (fun e => hq e.symm)]; exact h3
  · have h0 := h.holes 1
    have hle : Env.le E (E ++ List.replicate 1 hole) := Env.le_append _ _
    have hrs : (s.rs ++ List.replicate 1 Root.dead)[s.rs.length]? = some .dead := by simp
    have hEs : (E ++ List.replicate 1 hole)[s.rs.length]? = some hole := by rw [← h.len]; simp
    have hav0 : ∀ k, AV av0 (s.rs ++ List.replicate 1 .dead) (E ++ List.replicate 1 hole) k → AV av0 s.rs E k := by
      rintro k (q | ⟨r, y, sz, h1, h2, hh, h3⟩)
      · exact .inl q
      · rcases Nat.lt_or_ge r s.rs.length with hr | hr
        · rw [List.getElem?_append_left hr] at h1
          rw [List.getElem?_append_left (by rw [h.len]; exact hr)] at h3
          exact .inr ⟨r, y, sz, h1, h2, hh, h3⟩
        · rw [List.getElem?_append_right hr, List.getElem?_replicate] at h1
          split at h1
          · simp only [Option.some.injEq] at h1; subst h1; exact h2.elim
          · simp at h1
    have hav1 : ∀ k, AV av0 s.rs E k → AV av0 (s.rs ++ List.replicate 1 .dead) (E ++ List.replicate 1 hole) k := by
      rintro k (q | ⟨r, y, sz, h1, h2, h3⟩)
      · exact .inl q
      · exact .inr ⟨r, y, sz, by rw [List.getElem?_append_left (List.getElem?_eq_some_iff.1 h1).1]; exact h1, h2, hle.at_ h3⟩
    obtain ⟨h1, h2⟩ := h0.at (b := s.rs.length) (dead := dead) (x := x) (e := e) (w' := w') (row := row) hrs hEs hg (fun k hk => by
      obtain ⟨r, y, q, h3, h4, h5, h6⟩ := hrow k hk
      exact ⟨r, y, q, h3, by rw [List.getElem?_append_left (List.getElem?_eq_some_iff.1 h4).1]; exact h4, h5, hle.at_ h6⟩) hblk hlt
      (fun hav hav2 hk => hx _ _ (fun r e' q n => by
        have q' := hle r e' q n
        exact Env.le_set e hEs r e' q' n) (fun k hk' q => hav0 k (hav k hk' q)) (fun k q => (hav2 k q).imp (hav0 k) id) ⟨hk.size, fun k hk' hn => hk.same k hk' fun q => hn (hav0 k q)⟩)
    have hk2 : (kill dead (s.rs ++ List.replicate 1 .dead)).set s.rs.length x = place s.rs.length x (kill dead s.rs) := by
      rw [← hkl, place_end]
      cases dead with
      | none => simp [kill]
      | some r =>
        simp only [kill]
        rw [List.set_append]
        split
        · rename_i hr
          have : (s.rs.set r Root.dead ++ List.replicate 1 Root.dead).set (s.rs.set r Root.dead).length x = s.rs.set r Root.dead ++ [x] := by
            rw [List.set_append]; simp
          exact this
        · rename_i hr
          have h3 : s.rs.set r Root.dead = s.rs := List.set_eq_of_length_le (by omega)
          have h4 : (List.replicate 1 Root.dead).set (r - s.rs.length) Root.dead = List.replicate 1 Root.dead := by
            cases r - s.rs.length <;> rfl
          rw [h3, h4, List.set_append]
          simp
    simp only at h1 h2
    rw [hk2] at h1 h2
    refine ⟨_, h1, ?_, ⟨fun r e' q n => Env.le_set e hEs r e' (hle r e' q n) n, fun q hq h3 => ?_⟩, fun k hk q => hav0 k (h2 k hk q)⟩
    · rw [List.getElem?_set, if_pos rfl]
      simp [h.len]
    · rw [List.getElem?_set, if_neg (fun e => hq e.symm), List.getElem?_append_left (List.getElem?_eq_some_iff.1 h3).1]
      exact h3
def effD (e : Eff) : Option D := match e with
  | .val d => some d
  | .wr d _ => d
  | .all d _ => some d
  | .cold _ => none
def After (T : Tab) (N : Nat) (av0 : Nat → Prop) (w0 : Kp) (sp : List (D × Value)) (s : VS) (a : Act) (w : World) (E : Env) (b : Nat) (e : Eff) (v : Value) (w' : World) (E' : Env) : Prop :=
  Grew b E E' ∧ R T N av0 w0 sp { s with rs := effR e s.rs } a w' E' ∧ ∀ d, effD e = some d → DRel E' (AV av0 (effR e s.rs) E') w' d v
theorem take_mid {α : Type} (l m : List α) (o k n : Nat) (hm : m.length = k) (h : o + k ≤ n) (hn : n ≤ l.length) : (l.take o ++ m ++ l.drop (o + k)).take n = (l.take n).take o ++ m ++ (l.take n).drop (o + k) := by
  apply List.ext_getElem?
  intro i
  have h1 : (l.take o).length = o := by simp; omega
  have h2 : ((l.take n).take o).length = o := by simp; omega
  rw [List.getElem?_take]
  rcases Nat.lt_or_ge i o with hi | hi
  · rw [if_pos (by omega), List.append_assoc, List.append_assoc, List.getElem?_append_left (by omega), List.getElem?_append_left (by omega)]
    rw [List.getElem?_take, List.getElem?_take, List.getElem?_take, if_pos hi, if_pos hi, if_pos (by omega)]
  · rcases Nat.lt_or_ge i (o + k) with hk | hk
    · have A : ∀ l1 l3 : List α, l1.length = o → (l1 ++ m ++ l3)[i]? = m[i - o]? := fun l1 l3 hl => by
        rw [List.append_assoc, List.getElem?_append_right (by omega), hl, List.getElem?_append_left (by omega)]
      rw [if_pos (by omega), A _ _ h1, A _ _ h2]
    · rw [List.getElem?_append_right (by simp; omega), List.getElem?_append_right (by simp; omega), List.getElem?_drop, List.getElem?_drop, List.getElem?_take]
      simp only [List.length_append, h1, h2, hm]
      rw [show o + k + (i - (o + k)) = i by omega]
theorem cellsFrom_get (get : Nat → I) : ∀ (n o q : Nat), q < n → (cellsFrom get o n)[q]? = some (.im (get (o + q)))
  | 0, _, _, h => by omega
  | n + 1, o, 0, _ => by simp [cellsFrom]
  | n + 1, o, q + 1, h => by
    simp only [cellsFrom, List.getElem?_cons_succ]
    rw [cellsFrom_get get n (o + 1) q (by omega)]
    congr 3; omega
theorem cellsFrom_len (get : Nat → I) : ∀ (n o : Nat), (cellsFrom get o n).length = n
  | 0, _ => rfl
  | n + 1, o => by simp [cellsFrom, cellsFrom_len get n]
theorem tabF_succ (get : Nat → Nat → I) (sz i n : Nat) : tabF get sz i (n + 1) = cellsFrom (get i) 0 sz ++ tabF get sz (i + 1) n := rfl
theorem tabF_len (get : Nat → Nat → I) (sz : Nat) : ∀ (n i : Nat), (tabF get sz i n).length = n * sz
  | 0, _ => by simp; rfl
  | n + 1, i => by rw [tabF_succ, List.length_append, cellsFrom_len, tabF_len get sz n, Nat.add_mul, Nat.one_mul]; omega
theorem tabF_get (get : Nat → Nat → I) (sz : Nat) : ∀ (n i k j : Nat), k < n → j < sz → (tabF get sz i n)[k * sz + j]? = some (.im (get (i + k) j))
  | 0, _, _, _, h, _ => by omega
  | n + 1, i, 0, j, _, hj => by
    rw [tabF_succ, List.getElem?_append_left (by rw [cellsFrom_len]; omega), cellsFrom_get _ _ _ _ (by omega)]
    simp
  | n + 1, i, k + 1, j, h, hj => by
    have : (k + 1) * sz + j = sz + (k * sz + j) := by rw [Nat.add_mul, Nat.one_mul]; omega
    rw [tabF_succ, List.getElem?_append_right (by rw [cellsFrom_len]; omega), cellsFrom_len, show (k + 1) * sz + j - sz = k * sz + j by omega, tabF_get get sz n (i + 1) k j (by omega) hj]
    congr 3; omega
theorem All2.of_len {α β : Type} {Rr : α → β → Prop} : ∀ {l : List α} {m : List β}, l.length = m.length → (∀ (i : Nat) (x : α), l[i]? = some x → ∃ y, m[i]? = some y ∧ Rr x y) → All2 Rr l m
  | [], [], _, _ => .nil
  | x :: l, y :: m, h, k => by
    obtain ⟨y', h1, h2⟩ := k 0 x rfl
    simp only [List.getElem?_cons_zero, Option.some.injEq] at h1
    subst h1
    exact .cons h2 (All2.of_len (by simpa using h) fun i x hx => by simpa using k (i + 1) x (by simpa using hx))
  | [], _ :: _, h, _ => by simp at h
  | _ :: _, [], h, _ => by simp at h
theorem R.swap (h : R T N av0 w0 sp s a w E) {r : Nat} {x y : Root} (hr : s.rs[r]? = some x) (hl : y.live → x.live)
    (hx : ∀ e av, RootRel E av w0.base w e x → (∀ b, av b → AV av0 s.rs E b) → RootRel E av w0.base w e y) : R T N av0 w0 sp { s with rs := s.rs.set r y } a w E := by
  have hlt : r < s.rs.length := (List.getElem?_eq_some_iff.1 hr).1
  have key : ∀ (q : Nat) (z : Root), (s.rs.set r y)[q]? = some z → z.live → ∃ z', s.rs[q]? = some z' ∧ z'.live ∧ (z = z' ∨ (q = r ∧ z = y ∧ z' = x)) := by
    intro q z h1 h2
    rw [List.getElem?_set] at h1
    simp only [hlt, if_true] at h1
    split at h1
    · rename_i hq
      subst hq
      simp only [Option.some.injEq] at h1
      subst h1
      exact ⟨x, hr, hl h2, .inr ⟨rfl, rfl, rfl⟩⟩
    · exact ⟨z, h1, h2, .inl rfl⟩
  have hav : ∀ b, AV av0 (s.rs.set r y) E b → AV av0 s.rs E b := by
    rintro b (q | ⟨q, z, sz, h1, h2, h3⟩)
    · exact .inl q
    · obtain ⟨z', h4, h5, _⟩ := key q z h1 h2
      exact .inr ⟨q, z', sz, h4, h5, h3⟩
  refine h.upd (rs' := s.rs.set r y) (Env.le_refl E) (Keeps.refl _ w) h.below (fun b _ q => hav b q) (by simpa using h.len) ?_ ?_ ?_
  · intro q z e h1 h2
    by_cases hz : z.live
    · obtain ⟨z', h4, h5, h6⟩ := key q z h1 hz
      have h7 := RootRel.mono (Env.le_refl E) (Keeps.refl _ w) (fun b _ q => hav b q) (fun _ _ _ => rfl) (h.roots q z' e h4 h2)
      rcases h6 with rfl | ⟨rfl, rfl, rfl⟩
      · exact h7
      · exact hx e _ h7 hav
    · cases z with
      | dead => trivial
      | _ => exact (hz trivial).elim
  · intro q z b sz h1 h2 h3
    obtain ⟨z', h4, h5, _⟩ := key q z h1 h2
    exact h.blk q z' b sz h4 h5 h3
  · intro q q' z z' b sz sz' h1 h1' h2 h2' h3 h3'
    obtain ⟨u, h4, h5, _⟩ := key q z h1 h2
    obtain ⟨u', h4', h5', _⟩ := key q' z' h1' h2'
    exact h.inj q q' u u' b sz sz' h4 h4' h5 h5' h3 h3'
theorem arr_row {E : Env} {av : Nat → Prop} {base : Nat} {w : World} {e : Option Nat × Value × Nat} {el sz n : Nat} {get : Nat → Nat → I} (h : RootRel E av base w e (.arr el sz n get)) : RootRel E av base w e (.row el sz n (tabF get sz 0 n)) := by
  obtain ⟨h1, h2, xs, h3, h4⟩ := h
  refine ⟨h1, h2, xs, h3, All2.of_len (by rw [tabF_len, h3.1]) fun q x hx => ?_⟩
  have hq : q < n * sz := by have := (List.getElem?_eq_some_iff.1 hx).1; rwa [tabF_len] at this
  have hz : 0 < sz := by
    rcases Nat.eq_zero_or_pos sz with e | e
    · subst e; simp at hq
    · exact e
  have e1 : q / sz * sz + q % sz = q := by rw [Nat.mul_comm]; exact Nat.div_add_mod q sz
  have hk : q / sz < n := Nat.div_lt_of_lt_mul (by rw [Nat.mul_comm]; exact hq)
  have hm : q % sz < sz := Nat.mod_lt _ hz
  obtain ⟨y, h7, h8⟩ := h4 (q / sz) hk (q % sz) hm
  have h9 := tabF_get get sz n 0 (q / sz) (q % sz) hk hm
  rw [e1] at h7 h9
  rw [hx] at h9
  simp only [Nat.zero_add, Option.some.injEq] at h9
  subst h9
  exact ⟨y, h7, h8⟩
theorem row_arr {E : Env} {av : Nat → Prop} {base : Nat} {w : World} {e : Option Nat × Value × Nat} {el sz n : Nat} {l : List C} {get : Nat → Nat → I} (h : RootRel E av base w e (.row el sz n l)) (hl : ∀ i, i < n → ∀ j, j < sz → l[i * sz + j]? = some (.im (get i j))) : RootRel E av base w e (.arr el sz n get) := by
  obtain ⟨h1, h2, xs, h3, h4⟩ := h
  refine ⟨h1, h2, xs, h3, fun i hi j hj => ?_⟩
  obtain ⟨y, h5, h6⟩ := h4.nth (i := i * sz + j) (x := .im (get i j)) (by rw [nth_eq]; exact hl i hi j hj)
  exact ⟨y, h5, h6⟩
theorem updA_eq (get : Nat → Nat → I) (i j : Nat) (ys : List I) : updA get i j ys = upd get i j ys := by
  funext i' j'
  unfold updA upd
  by_cases h : i' = i ∧ j ≤ j' ∧ j' < j + ys.length
  · rw [if_pos h]
    obtain ⟨rfl, h2, h3⟩ := h
    have e1 : Nat.beq i' i' = true := Nat.beq_refl i'
    have e2 : Nat.ble j j' = true := Nat.ble_eq ▸ h2
    have e3 : Nat.blt j' (j + ys.length) = true := by simpa [Nat.blt_eq] using h3
    rw [e1, e2, e3]; rfl
  · rw [if_neg h]
    cases hb : (Nat.beq i' i && (Nat.ble j j' && Nat.blt j' (j + ys.length))) with
    | false => rfl
    | true =>
      simp only [Bool.and_eq_true] at hb
      exact (h ⟨of_beq hb.1, of_ble hb.2.1, toNat_of_blt hb.2.2⟩).elim
theorem appA_eq (n : Nat) (get get' : Nat → Nat → I) : appA n get get' = app n get get' := by
  funext i j
  unfold appA app
  by_cases h : i < n
  · rw [if_pos h, (by simpa [Nat.blt_eq] using h : Nat.blt i n = true)]
  · rw [if_neg h]
    cases hb : Nat.blt i n with
    | false => rfl
    | true => exact (h (toNat_of_blt hb)).elim
theorem storeF_sound (hty : TyOK P T) (h : R T N av0 w0 sp s a w E) (hn : NilS s.sl) {dst : Option Tmp} {t : TypeId} {x v : Operand} {e : Eff} (ef : storeF T s dst t x v = some e) (b : Nat) :
    (∃ l, e = .cold l) ∨ dst = none ∧ ∃ w', (Instr.storeAt t (a.eval x) (a.eval v)).run P w = .ok () w' ∧ After T N av0 w0 sp s a w E b e undef w' E := by
  unfold storeF at ef
  split at ef
  · simp at ef
  split at ef
  case h_2 => simp at ef
  rename_i y d hy hd
  have hv := h.evF hn hd
  split at ef
  case h_2 => simp at ef
  rename_i cs hcs
  obtain ⟨hsz, ef⟩ := Bool.rec_some ef
  split at ef
  case h_2 => simp at ef
  rename_i r i j hx
  have hx := h.evF hn (cellF_some hx)
  have hcv := cells_rel hv hcs
  unfold storeR at ef
  split at ef
  · rename_i l hl
    refine .inr ⟨rfl, ?_⟩
    rw [nthF_eq] at hl
    split at ef
    case h_2 => simp at ef
    split at ef
    case h_2 => simp at ef
    rename_i l' hl'
    simp only [Option.some.injEq] at ef
    subst ef
    have hr : r < s.rs.length := by rw [nth_eq] at hl; exact (List.getElem?_eq_some_iff.1 hl).1
    obtain ⟨s', w', h1, h2, h3⟩ := store_sound (t := t) hty h hx hv (K := fun s' => s' = { s with rs := setAt s.rs r (.box l') }) (by
      simp only [storeK, hy, hcs, hsz, hl, hl'])
    subst h3
    refine ⟨w', h1, Grew.refl _ _, ?_, fun d hd => by simp [effD] at hd⟩
    show R T N av0 w0 sp { s with rs := place r (.box l') s.rs } a w' E
    rw [place_at _ hr, ← setAt_eq]
    exact h2
  · rename_i el asz n l hl
    refine .inr ⟨rfl, ?_⟩
    rw [nthF_eq, nth_eq] at hl
    split at ef
    case h_2 => simp at ef
    rename_i l' hl'
    simp only [Option.some.injEq] at ef
    subst ef
    have hy := hty.ty _ _ hy
    simp only [Bool.and_eq_true] at hsz
    obtain ⟨hsz, hpos⟩ := hsz
    have hsz := of_beq hsz
    have hpos := toNat_of_blt hpos
    have hvs : (a.eval v).cells.size = y.size := by have := hcv.length; rw [hsz] at this; simpa using this.symm
    have hr : r < s.rs.length := (List.getElem?_eq_some_iff.1 hl).1
    obtain ⟨b', sz, ⟨hd', hE⟩, hpx⟩ := hx
    obtain ⟨q1, q2, xs, q3, q4⟩ := h.roots r _ _ hl hE
    have q1 : sz = asz := q1
    have q2 : some b' = hd'.ownBlock := q2
    subst q1
    obtain ⟨q5, q6⟩ := q3
    have q6 : (hd' = .slice none 0 0 ∧ n = 0) ∨ ∃ g cap cur, hd' = .slice (some ⟨g, 0, none⟩) n cap ∧ w0.base ≤ g ∧ w.heap[g]? = some (.cells cur el (0, 0)) ∧ n ≤ cap ∧ cap ≤ maxLen ∧ cur.size = cap * sz ∧ cur.toList.take (n * sz) = xs := q6
    rcases q6 with ⟨q6, _⟩ | ⟨g', cap, cur, q6, q7, q8, q9, q10, q11, q12⟩
    · rw [q6] at q2; simp [Value.ownBlock] at q2
    rw [q6] at q2
    simp only [Value.ownBlock, Option.some.injEq] at q2
    subst q2
    have hfit0 : i * sz + j + y.size ≤ n * sz := by
      have hlen := q4.length
      rcases put_some hl' with h1 | h1
      · rw [hsz] at h1; omega
      · subst h1; simp at hsz; omega
    have hcap : n * sz ≤ cap * sz := Nat.mul_le_mul_right _ q9
    have hrun := run_storeAt_row (w := w) hy (o := i * sz + j) q8 hvs (by omega) (hcv.all_one)
    rw [hpx]
    refine ⟨_, hrun, Grew.refl _ _, ?_, fun d hd => by simp [effD] at hd⟩
    show R T N av0 w0 sp { s with rs := place r _ s.rs } a _ E
    rw [place_at _ hr]
    have hl2 : (a.eval v).cells.toList.length = y.size := by simpa using hvs
    have hk : Keeps (AV av0 s.rs E) w (w.setRow b' (cur.toList.take (i * sz + j) ++ (a.eval v).cells.toList ++ cur.toList.drop (i * sz + j + y.size)).toArray) :=
        ⟨by simp, fun k hk hn => setRow_other w _ k _ fun e => by subst e; exact hn (.inr ⟨r, _, sz, hl, trivial, hd', hE⟩)⟩
    have hp := putL hl' q4 hcv
    rw [hl2, ← q12, ← take_mid cur.toList _ (i * sz + j) y.size (n * sz) hl2 hfit0 (by simp; omega)] at hp
    refine h.turn hl trivial hE (by simp) (fun k hk => setRow_other w _ k _ hk) ⟨rfl, rfl, rfl⟩ ⟨rfl, by rw [q6]; rfl, _, ⟨?_, .inr ⟨b', cap, _, q6, q7, setRow_heap w b' cur _ el (0, 0) q8, q9, q10, ?_, rfl⟩⟩, ?_⟩
    · simp [hl2]
      omega
    · simp [hl2]
      omega
    · exact hp.mono fun _ _ q => CRel.mono (Env.le_refl E) hk (fun _ _ q => q) q
  · rename_i el asz n get hl
    rw [nthF_eq] at hl
    split at ef
    · rename_i ys hys
      refine .inr ⟨rfl, ?_⟩
      obtain ⟨h1, ef⟩ := Bool.rec_some ef
      obtain ⟨h2, ef⟩ := Bool.rec_some ef
      simp only [Option.some.injEq] at ef
      subst ef
      have hr : r < s.rs.length := by rw [nth_eq] at hl; exact (List.getElem?_eq_some_iff.1 hl).1
      obtain ⟨s', w', h3, h4, h5⟩ := store_sound (t := t) hty h hx hv (K := fun s' => s' = { s with rs := setAt s.rs r (.arr el asz n (upd get i j ys)) }) (by
        simp only [storeK, hy, hcs, hsz, hl, hys, h1]
        exact ⟨toNat_of_blt h2, trivial⟩)
      subst h5
      refine ⟨w', h3, Grew.refl _ _, ?_, fun d hd => by simp [effD] at hd⟩
      show R T N av0 w0 sp { s with rs := place r (.arr el asz n (updA get i j ys)) s.rs } a w' E
      rw [place_at _ hr, ← setAt_eq, updA_eq]
      exact h4
    · unfold coldC at ef
      split at ef
      · simp only [Option.some.injEq] at ef
        exact .inl ⟨_, ef.symm⟩
      · simp at ef
  · simp at ef
theorem R.makeBox (h : R T N av0 w0 sp s a w E) {b : Nat} (hf : Free s E b) {l : List C} {cs : Array Value} (hl : All2 (CRel E (AV av0 s.rs E) w) l cs.toList) (t : TypeId) :
    ∃ E', After T N av0 w0 sp s a w E b (.wr (some (.c (.rt b 0 0))) [(b, .box l)]) (.pointer (some ⟨w.heap.size, 0, none⟩)) (w.alloc (.cells cs t)) E' := by
  obtain ⟨E', h1, h2, h3, h4⟩ := h.make hf (dead := none) (x := .box l) (e := (some w.heap.size, undef, l.length)) (w' := w.alloc (.cells cs t)) (row := none) (World.grownBy_alloc w _ none) (fun k hk => by cases hk)
    (fun k hk => by simp at hk; omega) (fun k hk => by simp at hk ⊢; omega) (fun E' av' hE hav _ hk => ⟨w.heap.size, cs, t, rfl, rfl, heap_alloc_new w _, hl.mono fun _ _ q => CRel.mono hE hk hav q⟩)
  refine ⟨E', h3, h1, fun d hd => ?_⟩
  simp only [effD, Option.some.injEq] at hd
  subst hd
  exact ⟨w.heap.size, l.length, ⟨undef, h2⟩, by simp⟩
theorem boxF_sound (h : R T N av0 w0 sp s a w E) (hn : NilS s.sl) {b : Nat} (hf : Free s E b) {x : Operand} (t : TypeId) {e : Eff} (ef : boxF b s x = some e) :
    ∃ E', After T N av0 w0 sp s a w E b e (.pointer (some ⟨w.heap.size, 0, none⟩)) (w.alloc (.cells (a.eval x).cells t)) E' := by
  unfold boxF at ef
  split at ef
  case h_2 => simp at ef
  rename_i d hd
  split at ef
  case h_2 => simp at ef
  rename_i l hl
  simp only [Option.some.injEq] at ef
  subst ef
  exact h.makeBox hf (cells_rel (h.evF hn hd) hl) t
theorem allocF_sound (hty : TyOK P T) (h : R T N av0 w0 sp s a w E) {b : Nat} (hf : Free s E b) {t : TypeId} {e : Eff} (ef : allocF T b t = some e) :
    ∃ v w' E', (∀ o : Oper, o.op = .alloc t → (execOp a.eval o).run P w = .ok (.value v) w') ∧ After T N av0 w0 sp s a w E b e v w' E' := by
  unfold allocF at ef
  split at ef
  case h_2 => simp at ef
  rename_i y hy
  have hy := hty.ty _ _ hy
  split at ef
  case h_2 => simp at ef
  rename_i l hl
  simp only [Option.some.injEq] at ef
  subst ef
  obtain ⟨i, hi, _, _, hz⟩ := hy.full
  obtain ⟨E', h1⟩ := h.makeBox hf (cs := y.zero.cells) (oneV_rel hl) t
  refine ⟨_, _, E', fun o ho => ?_, h1⟩
  have hz0 : (zeroValue t).run P w = .ok y.zero w := by simp [zeroValue, typeInfo, hi, hz]
  simp only [execOp, ho, Instr.alloc, Sem.run_bind, hz0, Result.andThen_ok]
  rfl
theorem mkmapF_sound (h : R T N av0 w0 sp s a w E) {b : Nat} (hf : Free s E b) {t : TypeId} {r : Option Operand} {e : Eff} (ef : mkmapF T b t r = some e) :
    r = none ∧ ∃ E', After T N av0 w0 sp s a w E b e (.map (some w.heap.size)) (w.alloc (.map #[] 0)) E' := by
  unfold mkmapF at ef
  split at ef
  case h_2 => simp at ef
  simp only [Option.some.injEq] at ef
  subst ef
  refine ⟨rfl, ?_⟩
  obtain ⟨E', h1, h2, h3, h4⟩ := h.make hf (dead := none) (x := .set []) (e := (some w.heap.size, undef, 0)) (w' := w.alloc (.map #[] 0)) (row := none) (World.grownBy_alloc w _ none) (fun k hk => by cases hk)
    (fun k hk => by simp at hk; omega) (fun k hk => by simp at hk ⊢; omega) (fun E' av' hE hav _ hk => ⟨w.heap.size, #[], 0, rfl, heap_alloc_new w _, .nil⟩)
  refine ⟨E', h3, h1, fun d hd => ?_⟩
  simp only [effD, Option.some.injEq] at hd
  subst hd
  exact ⟨w.heap.size, 0, ⟨undef, h2⟩, rfl⟩
theorem mapuF_sound (hty : TyOK P T) (h : R T N av0 w0 sp s a w E) (hn : NilS s.sl) {dst : Option Tmp} {t : TypeId} {m k v : Operand} {e : Eff} (ef : mapuF T s dst t m k v = some e) (b : Nat) :
    dst = none ∧ ∃ w', (Instr.mapUpdate t (a.eval m) (a.eval k) (a.eval v)).run P w = .ok () w' ∧ After T N av0 w0 sp s a w E b e undef w' E := by
  unfold mapuF at ef
  split at ef
  · simp at ef
  refine ⟨rfl, ?_⟩
  obtain ⟨hk, ef⟩ := Bool.rec_some ef
  unfold mapK at hk
  split at hk
  case h_2 => simp at hk
  rename_i hyt
  have hyt := (hty.ty _ _ hyt).map rfl
  split at hk
  case h_2 => simp at hk
  rename_i hyk _
  have hyk := (hty.ty _ _ hyk).int rfl
  split at ef
  case h_2 => simp at ef
  rename_i r n hm hk hv
  obtain ⟨b', sz, ⟨hh, hE⟩, hm⟩ := h.evF hn (cellF_some hm)
  have hk := (h.evF hn (intF_some hk)).1
  have hv := (h.evF hn (boolF_some hv)).1
  split at ef
  case h_2 => simp at ef
  rename_i l hl
  rw [nthF_eq, nth_eq] at hl
  simp only [Option.some.injEq] at ef
  subst ef
  obtain ⟨w', h1, h2⟩ := set_sound h hl hE hyt hyk
  rw [hm, hk, hv]
  refine ⟨w', h1, Grew.refl _ _, ?_, fun d hd => by simp [effD] at hd⟩
  show R T N av0 w0 sp { s with rs := place r _ s.rs } a _ E
  rw [place_at _ (List.getElem?_eq_some_iff.1 hl).1]
  exact h2
theorem R.makeRow (h : R T N av0 w0 sp s a w E) {b : Nat} (hf : Free s E b) {el sz n : Nat} {l : List C} {w' : World} {hd : Value} {xs : List Value} {row : Option Nat} {dead : Option Nat}
    (hg : w.grownBy w' row) (hown : w'.ownsRow w0.base el sz hd n xs)
    (hrow : ∀ k, row = some k → ∃ r x q, dead = some r ∧ s.rs[r]? = some x ∧ x.live ∧ atRoot E r k q)
    (hblk : ∀ k, hd.ownBlock = some k → some k = row ∨ w.heap.size ≤ k)
    (hl : All2 (CRel E (AV av0 s.rs E) w) l xs) :
    ∃ E', R T N av0 w0 sp { s with rs := place b (.row el sz n l) (kill dead s.rs) } a w' E' ∧ Grew b E E' ∧ DRel E' (AV av0 (place b (.row el sz n l) (kill dead s.rs)) E') w' (.c (.sa b n)) hd := by
  obtain ⟨E', h1, h2, h3, h4⟩ := h.make hf (dead := dead) (x := .row el sz n l) (e := (hd.ownBlock, hd, sz)) (w' := w') (row := row) hg hrow hblk (fun k hk => by
      rcases hown.2 with ⟨h1, _⟩ | ⟨g, cap, cur, h1, h2, h3, _⟩
      · have hk : hd.ownBlock = some k := hk
        rw [h1] at hk; simp [Value.ownBlock] at hk
      · have hk : hd.ownBlock = some k := hk
        rw [h1] at hk
        simp only [Value.ownBlock, Option.some.injEq] at hk
        subst hk
        exact (Array.getElem?_eq_some_iff.1 h3).1)
    (fun E' av' hE hav _ hk => ⟨rfl, rfl, xs, hown, hl.mono fun _ _ q => CRel.mono hE hk hav q⟩)
  refine ⟨E', h1, h3, ?_⟩
  rcases hown.2 with ⟨q5, q6⟩ | ⟨g, cap, cur, q5, _⟩
  · exact ⟨_, none, 0, 0, h2, q5, by omega, by rw [q5, q6]⟩
  · exact ⟨_, _, n, cap, h2, q5, Nat.le_refl _, q5⟩
theorem R.makeArr (h : R T N av0 w0 sp s a w E) {b : Nat} (hf : Free s E b) {el sz n : Nat} {get : Nat → Nat → I} {w' : World} {hd : Value} {xs : List Value} {row : Option Nat} {dead : Option Nat}
    (hg : w.grownBy w' row) (hown : w'.ownsRow w0.base el sz hd n xs)
    (hrow : ∀ k, row = some k → ∃ r x q, dead = some r ∧ s.rs[r]? = some x ∧ x.live ∧ atRoot E r k q)
    (hblk : ∀ k, hd.ownBlock = some k → some k = row ∨ w.heap.size ≤ k)
    (hl : ∀ i, i < n → ∀ j, j < sz → ∃ x, xs[i * sz + j]? = some x ∧ IRel (AV av0 s.rs E) w (get i j) x) :
    ∃ E', R T N av0 w0 sp { s with rs := place b (.arr el sz n get) (kill dead s.rs) } a w' E' ∧ Grew b E E' ∧ DRel E' (AV av0 (place b (.arr el sz n get) (kill dead s.rs)) E') w' (.c (.sa b n)) hd := by
  obtain ⟨E', h1, h2, h3, h4⟩ := h.make hf (dead := dead) (x := .arr el sz n get) (e := (hd.ownBlock, hd, sz)) (w' := w') (row := row) hg hrow hblk (fun k hk => by
      rcases hown.2 with ⟨h1, _⟩ | ⟨g, cap, cur, h1, h2, h3, _⟩
      · have hk : hd.ownBlock = some k := hk
        rw [h1] at hk; simp [Value.ownBlock] at hk
      · have hk : hd.ownBlock = some k := hk
        rw [h1] at hk
        simp only [Value.ownBlock, Option.some.injEq] at hk
        subst hk
        exact (Array.getElem?_eq_some_iff.1 h3).1)
    (fun E' av' hE hav _ hk => ⟨rfl, rfl, xs, hown, fun i hi j hj => by
      obtain ⟨x, q1, q2⟩ := hl i hi j hj
      exact ⟨x, q1, IRel.mono hk hav q2⟩⟩)
  refine ⟨E', h1, h3, ?_⟩
  rcases hown.2 with ⟨q5, q6⟩ | ⟨g, cap, cur, q5, _⟩
  · exact ⟨_, none, 0, 0, h2, q5, by omega, by rw [q5, q6]⟩
  · exact ⟨_, _, n, cap, h2, q5, Nat.le_refl _, q5⟩
theorem fillAF_fillA (hn : NilS s.sl) {sz : Nat} : ∀ {ps : List (Nat × Operand)} {l r : List C}, fillAF sz s.sl ps l = some r → fillA sz s [] ps l = some r
  | [], l, r, e => e
  | p :: ps, l, r, e => by
    obtain ⟨k, x⟩ := p
    have e : (match Go.V.evF s.sl x with
      | some d => match d.cells with
        | some cs => (Bool.rec none (match put l (k * sz) cs with
          | some l' => fillAF sz s.sl ps l'
          | none => none) (Nat.beq cs.length sz && Nat.blt 0 sz) : Option (List C))
        | none => none
      | none => none) = some r := e
    split at e
    case h_2 => simp at e
    rename_i d hd
    split at e
    case h_2 => simp at e
    rename_i cs hcs
    obtain ⟨h1, e⟩ := Bool.rec_some e
    split at e
    case h_2 => simp at e
    rename_i l' hl'
    simp only [fillA, evF_ev hn hd, hcs, h1, hl']
    exact fillAF_fillA hn e
theorem bsF_sound (hty : TyOK P T) (h : R T N av0 w0 sp s a w E) (hn : NilS s.sl) {b : Nat} (hf : Free s E b) {t n : Nat} {ps : Array (Nat × Operand)} {e : Eff} {cold : Bool} (ef : bsF T b s cold t n ps.toList = some e) :
    ∃ v w' E', (Instr.buildSlice t n (ps.map fun (i, x) => (i, a.eval x))).run P w = .ok v w' ∧ After T N av0 w0 sp s a w E b e v w' E' := by
  unfold bsF at ef
  split at ef
  case h_2 => simp at ef
  rename_i sz0 by0 z0 el hy0
  have hy0 := hty.ty _ _ hy0
  split at ef
  case h_2 => simp at ef
  rename_i y hy
  have hy := hty.ty _ _ hy
  split at ef
  case h_2 => simp at ef
  rename_i z hz
  split at ef
  case h_2 => simp at ef
  rename_i l hl
  obtain ⟨hb, ef⟩ := Bool.rec_some ef
  simp only [Option.some.injEq] at ef
  subst ef
  simp only [Bool.and_eq_true] at hb
  have hpos := toNat_of_blt hb.1
  have hbig := of_ble hb.2
  have hzl : z.length = y.size := by
    have := (oneV_rel (E := E) (av := AV av0 s.rs E) (w := w) hz).length
    rw [this]
    simpa using hy.zs
  obtain ⟨cs, h1, h2, h3⟩ := run_buildSlice hty h (CondsHold.nil a) hy0 rfl hy hz (fillAF_fillA hn hl) hzl hpos hbig
  have hm : n ≤ maxLen := by
    have : n ≤ n * y.size := Nat.le_mul_of_pos_right _ hpos
    simp only [maxLen]; omega
  have hown := World.ownsRow_lit (e := el) (size := y.size) (base := w0.base) w cs n h.size_le hm (by rw [← h3, h2.length]; simp)
  rcases bornE_cases cold b el y.size n l with hc | ⟨is, hi, hc⟩
  case inr =>
    rw [hc]
    have hb := below_alloc w (.cells cs el)
    refine ⟨_, _, E, h1, Grew.refl _ _, h.grown hb, fun d hd => ?_⟩
    simp only [effD, Option.some.injEq] at hd
    subst hd
    have him := imm_eq hi
    subst him
    have hx := lift_to h2
    have hxl := hx.length
    have hE := (h.grown hb)
    refine ⟨_, n, rfl, Nat.le_refl _, hm, fun h0 => ⟨_, rfl, rfl, fun q => ?_, by rw [World.size_alloc]; exact Nat.lt_succ_self _, fun i hi' j hj => ?_⟩⟩
    · have : w.heap.size < w.heap.size := by
        rcases q with q | ⟨r, x, sz, g1, g2, g3⟩
        · exact h.outer_lt q
        · exact (h.blk r x _ sz g1 g2 g3).2
      omega
    · have hlt : i * y.size + j < n * y.size := by
        have := Nat.mul_le_mul_right y.size (show i + 1 ≤ n by omega)
        rw [Nat.add_mul, Nat.one_mul] at this
        omega
      obtain ⟨x, h5, h6⟩ := getL_rel hx (q := i * y.size + j) (by rw [hxl, ← h2.length, h3]; exact hlt)
      refine ⟨x, ?_, IRel.mono (Keeps.of_below hb) (fun _ _ q => q) h6⟩
      rw [Addr.add_mid, getElem?_lit (heap_alloc_new w _)]
      simpa using h5
  rw [hc]
  obtain ⟨E', h4, h5, h6⟩ := h.makeRow hf (dead := none) (row := none) (n := n) (l := l) (World.grownBy_alloc w _ none) hown (fun k hk => by cases hk) (fun k hk => by simp [Value.ownBlock] at hk; right; omega) h2
  refine ⟨_, _, E', h1, h5, h4, fun d hd => ?_⟩
  simp only [effD, Option.some.injEq] at hd
  subst hd
  exact h6
theorem lift_length : ∀ ys : List I, (lift ys).length = ys.length
  | [] => rfl
  | y :: ys => by simp [lift, lift_length ys]
theorem lift_getL : ∀ {ys : List I} {j : Nat}, j < ys.length → (lift ys)[j]? = some (.im (getL ys j))
  | [], j, h => by simp at h
  | y :: ys, 0, h => rfl
  | y :: ys, j + 1, h => by
    have := lift_getL (ys := ys) (j := j) (by simpa using h)
    simpa [lift, getL, nth] using this
theorem mkslF_sound (hty : TyOK P T) (h : R T N av0 w0 sp s a w E) (hn : NilS s.sl) {b : Nat} (hf : Free s E b) {t : TypeId} {l c : Operand} {e : Eff} (ef : mkslF T b s t l c = some e) :
    ∃ v w' E', (Instr.makeSlice t (a.eval l) (a.eval c)).run P w = .ok v w' ∧ After T N av0 w0 sp s a w E b e v w' E' := by
  unfold mkslF at ef
  split at ef
  case h_2 => simp at ef
  rename_i sz0 by0 z0 el hy0
  have hu := (hty.ty _ _ hy0).slice rfl
  split at ef
  case h_2 => simp at ef
  rename_i y hy
  have hy := hty.ty _ _ hy
  split at ef
  case h_2 => simp at ef
  rename_i z hz
  split at ef
  case h_2 => simp at ef
  rename_i n m hl hc
  split at ef
  case h_2 => simp at ef
  rename_i is his
  obtain ⟨hpos, ef⟩ := Bool.rec_some ef
  obtain ⟨hb, ef⟩ := Bool.rec_some ef
  obtain ⟨h1, ef⟩ := Bool.rec_some ef
  simp only [Option.some.injEq] at ef
  subst ef
  simp only [Bool.and_eq_true] at hb
  have h1 := of_beq h1
  subst h1
  have hpos := toNat_of_blt hpos
  have hm := of_ble hb.1
  have hby := of_ble hb.2
  have hl := (h.evF hn (intF_some hl)).1
  have hc := (h.evF hn (intF_some hc)).1
  have hzr := oneV_rel (E := E) (av := AV av0 s.rs E) (w := w) hz
  have hzl : z.length = y.size := by rw [hzr.length]; simpa using hy.zs
  obtain ⟨inf, hin, hsz, hbytes, hzero⟩ := hy.full
  obtain ⟨w', hr, hown, hg⟩ := run_make_full w w0.base t el inf y.zero y.size hu hin hzero hsz .i64 .i64 n (by rw [hbytes, Nat.mul_comm]; exact hby) hm h.size_le
  have hcells : All2 (CRel E (AV av0 s.rs E) w) (rep z n) (madeCells y.zero.cells (n * y.size)).toList := by
    refine All2.of_get (by rw [rep_length, hzl]; simp [size_madeCells]) fun i x v hx hv => ?_
    have hi : i < n * z.length := by
      have := (List.getElem?_eq_some_iff.1 hx).1
      rwa [rep_length] at this
    rw [rep_get z n i hi] at hx
    have hi' : i < n * y.size := by rw [← hzl]; exact hi
    have hcs : y.zero.cells.size = y.size := hy.zs
    have hmod : i % y.zero.cells.size < y.zero.cells.size := Nat.mod_lt _ (by rw [hcs]; exact hpos)
    have hv' : v = y.zero.cells[i % y.zero.cells.size]'hmod := by
      have : (madeCells y.zero.cells (n * y.size)).toList[i]? = some (y.zero.cells[i % y.zero.cells.size]!) := by
        simp [madeCells, hi']
      rw [this] at hv
      simp only [Option.some.injEq] at hv
      rw [← hv, getElem!_pos y.zero.cells _ hmod]
    refine All2.get hzr hx (i := i % z.length) ?_
    rw [hv', show i % z.length = i % y.zero.cells.size by rw [hzl, hcs]]
    simp [hmod]
  have hil : z = lift is := imm_eq his
  have hisl : is.length = y.size := by rw [← hzl, hil, lift_length]
  have hcells2 : ∀ i, i < n → ∀ j, j < y.size → ∃ x, (madeCells y.zero.cells (n * y.size)).toList[i * y.size + j]? = some x ∧ IRel (AV av0 s.rs E) w (getL is j) x := by
    intro i hi j hj
    have hlt : i * y.size + j < n * y.size := by
      have := Nat.mul_le_mul_right y.size (show i + 1 ≤ n by omega)
      rw [Nat.add_mul, Nat.one_mul] at this
      omega
    have e1 : (rep z n)[i * y.size + j]? = some (.im (getL is j)) := by
      rw [rep_get z n _ (by rw [hzl]; exact hlt), hzl]
      have e2 : (i * y.size + j) % y.size = j := by rw [Nat.mul_comm, Nat.mul_add_mod]; exact Nat.mod_eq_of_lt hj
      rw [e2, hil, lift_getL (by rw [hisl]; exact hj)]
    obtain ⟨x, h7, h8⟩ := hcells.nth (i := i * y.size + j) (x := .im (getL is j)) (by rw [nth_eq]; exact e1)
    exact ⟨x, h7, h8⟩
  obtain ⟨E', h4, h5, h6⟩ := h.makeArr hf (dead := none) (row := none) (n := n) (get := fun _ => getL is) hg hown (fun k hk => by cases hk) (fun k hk => by simp [Value.ownBlock] at hk; right; omega) hcells2
  refine ⟨.slice (some ⟨w.heap.size, 0, none⟩) n n, w', E', ?_, h5, h4, fun d hd => ?_⟩
  · rw [hl, hc]; exact hr
  · simp only [effD, Option.some.injEq] at hd
    subst hd
    exact h6
theorem tabF_take (get : Nat → Nat → I) (sz n i k : Nat) (h : k ≤ n) : (tabF get sz i n).take (k * sz) = tabF get sz i k := by
  apply List.ext_getElem?
  intro q
  rw [List.getElem?_take]
  split
  · rename_i hq
    have hz : 0 < sz := by
      rcases Nat.eq_zero_or_pos sz with e | e
      · subst e; simp at hq
      · exact e
    have e1 : q / sz * sz + q % sz = q := by rw [Nat.mul_comm]; exact Nat.div_add_mod q sz
    have hk : q / sz < k := Nat.div_lt_of_lt_mul (by rw [Nat.mul_comm]; exact hq)
    have hm : q % sz < sz := Nat.mod_lt _ hz
    have h1 := tabF_get get sz n i (q / sz) (q % sz) (by omega) hm
    have h2 := tabF_get get sz k i (q / sz) (q % sz) hk hm
    rw [e1] at h1 h2
    rw [h1, h2]
  · rename_i hq
    rw [List.getElem?_eq_none (by rw [tabF_len]; omega)]
theorem rowRel_cells {e : Option Nat × Value × Nat} {el sz n : Nat} {l : List C} {base : Nat} {av : Nat → Prop} (hrr : RootRel E av base w e (.row el sz n l)) {ao : Option Addr} {n' cap k : Nat} (h2 : e.2.1 = .slice ao n' cap) (h3 : k ≤ n') (hkn : k ≤ n) :
    ∃ ao' cap', Value.slice ao k cap = .slice ao' k cap' ∧ (ao' = none → k = 0) ∧ ∃ news : List Value, news.length = k * sz ∧ (∀ ad, ao' = some ad → ∀ j u, news[j]? = some u → w.cell? (ad.add j) = some u) ∧ (∀ u ∈ news, u.oneCell' = true) ∧
      All2 (CRel E av w) (l.take (k * sz)) news := by
  obtain ⟨q1, q2, xs, q3, q4⟩ := hrr
  have hxl := q3.1
  have hks : k * sz ≤ n * sz := Nat.mul_le_mul_right _ hkn
  have hxk : (xs.take (k * sz)).length = k * sz := by rw [List.length_take]; omega
  rcases q3.2 with ⟨q5, q6⟩ | ⟨g, cap', cur, q5, q6, q7, q8, q9, q10, q11⟩
  · rw [h2] at q5
    simp only [Value.slice.injEq] at q5
    obtain ⟨rfl, rfl, rfl⟩ := q5
    have : k = 0 := by omega
    subst this
    exact ⟨none, 0, rfl, fun _ => rfl, [], by simp, fun _ _ j u hj => (by simp at hj), fun u hu => (by cases hu), by simp; exact .nil⟩
  · rw [h2] at q5
    simp only [Value.slice.injEq] at q5
    obtain ⟨rfl, rfl, rfl⟩ := q5
    refine ⟨_, cap, rfl, fun e => (by simp at e), xs.take (k * sz), hxk, ?_, ?_, q4.take _⟩
    · intro ad he j u hj
      simp only [Option.some.injEq] at he
      subst he
      rw [Addr.add_mid, getElem?_lit q7]
      rw [← q11, List.take_take, List.getElem?_take] at hj
      split at hj
      · simpa using hj
      · simp at hj
    · exact All2.all_one (q4.take _)
theorem srcF_cells (h : R T N av0 w0 sp s a w E) {c : C} {vs : Value} {sz k : Nat} {l' : List C} (hs : srcF s.rs c = some (sz, k, l')) (hr : CRel E (AV av0 s.rs E) w c vs) :
    ∃ ao cap, vs = .slice ao k cap ∧ (ao = none → k = 0) ∧ ∃ news : List Value, news.length = k * sz ∧ (∀ ad, ao = some ad → ∀ j u, news[j]? = some u → w.cell? (ad.add j) = some u) ∧ (∀ u ∈ news, u.oneCell' = true) ∧
      All2 (CRel E (AV av0 s.rs E) w) l' news := by
  unfold srcF at hs
  split at hs
  · rename_i sz' k' get
    simp only [Option.some.injEq, Prod.mk.injEq] at hs
    obtain ⟨rfl, rfl, rfl⟩ := hs
    obtain ⟨ao, cap, h1, h2, news, h3, h4, h5, h6⟩ := src_cells h (src := .c (.im (.sl sz' k' get))) rfl hr
    refine ⟨ao, cap, h1, h2, news, h3, h4, h5, All2.of_len (by rw [tabF_len, h3]) fun q x hx => ?_⟩
    have hq : q < k' * sz' := by have := (List.getElem?_eq_some_iff.1 hx).1; rwa [tabF_len] at this
    have hz : 0 < sz' := by
      rcases Nat.eq_zero_or_pos sz' with e | e
      · subst e; simp at hq
      · exact e
    have e1 : q / sz' * sz' + q % sz' = q := by rw [Nat.mul_comm]; exact Nat.div_add_mod q sz'
    have hk : q / sz' < k' := Nat.div_lt_of_lt_mul (by rw [Nat.mul_comm]; exact hq)
    have hm : q % sz' < sz' := Nat.mod_lt _ hz
    obtain ⟨y, h7, h8⟩ := h6 (q / sz') hk (q % sz') hm
    have h9 := tabF_get get sz' k' 0 (q / sz') (q % sz') hk hm
    rw [e1] at h7 h9
    rw [hx] at h9
    simp only [Nat.zero_add, Option.some.injEq] at h9
    subst h9
    exact ⟨y, h7, h8⟩
  · obtain ⟨rfl, _⟩ := hr
    simp only [Option.some.injEq, Prod.mk.injEq] at hs
    obtain ⟨rfl, rfl, rfl⟩ := hs
    exact ⟨none, 0, rfl, fun _ => rfl, [], rfl, fun _ q => (by cases q), fun _ q => (by cases q), .nil⟩
  · rename_i q k'
    split at hs
    case h_3 => simp at hs
    · rename_i el sz' n l hl
      rw [nthF_eq, nth_eq] at hl
      obtain ⟨hkn, hs⟩ := Bool.rec_some hs
      split at hs
      case h_2 => simp at hs
      rename_i l2 hl2
      obtain ⟨rfl, hlen⟩ := takeN_eq _ _ _ hl2
      simp only [Option.some.injEq, Prod.mk.injEq] at hs
      obtain ⟨rfl, rfl, rfl⟩ := hs
      obtain ⟨e, ao, n', cap, h1, h2, h3, rfl⟩ := hr
      exact rowRel_cells (h.roots q _ _ hl h1) h2 h3 (of_ble hkn)
    · rename_i el sz' n get hl
      rw [nthF_eq, nth_eq] at hl
      obtain ⟨hkn, hs⟩ := Bool.rec_some hs
      simp only [Option.some.injEq, Prod.mk.injEq] at hs
      obtain ⟨rfl, rfl, rfl⟩ := hs
      obtain ⟨e, ao, n', cap, h1, h2, h3, rfl⟩ := hr
      have := rowRel_cells (arr_row (h.roots q _ _ hl h1)) h2 h3 (of_ble hkn)
      rwa [tabF_take _ _ _ _ _ (of_ble hkn)] at this
  · simp at hs
theorem srcA_cells (h : R T N av0 w0 sp s a w E) {c : C} {vs : Value} {sz k : Nat} {get : Nat → Nat → I} (hs : srcA sz s.rs c = some (k, get)) (hr : CRel E (AV av0 s.rs E) w c vs) :
    ∃ ao cap, vs = .slice ao k cap ∧ (ao = none → k = 0) ∧ ∃ news : List Value, news.length = k * sz ∧ (∀ ad, ao = some ad → ∀ j u, news[j]? = some u → w.cell? (ad.add j) = some u) ∧ (∀ u ∈ news, u.oneCell' = true) ∧
      (∀ i, i < k → ∀ j, j < sz → ∃ x, news[i * sz + j]? = some x ∧ IRel (AV av0 s.rs E) w (get i j) x) := by
  have fin : ∀ {l' : List C}, srcF s.rs c = some (sz, k, l') → (∀ i, i < k → ∀ j, j < sz → l'[i * sz + j]? = some (.im (get i j))) → ∃ ao cap, vs = .slice ao k cap ∧ (ao = none → k = 0) ∧ ∃ news : List Value, news.length = k * sz ∧ (∀ ad, ao = some ad → ∀ j u, news[j]? = some u → w.cell? (ad.add j) = some u) ∧ (∀ u ∈ news, u.oneCell' = true) ∧
      (∀ i, i < k → ∀ j, j < sz → ∃ x, news[i * sz + j]? = some x ∧ IRel (AV av0 s.rs E) w (get i j) x) := by
    intro l' h1 h2
    obtain ⟨ao, cap, q1, q2, news, q3, q4, q5, q6⟩ := srcF_cells h h1 hr
    refine ⟨ao, cap, q1, q2, news, q3, q4, q5, fun i hi j hj => ?_⟩
    obtain ⟨x, q7, q8⟩ := q6.nth (i := i * sz + j) (x := .im (get i j)) (by rw [nth_eq]; exact h2 i hi j hj)
    exact ⟨x, q7, q8⟩
  have tab : ∀ (n : Nat) (g : Nat → Nat → I), ∀ i, i < n → ∀ j, j < sz → (tabF g sz 0 n)[i * sz + j]? = some (.im (g i j)) := fun n g i hi j hj => by
    have := tabF_get g sz n 0 i j hi hj
    rwa [Nat.zero_add] at this
  unfold srcA at hs
  split at hs
  · rename_i sz' k' get'
    replace hs := Bool.rec_some hs
    obtain ⟨h1, h2⟩ := hs
    have h1 := of_beq h1
    subst h1
    simp only [Option.some.injEq, Prod.mk.injEq] at h2
    obtain ⟨rfl, rfl⟩ := h2
    exact fin (l' := tabF get' sz' 0 k') rfl (tab _ _)
  · obtain ⟨rfl, _⟩ := hr
    simp only [Option.some.injEq, Prod.mk.injEq] at hs
    obtain ⟨rfl, rfl⟩ := hs
    exact ⟨none, 0, rfl, fun _ => rfl, [], by simp, fun _ q => (by cases q), fun _ q => (by cases q), fun i hi => by omega⟩
  · rename_i q k'
    split at hs
    case h_3 => simp at hs
    · rename_i el sz' n l hl
      obtain ⟨h1, hs⟩ := Bool.rec_some hs
      simp only [Bool.and_eq_true] at h1
      have h2 := of_beq h1.2
      subst h2
      split at hs
      case h_2 => simp at hs
      rename_i l2 hl2
      split at hs
      case h_2 => simp at hs
      rename_i is his
      simp only [Option.some.injEq, Prod.mk.injEq] at hs
      obtain ⟨rfl, rfl⟩ := hs
      refine fin (l' := l2) (by simp only [srcF, hl, h1.1, hl2]) fun i hi j hj => ?_
      have him := imm_eq his
      obtain ⟨rfl, hlen⟩ := takeN_eq _ _ _ hl2
      have hlt : i * sz' + j < k' * sz' := by
        have := Nat.mul_le_mul_right sz' (show i + 1 ≤ k' by omega)
        rw [Nat.add_mul, Nat.one_mul] at this
        omega
      have hil : is.length = k' * sz' := by rw [← lift_length, ← him, List.length_take]; omega
      rw [him]
      exact lift_getL (by rw [hil]; exact hlt)
    · rename_i el sz' n get' hl
      replace hs := Bool.rec_some hs
      obtain ⟨h1, h3⟩ := hs
      have h1 := of_beq h1
      subst h1
      obtain ⟨h2, h4⟩ := Bool.rec_some h3
      simp only [Option.some.injEq, Prod.mk.injEq] at h4
      obtain ⟨rfl, rfl⟩ := h4
      exact fin (l' := tabF get' sz' 0 k') (by simp only [srcF, hl, h2]) (tab _ _)
  · simp at hs
theorem append_nil_run {t el : TypeId} {y0 y : Ty} (hy0 : TyFact P t y0) (hk : y0.kd = .slice el) (hy : TyFact P el y) (ao : Option Addr) (cap : Nat) (ty : TypeId) :
    (Builtin.append_ #[t, t] ty #[.slice none 0 0, .slice ao 0 cap]).run P w = .ok (.slice none 0 0) w := by
  obtain ⟨i, hi, _⟩ := hy.full
  cases ao <;> simp [Builtin.append_, run_underlying (hy0.slice hk), sizeOf, typeInfo, hi, Builtin.lenOf, Builtin.firstCells, loadCells, loadCellsFrom]
theorem apd_sound (h : R T N av0 w0 sp s a w E) {b : Nat} (hf : Free s E b) {t el : TypeId} {y0 y : Ty} (hy0 : TyFact P t y0) (hk : y0.kd = .slice el) (hy : TyFact P el y) (hpos : 0 < y.size)
    {k : Nat} {l' : List C} {c : C} {v : Value} (hc : CRel E (AV av0 s.rs E) w c v) {ao : Option Addr} {cap : Nat} (hno : ao = none → k = 0) {news : List Value} (hl : news.length = k * y.size)
    (hcell : ∀ ad, ao = some ad → ∀ j u, news[j]? = some u → w.cell? (ad.add j) = some u) (h1 : ∀ u ∈ news, u.oneCell' = true) (hrel : All2 (CRel E (AV av0 s.rs E) w) l' news)
    {e : Eff} (ef : apd el y.size k l' y.bytes b s.rs c = some e) (ty : TypeId) :
    ∃ v' w' E', (Builtin.append_ #[t, t] ty #[v, .slice ao k cap]).run P w = .ok v' w' ∧ After T N av0 w0 sp s a w E b e v' w' E' := by
  unfold apd at ef
  split at ef
  · obtain ⟨rfl, _⟩ := hc
    split at ef
    · simp only [Option.some.injEq] at ef
      subst ef
      refine ⟨_, w, E, append_nil_run hy0 hk hy ao cap ty, Grew.refl _ _, h, fun d hd => ?_⟩
      simp only [effD, Option.some.injEq] at hd
      subst hd
      exact ⟨rfl, rfl⟩
    · obtain ⟨hroom, ef⟩ := Bool.rec_some ef
      simp only [Option.some.injEq] at ef
      subst ef
      rename_i k
      simp only [roomB, Bool.and_eq_true] at hroom
      have hroom : room (k + 1) y.bytes := ⟨of_ble hroom.1, of_ble hroom.2⟩
      obtain ⟨v', w', q1, q2, q3, q4⟩ := run_append_both hy0 hk hy hpos (w.ownsRow_nil w0.base el y.size) h.size_le hno hl hcell h1 (by simpa using hroom) ty
      simp only [Nat.zero_add, List.nil_append] at q2
      obtain ⟨E', h4, h5, h6⟩ := h.makeRow hf (dead := none) (row := none) (n := k + 1) (l := l') q3 q2 (fun k hk => by cases hk) (fun k hk => by
        rcases q4 k hk with q5 | q5
        · simp [Value.ownBlock] at q5
        · exact .inr q5) hrel
      refine ⟨v', w', E', q1, h5, h4, fun d hd => ?_⟩
      simp only [effD, Option.some.injEq] at hd
      subst hd
      exact h6
  · rename_i r m
    split at ef
    case h_2 => simp at ef
    rename_i el' sz' n l hlr
    rw [nthF_eq, nth_eq] at hlr
    obtain ⟨he, ef⟩ := Bool.rec_some ef
    obtain ⟨hroom, ef⟩ := Bool.rec_some ef
    simp only [Option.some.injEq] at ef
    subst ef
    simp only [Bool.and_eq_true] at he hroom
    have he1 := of_beq he.1
    have he2 := of_beq he.2
    subst he1 he2
    have hmn := of_beq hroom.1
    subst hmn
    have hroom := hroom.2
    simp only [roomB, Bool.and_eq_true] at hroom
    have hroom : room (m + k) y.bytes := ⟨of_ble hroom.1, of_ble hroom.2⟩
    obtain ⟨e', a', n', cap', h2, h3, h4, rfl⟩ := hc
    obtain ⟨q1, q2, xs, q3, q4⟩ := h.roots r _ _ hlr h2
    have hn' : n' = m := by
      rcases q3.2 with ⟨q5, q6⟩ | ⟨g, cap2, cur, q5, _⟩
      · rw [h3] at q5; simp only [Value.slice.injEq] at q5; omega
      · rw [h3] at q5; simp only [Value.slice.injEq] at q5; omega
    subst hn'
    rw [← h3]
    obtain ⟨v', w', p1, p2, p3, p4⟩ := run_append_both hy0 hk hy hpos q3 h.size_le hno hl hcell h1 hroom ty
    have hat : ∀ b, e'.2.1.ownBlock = some b → atRoot E r b e'.2.2 := by
      intro b hb
      obtain ⟨e1, e2, e3⟩ := e'
      have q2 : e1 = e2.ownBlock := q2
      have hb : e2.ownBlock = some b := hb
      rw [hb] at q2
      subst q2
      exact ⟨e2, h2⟩
    obtain ⟨E', h5, h6, h7⟩ := h.makeRow hf (dead := some r) (row := e'.2.1.ownBlock) (n := n' + k) (l := l ++ l') p3 p2 (fun b hb => ⟨r, _, _, rfl, hlr, trivial, hat b hb⟩) (fun b hb => p4 b hb) (q4.append hrel)
    have hkill : kill (some r) s.rs = setAt s.rs r .dead := by rw [setAt_eq]; rfl
    rw [hkill] at h5 h7
    refine ⟨v', w', E', p1, h6, h5, fun d hd => ?_⟩
    simp only [effD, Option.some.injEq] at hd
    subst hd
    exact h7
  · simp at ef
theorem apdA_sound (h : R T N av0 w0 sp s a w E) {b : Nat} (hf : Free s E b) {t el : TypeId} {y0 y : Ty} (hy0 : TyFact P t y0) (hk : y0.kd = .slice el) (hy : TyFact P el y) (hpos : 0 < y.size)
    {k : Nat} {get' : Nat → Nat → I} {c : C} {v : Value} (hc : CRel E (AV av0 s.rs E) w c v) {ao : Option Addr} {cap : Nat} (hno : ao = none → k = 0) {news : List Value} (hl : news.length = k * y.size)
    (hcell : ∀ ad, ao = some ad → ∀ j u, news[j]? = some u → w.cell? (ad.add j) = some u) (h1 : ∀ u ∈ news, u.oneCell' = true) (hrel : ∀ i, i < k → ∀ j, j < y.size → ∃ x, news[i * y.size + j]? = some x ∧ IRel (AV av0 s.rs E) w (get' i j) x)
    {e : Eff} (ef : apdA el y.size k get' y.bytes b s.rs c = some e) (ty : TypeId) :
    ∃ v' w' E', (Builtin.append_ #[t, t] ty #[v, .slice ao k cap]).run P w = .ok v' w' ∧ After T N av0 w0 sp s a w E b e v' w' E' := by
  unfold apdA at ef
  split at ef
  · obtain ⟨rfl, _⟩ := hc
    obtain ⟨hroom, ef⟩ := Bool.rec_some ef
    simp only [Option.some.injEq] at ef
    subst ef
    simp only [roomB, Bool.and_eq_true] at hroom
    have hroom : room k y.bytes := ⟨of_ble hroom.1, of_ble hroom.2⟩
    obtain ⟨v', w', q1, q2, q3, q4⟩ := run_append_both hy0 hk hy hpos (w.ownsRow_nil w0.base el y.size) h.size_le hno hl hcell h1 (by simpa using hroom) ty
    simp only [Nat.zero_add, List.nil_append] at q2
    obtain ⟨E', h4, h5, h6⟩ := h.makeArr hf (dead := none) (row := none) (n := k) (get := get') q3 q2 (fun k hk => by cases hk) (fun k hk => by
      rcases q4 k hk with q5 | q5
      · simp [Value.ownBlock] at q5
      · exact .inr q5) hrel
    refine ⟨v', w', E', q1, h5, h4, fun d hd => ?_⟩
    simp only [effD, Option.some.injEq] at hd
    subst hd
    exact h6
  · rename_i r m
    split at ef
    case h_2 => simp at ef
    rename_i el' sz' n get hlr
    rw [nthF_eq, nth_eq] at hlr
    obtain ⟨he, ef⟩ := Bool.rec_some ef
    obtain ⟨hroom, ef⟩ := Bool.rec_some ef
    obtain ⟨hmn, ef⟩ := Bool.rec_some ef
    simp only [Option.some.injEq] at ef
    subst ef
    simp only [Bool.and_eq_true] at he
    have he1 := of_beq he.1
    have he2 := of_beq he.2
    subst he1 he2
    have hmn := of_beq hmn
    subst hmn
    simp only [roomB, Bool.and_eq_true] at hroom
    have hroom : room (m + k) y.bytes := ⟨of_ble hroom.1, of_ble hroom.2⟩
    obtain ⟨e', a', n', cap', h2, h3, h4, rfl⟩ := hc
    obtain ⟨q1, q2, xs, q3, q4⟩ := h.roots r _ _ hlr h2
    have hn' : n' = m := by
      rcases q3.2 with ⟨q5, q6⟩ | ⟨g, cap2, cur, q5, _⟩
      · rw [h3] at q5; simp only [Value.slice.injEq] at q5; omega
      · rw [h3] at q5; simp only [Value.slice.injEq] at q5; omega
    subst hn'
    rw [← h3]
    obtain ⟨v', w', p1, p2, p3, p4⟩ := run_append_both hy0 hk hy hpos q3 h.size_le hno hl hcell h1 hroom ty
    have hat : ∀ b, e'.2.1.ownBlock = some b → atRoot E r b e'.2.2 := by
      intro b hb
      obtain ⟨e1, e2, e3⟩ := e'
      have q2 : e1 = e2.ownBlock := q2
      have hb : e2.ownBlock = some b := hb
      rw [hb] at q2
      subst q2
      exact ⟨e2, h2⟩
    obtain ⟨E', h5, h6, h7⟩ := h.makeArr hf (dead := some r) (row := e'.2.1.ownBlock) (n := n' + k) (get := appA n' get get') p3 p2 (fun b hb => ⟨r, _, _, rfl, hlr, trivial, hat b hb⟩) (fun b hb => p4 b hb) (fun i hi j hj => by
      have hxl := q3.1
      rw [appA_eq]
      unfold app
      by_cases hin : i < n'
      · obtain ⟨x, g1, g2⟩ := q4 i hin j hj
        refine ⟨x, ?_, by rw [if_pos hin]; exact g2⟩
        rw [List.getElem?_append_left (List.getElem?_eq_some_iff.1 g1).1]
        exact g1
      · obtain ⟨x, g1, g2⟩ := hrel (i - n') (by omega) j hj
        refine ⟨x, ?_, by rw [if_neg hin]; exact g2⟩
        have e1 : i * y.size + j = n' * y.size + ((i - n') * y.size + j) := by
          have : i * y.size = n' * y.size + (i - n') * y.size := by rw [← Nat.add_mul]; congr 1; omega
          omega
        rw [List.getElem?_append_right (by rw [hxl, e1]; omega), hxl, e1, Nat.add_sub_cancel_left]
        exact g1)
    have hkill : kill (some r) s.rs = setAt s.rs r .dead := by rw [setAt_eq]; rfl
    rw [hkill] at h5 h7
    refine ⟨v', w', E', p1, h6, h5, fun d hd => ?_⟩
    simp only [effD, Option.some.injEq] at hd
    subst hd
    exact h7
  · simp at ef
theorem appF_sound (hty : TyOK P T) (h : R T N av0 w0 sp s a w E) (hn : NilS s.sl) {b : Nat} (hf : Free s E b) {ts : List TypeId} {xs : List Operand} {e : Eff} (ef : appF T b s ts xs = some e) (ty : TypeId) :
    (∃ l, e = .cold l) ∨ ∃ v' w' E', (Builtin.append_ ts.toArray ty (xs.map a.eval).toArray).run P w = .ok v' w' ∧ After T N av0 w0 sp s a w E b e v' w' E' := by
  unfold appF at ef
  split at ef
  case h_2 => simp at ef
  rename_i t t' x y'
  replace ef := Bool.rec_some ef
  obtain ⟨ht, ef⟩ := ef
  have ht := of_beq ht
  subst ht
  split at ef
  case h_2 => simp at ef
  rename_i sz0 by0 z0 el hy0
  have hy0 := hty.ty _ _ hy0
  split at ef
  · rename_i e' he'
    subst ef
    unfold apdT at he'
    split at he'
    case h_2 => simp at he'
    rename_i c src hc hsrc
    split at he'
    case h_2 => simp at he'
    split at he'
    case h_2 => simp at he'
    rename_i y hy
    have hy := hty.ty _ _ hy
    simp only [Option.some.injEq] at he'
    unfold apdG at he'
    have hc := h.evF hn (cellF_some hc)
    have hsrc := h.evF hn (cellF_some hsrc)
    split at he'
    · rename_i k get' hs
      obtain ⟨hpos, he'⟩ := Bool.rec_some he'
      obtain ⟨ao, cap, hv2, hno, news, hl, hcell, h1, hrel⟩ := srcA_cells h hs hsrc
      simp only [List.map_cons, List.map_nil]
      rw [hv2]
      exact .inr (apdA_sound h hf hy0 rfl hy (toNat_of_blt hpos) hc hno hl hcell h1 hrel he' ty)
    · unfold coldC at he'
      split at he'
      · simp only [Option.some.injEq] at he'
        exact .inl ⟨_, he'.symm⟩
      · simp at he'
  refine .inr ?_
  unfold apdF at ef
  split at ef
  case h_2 => simp at ef
  rename_i y hy
  have hy := hty.ty _ _ hy
  split at ef
  case h_2 => simp at ef
  rename_i src hsrc
  have hsrc := h.evF hn (cellF_some hsrc)
  split at ef
  case h_2 => simp at ef
  rename_i sz k l' hs
  obtain ⟨ao, cap, hv2, hno, news, hl, hcell, h1, hrel⟩ := srcF_cells h hs hsrc
  split at ef
  case h_2 => simp at ef
  rename_i c hc
  have hc := h.evF hn (cellF_some hc)
  simp only [List.map_cons, List.map_nil]
  rw [hv2]
  split at ef
  · -- nothing comes
    have hnews : news = [] := List.eq_nil_of_length_eq_zero (by simpa using hl)
    subst hnews
    replace ef := Bool.rec_some ef
    obtain ⟨hpos, ef⟩ := ef
    exact apd_sound h hf hy0 rfl hy (toNat_of_blt hpos) hc hno (by simp) (fun _ _ j u hj => by simp at hj) (fun u hu => by cases hu) .nil ef ty
  · replace ef := Bool.rec_some ef
    obtain ⟨hsz, ef⟩ := ef
    simp only [Bool.and_eq_true] at hsz
    have hsz1 := of_beq hsz.1
    subst hsz1
    exact apd_sound h hf hy0 rfl hy (toNat_of_blt hsz.2) hc hno hl hcell h1 hrel ef ty
end
noncomputable section
def depsM (acc : List Nat) (l : List Edge) : Nat → Nat := List.rec (fun m => m) (fun e _ ih m => Bool.rec (ih m) (ih (Nat.lor (Nat.lor (Nat.shiftLeft 1 e.on) m) (match nthF acc e.on with
  | some x => x
  | none => 0))) (Region.binds .any e)) l
def ancsM (l : List Oper) : List Nat → List Nat := List.rec (fun acc => acc) (fun o _ ih acc => ih (acc ++ [depsM acc o.after.toList 0])) l
def dstAt (t : Tmp) (l : List Oper) : Nat → Option Nat := List.rec (fun _ => none) (fun o _ ih k => match o.dst with
  | some t' => Bool.rec (ih (k + 1)) (some k) (Nat.beq t t')
  | none => ih (k + 1)) l
def readT (ops : List Oper) (m : Nat) (t : Tmp) : Bool := match dstAt t ops 0 with
  | some j => Nat.testBit m j
  | none => true
def readB (ops : List Oper) (m : Nat) (l : List Operand) : Bool := List.rec true (fun x _ ih => match x with
  | .tmp t => Bool.rec false ih (readT ops m t)
  | _ => ih) l
def guardB (m : Nat) (g : Option (Nat × Bool)) : Bool := match g with
  | some (j, _) => Nat.testBit m j
  | none => true
def orderB (ops l : List Oper) : List Nat → Bool := List.rec (fun _ => true) (fun o _ ih ms => match ms with
  | m :: ms => Bool.rec false (ih ms) (guardB m o.guard && readB ops m o.op.operands.toList)
  | [] => false) l
def newDst (t : Tmp) (l : List Oper) : Bool := match dstAt t l 0 with
  | some _ => false
  | none => true
def distB (l : List Oper) : Bool := List.rec true (fun o l ih => match o.dst with
  | some t => Bool.rec false ih (newDst t l)
  | none => ih) l
def belowB (l : List Nat) : Nat → Bool := List.rec (fun _ => true) (fun m _ ih i => Bool.rec false (ih (i + 1)) (Nat.blt m (Nat.shiftLeft 1 i))) l
def staticB (ops : List Oper) : Bool := distB ops && (orderB ops ops (ancsM ops []) && belowB (ancsM ops []) 0)
def makesC (c : Callee) : Nat := match c with
  | .builtin .append => 1
  | .value _ => 1
  | _ => 0
def makesN (op : Op) : Nat := match op with
  | .box _ _ => 1
  | .alloc _ => 1
  | .buildSlice _ _ _ => 1
  | .makeMap _ _ => 1
  | .makeSlice _ _ _ => 1
  | .call c => makesC c.callee
  | _ => 0
def holesN (l : List Oper) : Nat := List.rec 0 (fun o _ ih => makesN o.op + ih) l
structure Upd where
  dst : Option Tmp
  val : Option D
  ws : List (Nat × Root)
  al : Option (List Root)
  ex : Bool := false   -- reckoned with all roots at hand, none hidden
def putU (s : VS) (dst : Option Tmp) (d : Option D) : VS := match dst with
  | some t => match d with
    | some d => { s with sl := (t, d, []) :: s.sl }
    | none => s
  | none => s
def allR (al : Option (List Root)) (rs : List Root) : List Root := match al with
  | some rs' => rs'
  | none => rs
def Upd.on (u : Upd) (s : VS) : VS := putU { s with rs := writes u.ws (allR u.al s.rs) } u.dst u.val
def okT (N : Nat) (dst : Option Tmp) (d : Option D) : Bool := match dst with
  | some t => match d with
    | some _ => Nat.blt t N
    | none => false
  | none => true
inductive Fst where
  | cold (l : List Nat)
  | ok (u : Upd)
def compB (i m : Nat) (ancs : List Nat) : Nat → Bool := List.rec (fun _ => true) (fun x _ ih k => Bool.rec false (ih (k + 1)) (Nat.beq k i || (Nat.testBit m k || Nat.testBit x i))) ancs
def barB (ancs : List Nat) (i : Nat) : Bool := match nthF ancs i with
  | some m => compB i m ancs 0
  | none => false
def eqV (x y : Value) : Bool := match x, y with
  | .int .i64 a, .int .i64 b => a == b
  | .bool a, .bool b => beqB a b
  | _, _ => false
def eqC1 (x y : C) : Bool := match x, y with
  | .im (.v a), .im (.v b) => eqV a b
  | .rt r i j, .rt r' i' j' => Nat.beq r r' && (Nat.beq i i' && Nat.beq j j')
  | .sa r m, .sa r' m' => Nat.beq r r' && Nat.beq m m'
  | .mp r, .mp r' => Nat.beq r r'
  | _, _ => false
def eqCs (l : List C) : List C → Bool := List.rec (fun m => match m with
  | [] => true
  | _ => false) (fun x _ ih m => match m with
  | y :: m => Bool.rec false (ih m) (eqC1 x y)
  | [] => false) l
def eqR1 (x y : Root) : Bool := match x, y with
  | .dead, .dead => true
  | .box l, .box m => eqCs l m
  | _, _ => false
def allLt (n : Nat) (l : List Nat) : Bool := List.rec true (fun r _ ih => Bool.rec false ih (Nat.blt r n)) l
def lowC (n : Nat) (x : C) : Bool := match x with
  | .im _ => true
  | .rt r _ _ => Nat.blt r n
  | .sa r _ => Nat.blt r n
  | .mp r => Nat.blt r n
  | .yl r => Nat.blt r n
  | .clo _ l => allLt n l
def lowCs (n : Nat) (l : List C) : Bool := List.rec true (fun x _ ih => Bool.rec false ih (lowC n x)) l
def lowR (n : Nat) (x : Root) : Bool := match x with
  | .dead => true
  | .box l => lowCs n l
  | .row _ _ _ l => lowCs n l
  | .arr _ _ _ _ => true
  | .set _ => true
  | .dfr => true
  | _ => false
def lowT (n : Nat) (l : List (Bool × List C)) : Bool := List.rec true (fun x _ ih => Bool.rec false ih (lowCs n x.2)) l
def lowD (n : Nat) (d : D) : Bool := match d with
  | .c x => lowC n x
  | .a l => lowCs n l
  | .t l => lowT n l
def diffW (n : Nat) (rs : List Root) : List Root → Nat → Option (List (Nat × Root)) := List.rec (fun _ _ => some []) (fun x _ ih rs' k => match rs' with
  | y :: rs' => Bool.rec (Bool.rec none (match ih rs' (k + 1) with
    | some ws => some ((k, y) :: ws)
    | none => none) (lowR n y)) (ih rs' (k + 1)) (eqR1 x y)
  | [] => none) rs
def allU (lo : Lo) (dst : Option Tmp) (d : D) (rs rs' : List Root) : Option Fst := match lo.diff rs rs' with
  | some ws => Bool.rec none (some (.ok ⟨dst, some d, ws, none, true⟩)) (lowD rs.length d)
  | none => none
def updE (lo : Lo) (rs : List Root) (ancs : List Nat) (i : Nat) (dst : Option Tmp) (e : Option Eff) : Option Fst := match e with
  | some (.val d) => some (.ok ⟨dst, some d, [], none, false⟩)
  | some (.wr d ws) => some (.ok ⟨dst, d, ws, none, false⟩)
  | some (.cold l) => some (.cold l)
  | some (.all d rs') => Bool.rec (allU lo dst d rs rs') (some (.ok ⟨dst, some d, [], some rs', false⟩)) (barB ancs i)
  | none => none
def evalU (T : Tab) (lo : Lo) (hi : Hint) (ancs : List Nat) (i b : Nat) (ops : List Oper) (s : VS) (o : Oper) : Option Fst := match wantF ops s.sl o.guard with
  | some true => updE lo s.rs ancs i o.dst (effO T lo hi b s o.dst o.op)
  | some false => some (.ok ⟨o.dst, some (.t []), [], none, false⟩)
  | none => none
inductive Run1 where
  | cold (l : List Nat)
  | ok (W : List (Nat × List Nat)) (s : VS)
def addW (k : Nat) (u : Upd) (W : List (Nat × List Nat)) : List (Nat × List Nat) := match u.ws with
  | [] => W
  | ws => W ++ [(k, ws.map (·.1))]
def firstF (T : Tab) (lo : Lo) (hi : Hint) (N : Nat) (ancs : List Nat) (ops l : List Oper) : Nat → Nat → List (Nat × List Nat) → VS → Option Run1 := List.rec (fun _ _ W s => some (.ok W s)) (fun o _ ih k b W s =>
  match evalU T lo hi ancs k b ops s o with
  | some (.ok u) => Bool.rec none (ih (k + 1) (b + makesN o.op) (addW k u W) (u.on s)) (okT N u.dst u.val)
  | some (.cold c) => some (.cold c)
  | none => none) l
def freeR (ancs : List Nat) (i m : Nat) (W : List (Nat × List Nat)) : List Nat := List.rec [] (fun w _ ih =>
  Bool.rec (w.2 ++ ih) ih (Nat.beq w.1 i || (Nat.testBit m w.1 || (match nthF ancs w.1 with
    | some x => Nat.testBit x i
    | none => false)))) W
def hides (l : List Nat) (rs : List Root) : List Root := List.rec (fun rs => rs) (fun q _ ih rs => ih (setAt rs q .dead)) l rs
def memN (n : Nat) (l : List Nat) : Bool := List.rec false (fun x _ ih => Bool.rec ih true (Nat.beq x n)) l
def apartN (l m : List Nat) : Bool := List.rec true (fun x _ ih => Bool.rec ih false (memN x m)) l
def wroteF (k : Nat) (W : List (Nat × List Nat)) : List Nat := match findF k W with
  | some l => l
  | none => []
def subN (l m : List Nat) : Bool := List.rec true (fun x _ ih => Bool.rec false ih (memN x m)) l
def hid (l : List Nat) (s : VS) : VS := match l with
  | [] => s
  | _ => { s with rs := hides l s.rs }
def exB (ex : Bool) (l : List Nat) : Bool := match ex with
  | false => true
  | true => match l with
    | [] => true
    | _ => false
def secondF (T : Tab) (lo : Lo) (hi : Hint) (N : Nat) (ops : List Oper) (ancs : List Nat) (W : List (Nat × List Nat)) (l : List Oper) : List Nat → Nat → Nat → VS → Option VS := List.rec (fun _ _ _ s => some s) (fun o _ ih ms i b s =>
  match ms with
  | m :: ms => match evalU T lo hi ancs i b ops (hid (freeR ancs i m W) s) o with
    | some (.ok u) => Bool.rec none (ih ms (i + 1) (b + makesN o.op) (u.on s)) (okT N u.dst u.val && (subN (u.ws.map (·.1)) (wroteF i W) && (apartN (u.ws.map (·.1)) (freeR ancs i m W) && exB u.ex (freeR ancs i m W))))
    | _ => none
  | [] => none) l
def startF (ops : List Oper) (s : VS) : VS := { s with rs := s.rs ++ List.replicate (holesN ops) .dead }
def drawW (T : Tab) (lo : Lo) (hi : Hint) (N : Nat) (ops : List Oper) (s0 s' : VS) (b : Nat) (W : List (Nat × List Nat)) : Option VS := match W with
  | [] => some s'
  | _ => secondF T lo hi N ops (ancsM ops []) W ops (ancsM ops []) 0 b s0
def drawF (T : Tab) (lo : Lo) (hi : Hint) (N : Nat) (ops : List Oper) (n : Nat) : VS → Option VS := Nat.rec (fun _ => none) (fun _ ih s =>
  match firstF T lo hi N (ancsM ops []) ops ops 0 s.rs.length [] (startF ops s) with
  | some (.cold l) => match freezes l s with
    | some s' => ih s'
    | none => none
  | some (.ok W s') => drawW T lo hi N ops (startF ops s) s' s.rs.length W
  | none => none) n
def tidyF (hi : Hint) (f : FuncId) (id : Nat) (s : VS) : VS := match hi.keep f id with
  | some l => { s with sl := keepS s.sl l }
  | none => s
def regionF (T : Tab) (lo : Lo) (hi : Hint) (N : Nat) (f : FuncId) (ro : Option Nat) (id : Nat) (ops : List Oper) (draw : Bool) (s : VS) : Option VS := match draw with
  | false => match opsF T lo hi N ops ops s with
    | some s' => some (tidyF hi f id s')
    | none => none
  | true => match ro with
    | some _ => none
    | none => match staticB ops with
      | true => match drawF T lo hi N ops 8 s with
        | some s' => some (tidyF hi f id s')
        | none => none
      | false => none
def beginF (ro : Option Nat) (s : VS) : Option VS := match ro with
  | some r => match nthF s.rs r with
    | some (.loop g M sl ps as bd .ready none) => some { s with rs := setAt s.rs r (.loop g M sl ps as bd .busy none) }
    | _ => none
  | none => none
def rangeF (lo : Lo) (N : Nat) (f : FuncId) (ro : Option Nat) (g : Operand) (ps : List Tmp) (as b : Code) (s : VS) : Option (Option Code × VS) := match ro with
  | some _ => none
  | none => match cellF (evF s.sl g) with
    | some c => match calleeC c with
      | some (h, caps) => match lo.call h (.c (.yl (s.rs.length + 1)) :: caps) (s.rs ++ [.dfr, .loop f N s.sl ps as b .ready none]) with
        | some (_, rs') => match nthF rs' (s.rs.length + 1) with
          | some (.loop _ _ _ _ _ _ .ready none) => some (none, { s with rs := setAt rs' (s.rs.length + 1) .dead, df := s.rs.length :: s.df })
          | some (.loop _ _ _ _ _ _ .done (some c)) => some (some c, { s with rs := setAt rs' (s.rs.length + 1) .dead, df := s.rs.length :: s.df })
          | _ => none
        | none => none
      | none => none
    | none => none
def jumpF (j : Option Code) (k : List Item) : List Item := match j with
  | some c => .code c :: k
  | none => k
def runF (T : Tab) (lo : Lo) (hi : Hint) (N : Nat) (f : FuncId) (ro : Option Nat) (n : Nat) : List Item → VS → Option (Option Code × VS) := Nat.rec (fun _ _ => none) (fun _ ih todo s => match todo with
  | [] => some (none, s)
  | x :: k => match x with
    | .inBlock _ => ih k s
    | .inLoop c => ih (.code c :: .inLoop c :: k) s
    | .beginRound => match beginF ro s with
      | some s' => ih k s'
      | none => none
    | .code c => match c with
      | .skip => ih k s
      | .label _ => ih k s
      | .ret => some (some .ret, s)
      | .seq a b => ih (.code a :: .code b :: k) s
      | .cond c a b => match boolF (evF s.sl c) with
        | some p => ih (.code (Bool.rec b a p) :: k) s
        | none => none
      | .block id c => ih (.code c :: .inBlock id :: k) s
      | .loop c => ih (.code c :: .inLoop c :: k) s
      | .exit id => match exitTo id k with
        | some k' => ih k' s
        | none => some (some (.exit id), s)
      | .region id ops draw => match regionF T lo hi N f ro id ops.toList draw s with
        | some s' => ih k s'
        | none => none
      | .rangeFunc g ps as b => match rangeF lo N f ro g ps.toList as b s with
        | some (j, s') => ih (jumpF j k) s'
        | none => none
      | _ => none
    | _ => none) n
def takeF (l : List Nat) : List Root → Option (List Root) := List.rec (fun rs => some rs) (fun r _ ih rs => match nthF rs r with
  | some .dfr => ih (setAt rs r .dead)
  | _ => none) l
def resOneF (T : Tab) (s : VS) (x : ResultVar) : Option (Bool × List C) := match (match x with
    | .tmp t => lookF s.sl t
    | .cell ad t => loadF T s t (.tmp ad)) with
  | some (.c x) => some (false, [x])
  | some (.a l) => some (true, l)
  | _ => none
def resAllF (T : Tab) (s : VS) (l : List ResultVar) : Option (List (Bool × List C)) := List.rec (some []) (fun x _ ih => match resOneF T s x, ih with
  | some q, some l => some (q :: l)
  | _, _ => none) l
def resF (T : Tab) (s : VS) (l : List ResultVar) : Option D := match resAllF T s l with
  | some [(false, [x])] => some (.c x)
  | some [(true, l)] => some (.a l)
  | some l => some (.t l)
  | none => none
def endF (T : Tab) (s : VS) (l : List ResultVar) : Option (D × List Root) := match takeF s.df s.rs with
  | some rs => match resF T { s with rs := rs } l with
    | some d => some (d, rs)
    | none => none
  | none => none
def retB (j : Option Code) : Bool := match j with
  | none => true
  | some .ret => true
  | _ => false
def setP (N : Nat) (ps : List Tmp) : List D → Slots → Option Slots := List.rec (fun ds sl => match ds with
  | [] => some sl
  | _ => none) (fun t _ ih ds sl => match ds with
  | d :: ds => Bool.rec none (ih ds ((t, d, []) :: sl)) (Nat.blt t N)
  | [] => none) ps
def bodyS (T : Tab) (hi : Hint) (F : FuncId → Option Func) (fuel : Nat) (lo : Lo) (f : FuncId) (ds : List D) (rs : List Root) : Option (D × List Root) := match F f with
  | some fn => match fn.body with
    | some c => Bool.rec none (match runF T lo hi fn.ntmps f none fuel [.code c] ⟨argSlots 0 ds, rs, []⟩ with
      | some (j, s) => Bool.rec none (endF T s fn.results.toList) (retB j)
      | none => none) (Nat.ble ds.length fn.ntmps)
    | none => none
  | none => none
def callS (T : Tab) (hi : Hint) (F : FuncId → Option Func) (Kn : FuncId → Option D) (fuel : Nat) (lo : Lo) (f : FuncId) (ds : List D) (rs : List Root) : Option (D × List Root) := match Kn f with
  | some d => match ds with
    | [] => some (d, rs)
    | _ => none
  | none => bodyS T hi F fuel lo f ds rs
def roundF (r : Nat) (j : Option Code) (s : VS) : Option (D × List Root) := match s.df with
  | [] => match nthF s.rs r with
    | some (.loop f N sl ps as bd .busy none) => match j with
      | none => some (bool true, setAt s.rs r (.loop f N sl ps as bd .ready none))
      | some c => some (bool false, setAt s.rs r (.loop f N sl ps as bd .done (some c)))
    | _ => none
  | _ => none
def yldS (T : Tab) (hi : Hint) (fuel : Nat) (lo : Lo) (r : Nat) (ds : List D) (rs : List Root) : Option (D × List Root) := match nthF rs r with
  | some (.loop f N sl ps as bd .ready none) => match setP N ps ds sl with
    | some sl => match runF T lo hi N f (some r) fuel [.code as, .beginRound, .code bd] ⟨sl, rs, []⟩ with
      | some (j, s) => roundF r j s
      | none => none
    | none => none
  | _ => none
def loN (T : Tab) (hi : Hint) (F : FuncId → Option Func) (Kn : FuncId → Option D) (fuel : Nat) (n : Nat) : Lo := Nat.rec ⟨fun _ _ _ => none, fun _ _ _ => none, fun rs rs' => diffW rs.length rs rs' 0, fun _ _ _ => none⟩ (fun _ ih => ⟨callS T hi F Kn fuel ih, yldS T hi fuel ih, fun rs rs' => diffW rs.length rs rs' 0, fun _ _ _ => none⟩) n
end
open Go.RowKit
structure Kept (E E' : Env) : Prop where
  le : Env.le E E'
  free : ∀ q : Nat, E[q]? = some hole → E'[q]? = some hole
theorem Kept.refl (E : Env) : Kept E E := ⟨Env.le_refl E, fun _ h => h⟩
theorem Kept.trans {E F G : Env} (h : Kept E F) (k : Kept F G) : Kept E G := ⟨h.le.trans k.le, fun q e => k.free q (h.free q e)⟩
theorem Kept.of_grew {E E' : Env} {b : Nat} (h : Grew b E E') (hb : E.length ≤ b) : Kept E E' := ⟨h.le, fun q e => h.free q (fun hq => by
  have := (List.getElem?_eq_some_iff.1 e).1
  omega) e⟩
theorem Kept.grew {E E' : Env} (h : Kept E E') (b : Nat) : Grew b E E' := ⟨h.le, fun q _ => h.free q⟩
def DiffOK (diff : List Root → List Root → Option (List (Nat × Root))) : Prop := ∀ rs rs' ws, diff rs rs' = some ws → ∀ (q : Nat) (x : Root), (writes ws rs)[q]? = some x → rs'[q]? = some x ∧ (rs[q]? = some x ∨ lowR rs.length x = true)
structure LoOK (T : Tab) (P : Program) (lo : Lo) : Prop where
  call : ∀ f ds rs d rs', lo.call f ds rs = some (d, rs') → Enters P f ∧ ∀ (N : Nat) (av0 : Nat → Prop) (w0 : Kp) (sp : List (D × Value)) (sl : Slots) (df : List Nat) (a : Act) (w : World) (E : Env) (vs : List Value), R T N av0 w0 sp ⟨sl, rs, df⟩ a w E → All2 (DRel E (AV av0 rs E) w) ds vs →
    Go.Calls P f vs.toArray w fun e w' => ∃ v E', e = .returned v ∧ Kept E E' ∧ R T N av0 w0 sp ⟨sl, rs', df⟩ a w' E' ∧ DRel E' (AV av0 rs' E') w' d v
  yld : ∀ r ds rs d rs', lo.yld r ds rs = some (d, rs') → ∀ (N : Nat) (av0 : Nat → Prop) (w0 : Kp) (sp : List (D × Value)) (sl : Slots) (df : List Nat) (a : Act) (w : World) (E : Env) (vs : List Value), R T N av0 w0 sp ⟨sl, rs, df⟩ a w E → All2 (DRel E (AV av0 rs E) w) ds vs →
    ∃ b sz f tm as bd, atRoot E r b sz ∧ (Instr.yield b vs.toArray).run P w = .ok (.round b f tm as bd) w ∧
      RoundS P b f tm as bd w fun v w' => ∃ E', Kept E E' ∧ R T N av0 w0 sp ⟨sl, rs', df⟩ a w' E' ∧ DRel E' (AV av0 rs' E') w' d v
  diff : DiffOK lo.diff
  wr : ∀ f ds rs d q x, lo.wr f ds rs = some (d, q, x) → Enters P f ∧ ∀ (N : Nat) (av0 : Nat → Prop) (w0 : Kp) (sp : List (D × Value)) (sl : Slots) (df : List Nat) (a : Act) (w : World) (E : Env) (vs : List Value), R T N av0 w0 sp ⟨sl, rs, df⟩ a w E → All2 (DRel E (AV av0 rs E) w) ds vs →
    Go.Calls P f vs.toArray w fun e w' => ∃ v E', e = .returned v ∧ Kept E E' ∧ R T N av0 w0 sp ⟨sl, place q x rs, df⟩ a w' E' ∧ DRel E' (AV av0 (place q x rs) E') w' d v
  mono : ∀ f ds rs rs2 r, rs.length = rs2.length → (∀ (q : Nat) (x : Root), nthF rs q = some x → x.live → nthF rs2 q = some x) → lo.wr f ds rs = some r → lo.wr f ds rs2 = some r
section
variable {P : Program} {T : Tab} {lo : Lo} {hi : Hint} {N : Nat} {av0 : Nat → Prop} {w0 : Kp} {sp : List (D × Value)} {s : VS} {a : Act} {w : World} {E : Env}
theorem R.none {av : Nat → Prop} (hav : ∀ b, av b → b < w.heap.size) (hg : Globs T av w) : R T 0 av (Kp.of w) [] ⟨[], [], []⟩ { tmps := #[], defers := [] } w [] :=
  ⟨rfl, .nil, fun _ hx => (by cases hx), Kp.holds_of (Below.refl _ _), rfl, fun b q => ⟨hav b q, fun q => q⟩, fun r x e h1 => (by simp at h1), fun r x b sz h1 => (by simp at h1), fun r r' x x' b sz sz' h1 => (by simp at h1), fun t d c h1 => (by simp [look] at h1), hg.mono (Keeps.refl _ w) (fun b _ q => q.elim id fun ⟨r, x, sz, h1, _⟩ => by simp at h1)⟩
theorem AV_nil {av : Nat → Prop} : ∀ b, AV av [] [] b ↔ av b := fun b => ⟨fun q => q.elim id fun ⟨r, x, sz, h1, _⟩ => by simp at h1, .inl⟩
theorem LoOK.pure (hl : LoOK T P lo) {f : FuncId} {is : List D} {d : D} {rs' : List Root} (e : lo.call f is [] = some (d, rs')) {d' : D} (e' : reifyD rs' d = some d') : Pure1 T P f is d' := by
  intro av w vs hav hgl hvs
  have h0 := (hl.call f is [] d rs' e).2 0 av (Kp.of w) [] [] [] _ w [] vs (R.none hav hgl) (hvs.mono fun _ _ q => DRel.mono (Env.le_refl []) (Keeps.refl _ w) (fun b _ q => (AV_nil b).1 q) q)
  refine h0.mono ?_
  rintro e w' ⟨v, E', rfl, _, hR, hd⟩
  exact ⟨v, rfl, reifyD_rel hR (Spare.outer hR) e' hd, hR.below.below⟩
theorem calOf (hl : LoOK T P lo) : CalOK T P ⟨fun f is => match lo.call f is [] with
    | some (d, rs') => match reifyD rs' d with
      | some d' => some (none, d')
      | none => none
    | none => none, fun _ _ _ => none, fun _ _ _ => none⟩ where
  pur f ds p d e := by
    simp only at e
    split at e
    case h_2 => simp at e
    rename_i d0 rs' h1
    split at e
    case h_2 => simp at e
    rename_i d' h2
    simp only [Option.some.injEq, Prod.mk.injEq] at e
    obtain ⟨rfl, rfl⟩ := e
    exact ⟨(hl.call _ _ _ _ _ h1).1, fun _ => hl.pure h1 h2⟩
  eff _ _ _ _ _ _ e := by simp at e
  yld _ _ _ _ _ _ e := by simp at e
theorem purF_sound (hl : LoOK T P lo) (h : R T N av0 w0 sp s a w E) {f : FuncId} {ds : List D} {d : D} (e : purF lo s.rs f ds = some d) (hs : (pureDs ds || plainD d) = true) (hd : pureD d = true) {vs : List Value} (hv : All2 (DRel E (AV av0 s.rs E) w) ds vs) :
    Enters P f ∧ Go.Calls P f vs.toArray w fun e w' => ∃ v, e = .returned v ∧ Below w.heap.size w w' ∧ DRel E (AV av0 s.rs E) w' d v := by
  unfold purF at e
  split at e
  case h_2 => simp at e
  rename_i is hi
  split at e
  case h_2 => simp at e
  rename_i d0 rs' h1
  have hc := calOf hl
  have hp : (match lo.call f is [] with
    | some (d, rs') => match reifyD rs' d with
      | some d' => some ((none : Option Prop), d')
      | none => none
    | none => none) = some (none, d) := by rw [h1]; simp only [e]
  exact ⟨(hl.call _ _ _ _ _ h1).1, pur_call hc h hi hp trivial hs hd hv⟩
def CallsTo (T : Tab) (P : Program) (N : Nat) (av0 : Nat → Prop) (w0 : Kp) (sp : List (D × Value)) (s : VS) (a : Act) (w : World) (E : Env) (b : Nat) (e : Eff) (f : FuncId) (vs : List Value) : Prop :=
  Enters P f ∧ Go.Calls P f vs.toArray w fun en w' => ∃ v E', en = .returned v ∧ After T N av0 w0 sp s a w E b e v w' E'
theorem After.val_below (h : R T N av0 w0 sp s a w E) {b : Nat} {d : D} {v : Value} {w' : World} (hb : Below w.heap.size w w') (hd : DRel E (AV av0 s.rs E) w' d v) : After T N av0 w0 sp s a w E b (.val d) v w' E :=
  ⟨Grew.refl _ _, h.grown hb, fun d' hd' => by simp only [effD, Option.some.injEq] at hd'; subst hd'; exact hd⟩
theorem coldF_some {rs : List Root} {ds : List D} {e e' : Eff} (h : coldF rs ds e = some e') : (∃ l, e' = .cold l) ∨ (e' = e ∧ sasDs rs ds = some []) := by
  unfold coldF at h
  split at h
  · simp only [Option.some.injEq] at h; exact .inl ⟨_, h.symm⟩
  · rename_i hs; simp only [Option.some.injEq] at h; exact .inr ⟨h.symm, hs⟩
  · simp at h
theorem plainC_pure : ∀ {l : List C}, plainC l = true → pureC l = true
  | [], _ => rfl
  | c :: l, h => by
    cases c with
    | im x => cases x with
      | v x => simp only [plainC] at h; simp only [pureC]; exact plainC_pure h
      | _ => simp [plainC] at h
    | _ => simp [plainC] at h
theorem plainD_pure {d : D} (h : plainD d = true) : pureD d = true := by
  cases d with
  | c x => exact plainC_pure (l := [x]) h
  | a l => exact plainC_pure h
  | t l => simp only [plainD, pureD, List.all_eq_true] at h ⊢; exact fun x hx => plainC_pure (h x hx)
theorem sasL1_nil {rec : List C → Option (List Nat)} {rs : List Root} : ∀ {l : List C}, sasL1 rec rs l = some [] → pureC l = true
  | [], _ => rfl
  | x :: l, h => by
    have h : (match sasC rec rs x with
      | some a => match sasL1 rec rs l with
        | some b => some (a ++ b)
        | none => none
      | none => none) = some [] := h
    split at h
    case h_2 => simp at h
    rename_i m hm
    split at h
    case h_2 => simp at h
    rename_i k hk
    simp only [Option.some.injEq, List.append_eq_nil_iff] at h
    obtain ⟨rfl, rfl⟩ := h
    unfold sasC at hm
    split at hm
    · simp only [pureC]; exact sasL1_nil hk
    · split at hm
      · split at hm
        · simp at hm
        · simp at hm
      · simp at hm
      · simp at hm
    · simp at hm
theorem sasDs_nil {rs : List Root} : ∀ {ds : List D}, sasDs rs ds = some [] → pureDs ds = true
  | [], _ => rfl
  | d :: ds, h => by
    have h : (match sasD rs d, sasDs rs ds with
      | some a, some b => some (a ++ b)
      | _, _ => none) = some [] := h
    split at h
    case h_2 => simp at h
    rename_i m k hm hk
    simp only [Option.some.injEq, List.append_eq_nil_iff] at h
    obtain ⟨rfl, rfl⟩ := h
    have hd : pureD d = true := by
      cases d with
      | c x => exact sasL1_nil (l := [x]) hm
      | a l => exact sasL1_nil hm
      | t l => simp [sasD] at hm
    simp only [pureDs, hd]
    exact sasDs_nil hk
theorem pcallF_sound (hl : LoOK T P lo) (h : R T N av0 w0 sp s a w E) {b : Nat} {f : FuncId} {ds : List D} {e : Eff} (ef : pcallF lo s.rs f ds = some e) {vs : List Value} (hv : All2 (DRel E (AV av0 s.rs E) w) ds vs) :
    (∃ l, e = .cold l) ∨ CallsTo T P N av0 w0 sp s a w E b e f vs := by
  unfold pcallF at ef
  split at ef
  case h_2 => simp at ef
  rename_i d hd
  have fin : (pureDs ds || plainD d) = true → pureD d = true → CallsTo T P N av0 w0 sp s a w E b (.val d) f vs := fun h1 h2 => by
    obtain ⟨h3, h4⟩ := purF_sound hl h hd h1 h2 hv
    refine ⟨h3, h4.mono ?_⟩
    rintro en w' ⟨v, rfl, hb, hr⟩
    exact ⟨v, E, rfl, After.val_below h hb hr⟩
  cases hp : plainD d with
  | true =>
    rw [hp] at ef
    simp only [Option.some.injEq] at ef
    subst ef
    exact .inr (fin (by simp [hp]) (plainD_pure hp))
  | false =>
    rw [hp] at ef
    obtain ⟨h1, ef⟩ := Bool.rec_some (show (Bool.rec none (coldF s.rs ds (.val d)) (pureD d) : Option Eff) = some e from ef)
    rcases coldF_some ef with hc | ⟨rfl, hc⟩
    · exact .inl hc
    · exact .inr (fin (by simp [sasDs_nil hc]) h1)
theorem effF_sound (hl : LoOK T P lo) (h : R T N av0 w0 sp s a w E) {b : Nat} {f : FuncId} {ds : List D} {e : Eff} (ef : effF lo s.rs f ds = some e) {vs : List Value} (hv : All2 (DRel E (AV av0 s.rs E) w) ds vs) :
    CallsTo T P N av0 w0 sp s a w E b e f vs := by
  unfold effF at ef
  split at ef
  case h_2 => simp at ef
  rename_i d rs' hd
  simp only [Option.some.injEq] at ef
  subst ef
  obtain ⟨h1, h2⟩ := hl.call _ _ _ _ _ hd
  refine ⟨h1, (h2 N av0 w0 sp s.sl s.df a w E vs h hv).mono ?_⟩
  rintro en w' ⟨v, E', rfl, hk, hR, hr⟩
  exact ⟨v, E', rfl, hk.grew b, hR, fun d' hd' => by simp only [effD, Option.some.injEq] at hd'; subst hd'; exact hr⟩
theorem wrF_sound (hl : LoOK T P lo) (h : R T N av0 w0 sp s a w E) {b : Nat} {f : FuncId} {ds : List D} {e : Eff} (ef : wrF lo s.rs f ds = some e) {vs : List Value} (hv : All2 (DRel E (AV av0 s.rs E) w) ds vs) :
    CallsTo T P N av0 w0 sp s a w E b e f vs := by
  unfold wrF at ef
  split at ef
  case h_2 => simp at ef
  rename_i d q x hd
  replace ef := (Bool.rec_some ef).2
  simp only [Option.some.injEq] at ef
  subst ef
  obtain ⟨h1, h2⟩ := hl.wr _ _ _ _ _ _ hd
  refine ⟨h1, (h2 N av0 w0 sp s.sl s.df a w E vs h hv).mono ?_⟩
  rintro en w' ⟨v, E', rfl, hk, hR, hr⟩
  exact ⟨v, E', rfl, hk.grew b, hR, fun d' hd' => by simp only [effD, Option.some.injEq] at hd'; subst hd'; exact hr⟩
theorem grown_of_below {w w' : World} (h : Below w.heap.size w w') : w.grownBy w' none := ⟨h.os, h.tape, h.output, h.size, fun k hk _ => h.block k hk⟩
theorem ownF_row {rs : List Root} {f : FuncId} {ds : List D} {b : Nat} {d : Option D} {ws : List (Nat × Root)} (e : ownF lo rs f ds b = some (.wr d ws)) :
    (∃ is q n rs' el sz l, reifyDs rs ds = some is ∧ lo.call f is [] = some (.c (.sa q n), rs') ∧ nth rs' q = some (.row el sz n l) ∧ pureC l = true ∧ d = some (.c (.sa b n)) ∧ ws = [(b, .row el sz n l)]) ∨
    (∃ is q n rs' el sz get, reifyDs rs ds = some is ∧ lo.call f is [] = some (.c (.sa q n), rs') ∧ nth rs' q = some (.arr el sz n get) ∧ d = some (.c (.sa b n)) ∧ ws = [(b, .arr el sz n get)]) := by
  unfold ownF at e
  split at e
  case h_2 => simp at e
  rename_i is hi
  split at e
  · rename_i q m rs' hc
    split at e
    case h_3 => simp at e
    · rename_i el sz n l hl
      obtain ⟨h1, e⟩ := Bool.rec_some e
      simp only [Bool.and_eq_true] at h1
      have h2 := of_beq h1.1
      subst h2
      rw [nthF_eq] at hl
      simp only [Option.some.injEq, Eff.wr.injEq] at e
      exact .inl ⟨is, q, m, rs', el, sz, l, hi, hc, hl, h1.2, e.1.symm, e.2.symm⟩
    · rename_i el sz n get hl
      obtain ⟨h1, e⟩ := Bool.rec_some e
      have h2 := of_beq h1
      subst h2
      rw [nthF_eq] at hl
      simp only [Option.some.injEq, Eff.wr.injEq] at e
      exact .inr ⟨is, q, m, rs', el, sz, get, hi, hc, hl, e.1.symm, e.2.symm⟩
  · split at e
    case h_2 => simp at e
    obtain ⟨_, e⟩ := Bool.rec_some e
    simp at e
  · simp at e
theorem pureC_mono {E E' : Env} {av av' : Nat → Prop} {w w' : World} (hk : Keeps av w w') (ha : ∀ b, b < w.heap.size → av' b → av b) : ∀ {l : List C} {xs : List Value}, pureC l = true → All2 (CRel E av w) l xs → All2 (CRel E' av' w') l xs
  | [], _, _, .nil => .nil
  | c :: l, _, h, .cons q k => by
    cases c with
    | im x => exact .cons (IRel.mono (x := x) hk ha q) (pureC_mono hk ha (by simpa [pureC] using h) k)
    | _ => simp [pureC] at h
theorem own_row (hl : LoOK T P lo) (h : R T N av0 w0 sp s a w E) {b : Nat} (hf : Free s E b) {f : FuncId} {ds is : List D} {q n el sz : Nat} {rs' : List Root} {l : List C} (hi : reifyDs s.rs ds = some is)
    (hc : lo.call f is [] = some (.c (.sa q n), rs')) (hq : nth rs' q = some (.row el sz n l)) (hp : pureC l = true) (hs : plainC l = true ∨ pureDs ds = true) {vs : List Value} (hv : All2 (DRel E (AV av0 s.rs E) w) ds vs) :
    CallsTo T P N av0 w0 sp s a w E b (.wr (some (.c (.sa b n))) [(b, .row el sz n l)]) f vs := by
  obtain ⟨h1, h2⟩ := hl.call _ _ _ _ _ hc
  refine ⟨h1, ?_⟩
  have avlt : ∀ b, AV av0 s.rs E b → b < w.heap.size := by
    rintro b (q | ⟨r, x, sz, h1, h2, h3⟩)
    · exact h.outer_lt q
    · exact (h.blk r x b sz h1 h2 h3).2
  have key : ∃ av : Nat → Prop, (∀ b, av b → b < w.heap.size) ∧ Globs T av w ∧ All2 (DRel [] av w) is vs ∧ (plainC l = true ∨ ∀ k, AV av0 s.rs E k → av k) := by
    rcases hs with hs | hs
    · exact ⟨fun _ => False, fun _ q => q.elim, h.glob.mono (Keeps.refl _ w) (fun _ _ q => q.elim), reifyDs_rel h (Spare.none av0 s E) hi hv, .inl hs⟩
    · exact ⟨AV av0 s.rs E, avlt, h.glob, pure_reifyDs hs hi hv, .inr fun _ q => q⟩
  obtain ⟨av, hav, hgl, hvs, hcase⟩ := key
  refine (h2 0 av (Kp.of w) [] [] [] _ w [] vs (R.none hav hgl) (hvs.mono fun _ _ q => DRel.mono (Env.le_refl []) (Keeps.refl _ w) (fun b _ q => (AV_nil b).1 q) q)).mono ?_
  rintro en w' ⟨v, E1, rfl, _, hR, hd⟩
  obtain ⟨e0, ao, n', cap, g1, g2, g3, rfl⟩ := hd
  rw [nth_eq] at hq
  obtain ⟨r1, r2, xs, r3, r4⟩ := hR.roots q _ _ hq g1
  have hvn : e0.2.1 = .slice ao n cap := by
    rcases r3.2 with ⟨q5, q6⟩ | ⟨g, cap2, cur, q5, _⟩
    · rw [g2] at q5 ⊢; simp only [Value.slice.injEq] at q5 ⊢; simp; omega
    · rw [g2] at q5 ⊢; simp only [Value.slice.injEq] at q5 ⊢; simp; omega
  have hb := hR.below.below
  have hown : w'.ownsRow w0.base el sz (.slice ao n cap) n xs := by
    rw [hvn] at r3
    refine ⟨r3.1, r3.2.imp id ?_⟩
    rintro ⟨g, cap2, cur, q5, q6, q7⟩
    exact ⟨g, cap2, cur, q5, Nat.le_trans h.size_le q6, q7⟩
  have hblk : ∀ k, (Value.slice ao n cap).ownBlock = some k → w.heap.size ≤ k ∧ k < w'.heap.size ∧ atRoot E1 q k e0.2.2 := by
    intro k hk
    have hat : atRoot E1 q k e0.2.2 := by
      obtain ⟨e1, e2, e3⟩ := e0
      have r2 : e1 = e2.ownBlock := r2
      have hvn : e2 = _ := hvn
      rw [hvn, hk] at r2
      exact ⟨e2, by rw [g1, r2]⟩
    have := hR.blk q _ k e0.2.2 hq trivial hat
    exact ⟨this.1.base, this.2, hat⟩
  obtain ⟨E', h4, h5, h6, h7⟩ := h.make hf (dead := Option.none) (x := .row el sz n l) (e := ((Value.slice ao n cap).ownBlock, .slice ao n cap, sz)) (w' := w') (row := Option.none) (grown_of_below hb) (fun k hk => by cases hk)
    (fun k hk => .inr (hblk k hk).1) (fun k hk => (hblk k hk).2.1) (fun E' av' hE hav' hav2 hk => ⟨rfl, rfl, xs, hown, by
      rcases hcase with hpl | hcase
      · exact plainC_rel hpl r4
      · refine pureC_mono (Keeps.refl _ w') (fun k hk' q => ?_) hp r4
        rcases hav2 k q with q | q
        · exact .inl (hcase k q)
        · exact .inr ⟨_, _, _, hq, trivial, (hblk k q).2.2⟩⟩)
  · refine ⟨_, E', rfl, h6, h4, fun d hd => ?_⟩
    simp only [effD, Option.some.injEq] at hd
    subst hd
    rcases hown.2 with ⟨q5, q6⟩ | ⟨g, cap2, cur, q5, _⟩
    · exact ⟨_, ao, n, cap, h5, rfl, Nat.le_refl _, rfl⟩
    · exact ⟨_, ao, n, cap, h5, rfl, Nat.le_refl _, rfl⟩
theorem own_arr (hl : LoOK T P lo) (h : R T N av0 w0 sp s a w E) {b : Nat} (hf : Free s E b) {f : FuncId} {ds is : List D} {q n el sz : Nat} {rs' : List Root} {get : Nat → Nat → I} (hi : reifyDs s.rs ds = some is)
    (hc : lo.call f is [] = some (.c (.sa q n), rs')) (hq : nth rs' q = some (.arr el sz n get)) (hs : pureDs ds = true) {vs : List Value} (hv : All2 (DRel E (AV av0 s.rs E) w) ds vs) :
    CallsTo T P N av0 w0 sp s a w E b (.wr (some (.c (.sa b n))) [(b, .arr el sz n get)]) f vs := by
  obtain ⟨h1, h2⟩ := hl.call _ _ _ _ _ hc
  refine ⟨h1, ?_⟩
  have avlt : ∀ b, AV av0 s.rs E b → b < w.heap.size := by
    rintro b (q | ⟨r, x, sz, h1, h2, h3⟩)
    · exact h.outer_lt q
    · exact (h.blk r x b sz h1 h2 h3).2
  have key : ∃ av : Nat → Prop, (∀ b, av b → b < w.heap.size) ∧ Globs T av w ∧ All2 (DRel [] av w) is vs ∧ (∀ k, AV av0 s.rs E k → av k) :=
    ⟨AV av0 s.rs E, avlt, h.glob, pure_reifyDs hs hi hv, fun _ q => q⟩
  obtain ⟨av, hav, hgl, hvs, hcase⟩ := key
  refine (h2 0 av (Kp.of w) [] [] [] _ w [] vs (R.none hav hgl) (hvs.mono fun _ _ q => DRel.mono (Env.le_refl []) (Keeps.refl _ w) (fun b _ q => (AV_nil b).1 q) q)).mono ?_
  rintro en w' ⟨v, E1, rfl, _, hR, hd⟩
  obtain ⟨e0, ao, n', cap, g1, g2, g3, rfl⟩ := hd
  rw [nth_eq] at hq
  obtain ⟨r1, r2, xs, r3, r4⟩ := hR.roots q _ _ hq g1
  have hvn : e0.2.1 = .slice ao n cap := by
    rcases r3.2 with ⟨q5, q6⟩ | ⟨g, cap2, cur, q5, _⟩
    · rw [g2] at q5 ⊢; simp only [Value.slice.injEq] at q5 ⊢; simp; omega
    · rw [g2] at q5 ⊢; simp only [Value.slice.injEq] at q5 ⊢; simp; omega
  have hb := hR.below.below
  have hown : w'.ownsRow w0.base el sz (.slice ao n cap) n xs := by
    rw [hvn] at r3
    refine ⟨r3.1, r3.2.imp id ?_⟩
    rintro ⟨g, cap2, cur, q5, q6, q7⟩
    exact ⟨g, cap2, cur, q5, Nat.le_trans h.size_le q6, q7⟩
  have hblk : ∀ k, (Value.slice ao n cap).ownBlock = some k → w.heap.size ≤ k ∧ k < w'.heap.size ∧ atRoot E1 q k e0.2.2 := by
    intro k hk
    have hat : atRoot E1 q k e0.2.2 := by
      obtain ⟨e1, e2, e3⟩ := e0
      have r2 : e1 = e2.ownBlock := r2
      have hvn : e2 = _ := hvn
      rw [hvn, hk] at r2
      exact ⟨e2, by rw [g1, r2]⟩
    have := hR.blk q _ k e0.2.2 hq trivial hat
    exact ⟨this.1.base, this.2, hat⟩
  obtain ⟨E', h4, h5, h6, h7⟩ := h.make hf (dead := Option.none) (x := .arr el sz n get) (e := ((Value.slice ao n cap).ownBlock, .slice ao n cap, sz)) (w' := w') (row := Option.none) (grown_of_below hb) (fun k hk => by cases hk)
    (fun k hk => .inr (hblk k hk).1) (fun k hk => (hblk k hk).2.1) (fun E' av' hE hav' hav2 hk => ⟨rfl, rfl, xs, hown, fun i hi j hj => by
      obtain ⟨x, g5, g6⟩ := r4 i hi j hj
      exact ⟨x, g5, IRel.mono (Keeps.refl _ w') (fun k hk' q => by
        rcases hav2 k q with q | q
        · exact .inl (hcase k q)
        · exact .inr ⟨_, _, _, hq, trivial, (hblk k q).2.2⟩) g6⟩⟩)
  · refine ⟨_, E', rfl, h6, h4, fun d hd => ?_⟩
    simp only [effD, Option.some.injEq] at hd
    subst hd
    rcases hown.2 with ⟨q5, q6⟩ | ⟨g, cap2, cur, q5, _⟩
    · exact ⟨_, ao, n, cap, h5, rfl, Nat.le_refl _, rfl⟩
    · exact ⟨_, ao, n, cap, h5, rfl, Nat.le_refl _, rfl⟩
theorem ocallF_sound (hl : LoOK T P lo) (h : R T N av0 w0 sp s a w E) {b : Nat} (hf : Free s E b) {f : FuncId} {ds : List D} {e : Eff} (ef : ocallF lo s.rs f ds b = some e) {vs : List Value} (hv : All2 (DRel E (AV av0 s.rs E) w) ds vs) :
    (∃ l, e = .cold l) ∨ CallsTo T P N av0 w0 sp s a w E b e f vs := by
  unfold ocallF at ef
  split at ef
  · rename_i d hd
    simp only [Option.some.injEq] at ef
    subst ef
    right
    unfold ownF at hd
    split at hd
    case h_2 => simp at hd
    rename_i is hi
    split at hd
    · split at hd
      · obtain ⟨_, hd⟩ := Bool.rec_some hd; simp at hd
      · obtain ⟨_, hd⟩ := Bool.rec_some hd; simp at hd
      · simp at hd
    · rename_i d0 rs0 _ hcall
      split at hd
      case h_2 => simp at hd
      rename_i d' hre
      obtain ⟨hp, hd⟩ := Bool.rec_some hd
      simp only [Option.some.injEq, Eff.val.injEq] at hd
      subst hd
      obtain ⟨h3, h4⟩ := purF_sound hl h (f := f) (ds := ds) (d := d') (by simp only [purF, hi, hcall, hre]) (by simp [hp]) (plainD_pure hp) hv
      refine ⟨h3, h4.mono ?_⟩
      rintro en w' ⟨v, rfl, hb, hr⟩
      exact ⟨v, E, rfl, After.val_below h hb hr⟩
    · simp at hd
  · rename_i d q el sz n l ho
    rcases ownF_row ho with ⟨is, q', n', rs', el', sz', l', hi, hc, hq, hp, hd, hws⟩ | ⟨is, q', n', rs', el', sz', get', hi, hc, hq, hd, hws⟩
    case inr => simp at hws
    simp only [List.cons.injEq, Prod.mk.injEq, Root.row.injEq, and_true] at hws
    obtain ⟨rfl, rfl, rfl, rfl, rfl⟩ := hws
    subst hd
    cases hpl : plainC l with
    | true =>
      rw [hpl] at ef
      simp only [Option.some.injEq] at ef
      subst ef
      exact .inr (own_row hl h hf hi hc hq hp (.inl hpl) hv)
    | false =>
      rw [hpl] at ef
      rcases coldF_some (show coldF s.rs ds _ = some e from ef) with hc' | ⟨rfl, hc'⟩
      · exact .inl hc'
      · exact .inr (own_row hl h hf hi hc hq hp (.inr (sasDs_nil hc')) hv)
  · rename_i d q el sz n get ho
    rcases ownF_row ho with ⟨is, q', n', rs', el', sz', l', hi, hc, hq, hp, hd, hws⟩ | ⟨is, q', n', rs', el', sz', get', hi, hc, hq, hd, hws⟩
    case inl => simp at hws
    simp only [List.cons.injEq, Prod.mk.injEq, Root.arr.injEq, and_true] at hws
    obtain ⟨rfl, rfl, rfl, rfl, rfl⟩ := hws
    subst hd
    rcases coldF_some (show coldF s.rs ds _ = some e from ef) with hc' | ⟨rfl, hc'⟩
    · exact .inl hc'
    · exact .inr (own_arr hl h hf hi hc hq (sasDs_nil hc') hv)
  · simp at ef
theorem callF_sound (hl : LoOK T P lo) (h : R T N av0 w0 sp s a w E) {b : Nat} (hf : Free s E b) {f : FuncId} {ds : List D} {e : Eff} (ef : callF lo hi s.rs b f ds = some e) {vs : List Value} (hv : All2 (DRel E (AV av0 s.rs E) w) ds vs) :
    (∃ l, e = .cold l) ∨ CallsTo T P N av0 w0 sp s a w E b e f vs := by
  unfold callF at ef
  split at ef
  · exact pcallF_sound hl h ef hv
  · exact .inr (effF_sound hl h ef hv)
  · exact ocallF_sound hl h hf ef hv
  · exact .inr (wrF_sound hl h ef hv)
  · cases hp : pureDs ds with
    | true => rw [hp] at ef; exact pcallF_sound hl h ef hv
    | false => rw [hp] at ef; exact .inr (effF_sound hl h ef hv)
theorem calleeC_rel (h : R T N av0 w0 sp s a w E) {c : C} {f : FuncId} {caps : List D} (e : calleeC c = some (f, caps)) {fv : Value} (hc : CRel E (AV av0 s.rs E) w c fv) :
    ∃ cs : Array Value, fv = .func (.func f) #[] cs ∧ All2 (DRel E (AV av0 s.rs E) w) caps cs.toList := by
  refine calleeD_rel h (fd := .c c) ?_ hc
  unfold calleeC at e
  split at e
  · exact e
  · exact e
  · simp at e
theorem valueF_sound (hl : LoOK T P lo) (h : R T N av0 w0 sp s a w E) (hn : NilS s.sl) {b : Nat} (hf : Free s E b) {o : Oper} {c : Call} (ho : o.op = .call c) {f : Operand} (hcal : c.callee = .value f) {e : Eff} (ef : valueF lo hi b s f c.args.toList = some e)
    {next : Act → World → Prop} (hnext : ∀ v w' E', After T N av0 w0 sp s a w E b e v w' E' → next (a.put o.dst v) w') : (∃ l, e = .cold l) ∨ Op1 P true o a w next := by
  have hnd : ∀ c', o.op ≠ .defer c' := fun c' q => by rw [ho] at q; cases q
  unfold valueF at ef
  split at ef
  case h_2 => simp at ef
  rename_i c0 ds hc0 hds
  have hc0 := h.evF hn (cellF_some hc0)
  have hds := evs_rel h (CondsHold.nil a) (evsF_evs hn hds)
  split at ef
  · rename_i r
    obtain ⟨b', sz, hat, hfv⟩ := hc0
    unfold yldF at ef
    split at ef
    case h_2 => simp at ef
    rename_i d rs' hy
    simp only [Option.some.injEq] at ef
    subst ef
    right
    obtain ⟨b2, sz2, fr, tm, as, bd, hat2, h1, h2⟩ := hl.yld _ _ _ _ _ hy N av0 w0 sp s.sl s.df a w E _ h hds
    obtain ⟨q1, q2⟩ := hat
    obtain ⟨q3, q4⟩ := hat2
    rw [q2] at q4
    simp only [Option.some.injEq, Prod.mk.injEq] at q4
    obtain ⟨rfl, rfl, rfl⟩ := q4
    refine .round rfl b' fr tm as bd w hnd ?_ fun c' cs => ?_
    · have hargs : (List.map a.eval c.args.toList).toArray = c.args.map a.eval := by apply Array.ext'; simp
      rw [hargs] at h1
      simp only [execOp, ho, resolve, hcal, hfv, Deferred.ofValue, Sem.run_bind, Sem.run_pure, Result.andThen_ok, invoke]
      simpa using h1
    · obtain ⟨v, w', ⟨E', hk, h3, h4⟩, h5⟩ := h2 c' cs
      exact ⟨v, w', hnext v w' E' ⟨hk.grew b, h3, fun d' hd' => by simp only [effD, Option.some.injEq] at hd'; subst hd'; exact h4⟩, h5⟩
  · split at ef
    case h_2 => simp at ef
    rename_i g caps hcl
    obtain ⟨cs, hfv, hcs⟩ := calleeC_rel h hcl hc0
    rcases callF_sound hl h hf ef (hds.append hcs) with hq | ⟨he, hcall⟩
    · exact .inl hq
    right
    have hvs : (List.map a.eval c.args.toList ++ cs.toList).toArray = c.args.map a.eval ++ cs := by
      apply Array.ext'
      simp
    refine .enter g (List.map a.eval c.args.toList ++ cs.toList).toArray w hnd ?_ (hcall.mono ?_)
    · rw [hvs]; exact run_callee ho hcal hfv he
    · rintro en w' ⟨v, E', rfl, ha⟩
      exact ⟨v, rfl, hnext v w' E' ha⟩
theorem effO_sound (hty : TyOK P T) (hl : LoOK T P lo) (h : R T N av0 w0 sp s a w E) (hn : NilS s.sl) {b : Nat} (hf : Free s E b) {o : Oper} {e : Eff} (ef : effO T lo hi b s o.dst o.op = some e)
    {next : Act → World → Prop} (hnext : ∀ v w' E', After T N av0 w0 sp s a w E b e v w' E' → next (a.put o.dst v) w') : (∃ l, e = .cold l) ∨ Op1 P true o a w next := by
  unfold effO at ef
  split at ef
  · rename_i d hd
    simp only [Option.some.injEq] at ef
    subst ef
    obtain ⟨v, h1, h2⟩ := lookO_sound hty h hn hd
    refine .inr (.value v w (fun c q => ?_) h1 (hnext v w E ⟨Grew.refl _ _, h, fun d' hd' => by simp only [effD, Option.some.injEq] at hd'; subst hd'; exact h2⟩))
    rw [q] at hd; simp [lookO] at hd
  · generalize hop : o.op = op at ef
    have hnd : ∀ {op'}, o.op = op' → (∀ c, op' ≠ .defer c) → ∀ c, o.op ≠ .defer c := fun q k c => by rw [q]; exact k c
    cases op with
    | box t x =>
      obtain ⟨E', ha⟩ := boxF_sound h hn hf t ef
      exact .inr (.value _ _ (hnd hop fun _ => Op.noConfusion) (by simp only [execOp, hop]; rfl) (hnext _ _ _ ha))
    | alloc t =>
      obtain ⟨v, w', E', hr, ha⟩ := allocF_sound hty h hf ef
      exact .inr (.value v w' (hnd hop fun _ => Op.noConfusion) (hr o hop) (hnext _ _ _ ha))
    | store t x v =>
      rcases storeF_sound hty h hn ef b with hc | ⟨hd, w', hr, ha⟩
      · exact .inl hc
      exact .inr (.skip w' (hnd hop fun _ => Op.noConfusion) (by simp only [execOp, hop]; simp [hr]) (hnext _ _ _ ha))
    | buildSlice t n ps =>
      obtain ⟨v, w', E', hr, ha⟩ := bsF_sound hty h hn hf ef
      exact .inr (.value v w' (hnd hop fun _ => Op.noConfusion) (by simp only [execOp, hop]; exact run_value hr) (hnext _ _ _ ha))
    | makeMap t r =>
      obtain ⟨rfl, E', ha⟩ := mkmapF_sound h hf ef
      exact .inr (.value _ _ (hnd hop fun _ => Op.noConfusion) (by simp only [execOp, hop]; rfl) (hnext _ _ _ ha))
    | makeSlice t l c =>
      obtain ⟨v, w', E', hr, ha⟩ := mkslF_sound hty h hn hf ef
      exact .inr (.value v w' (hnd hop fun _ => Op.noConfusion) (by simp only [execOp, hop]; exact run_value hr) (hnext _ _ _ ha))
    | mapUpdate t m k v =>
      obtain ⟨hd, w', hr, ha⟩ := mapuF_sound hty h hn ef b
      exact .inr (.skip w' (hnd hop fun _ => Op.noConfusion) (by simp only [execOp, hop]; simp [hr]) (hnext _ _ _ ha))
    | call c =>
      have ef : callO T lo hi b s c = some e := ef
      unfold callO at ef
      split at ef
      · rename_i hcal
        rcases appF_sound hty h hn hf ef o.type with hc | ⟨v, w', E', hr, ha⟩
        · exact .inl hc
        refine .inr (.value v w' (hnd hop fun _ => Op.noConfusion) ?_ (hnext _ _ _ ha))
        have hargs : (List.map a.eval c.args.toList).toArray = c.args.map a.eval := by apply Array.ext'; simp
        rw [hargs] at hr
        have hts : c.argTypes.toList.toArray = c.argTypes := rfl
        rw [hts] at hr
        simp only [execOp, hop, resolve, hcal, Sem.run_bind, Sem.run_pure, Result.andThen_ok, invoke, builtin]
        simp [hr]
      · rename_i f hcal
        exact valueF_sound hl h hn hf hop hcal ef hnext
      · simp at ef
    | _ => simp [workO] at ef
end
open Go.RowKit
def Fr (ρ : Option Nat) : Fence := { fn := fun _ => True, depth := none, alive := false, round := ρ }
section
variable {P : Program} {T : Tab} {lo : Lo} {hi : Hint} {N : Nat} {av0 : Nat → Prop} {w0 : Kp} {sp : List (D × Value)} {s : VS} {a : Act} {w : World} {E : Env} {ρ : Option Nat}
theorem fenced_Fr (ρ : Option Nat) (m : Machine) : m.fenced P (Fr ρ) := by
  intro g _
  refine ⟨fun h => ?_, Or.inl trivial, fun _ _ => trivial, fun _ h => ?_⟩
  · cases h
  · cases h
theorem room_Fr (ρ : Option Nat) (n : Nat) : (Fr ρ).room n := fun d h => by cases h
theorem stepsIn_Fr {m m' : Machine} (h : Steps P m m') : StepsIn (Machine.fenced P (Fr ρ)) P m m' := (StepsIn.of_steps h).mono fun m _ => fenced_Fr ρ m
theorem Op1.wpIn {Y : Bool} {o : Oper} {next : Act → World → Prop} {Q : Exit → Act → World → Prop} (h : Op1 P Y o a w next) : o.wpIn (Fr ρ) 0 P a w next Q := by
  refine ⟨fun _ _ => trivial, ?_⟩
  cases h with
  | value v w' hd hr hn => rw [Oper.semAt_eq _ _ _ hd, hr]; exact hn
  | skip w' hd hr hn => rw [Oper.semAt_eq _ _ _ hd, hr]; exact hn
  | enter f args w' hd hr hc =>
    rw [Oper.semAt_eq _ _ _ hd, hr]
    refine ⟨fun q => (by cases q), trivial, fun cs _ => ?_⟩
    obtain ⟨e, w2, fr, ⟨v, rfl, hn⟩, hs, hf, hl⟩ := hc cs
    exact ⟨.returned v, w2, fr, hn, stepsIn_Fr hs, hf, hl⟩
  | round hY l f tm as bd w' hd hr hc =>
    rw [Oper.semAt_eq _ _ _ hd, hr]
    refine ⟨fun q => (by cases q), trivial, fun c cs _ => ?_⟩
    obtain ⟨v, w2, hn, hs⟩ := hc c cs
    exact ⟨.returned v, w2, hn, stepsIn_Fr hs⟩
end
open Go.RowKit
structure But (r : Nat) (av' : Nat → Prop) (av0 : Nat → Prop) (s : VS) (E : Env) : Prop where
  le : ∀ b, av' b → AV av0 s.rs E b
  no : ∀ b sz, atRoot E r b sz → ¬ av' b
section
variable {P : Program} {T : Tab} {lo : Lo} {hi : Hint} {N : Nat} {av0 : Nat → Prop} {w0 : Kp} {sp : List (D × Value)} {s : VS} {a : Act} {w : World} {E : Env} {ρ : Option Nat}
theorem row_frozen (h : R T N av0 w0 sp s a w E) {r el sz n m : Nat} {l : List C} {is : List I} (hr : s.rs[r]? = some (.row el sz n l)) (hi : imm l = some is) {av' : Nat → Prop} (ha : But r av' av0 s E) {v : Value}
    (hv : CRel E (AV av0 s.rs E) w (.sa r m) v) : IRel av' w (.sl sz m (flat sz is)) v := by
  obtain ⟨e', ao, n', cap, h1, h2, h3, rfl⟩ := hv
  obtain ⟨q1, q2, xs, q3, q4⟩ := h.roots r _ _ hr h1
  have him := imm_eq hi
  subst him
  have hx := lift_to q4
  have hxl := hx.length
  rcases q3.2 with ⟨q5, q6⟩ | ⟨g, cap', cur, q5, q6, q7, q8, q9, q10, q11⟩
  · rw [h2] at q5
    simp only [Value.slice.injEq] at q5
    obtain ⟨rfl, rfl, rfl⟩ := q5
    exact ⟨none, 0, rfl, by omega, by omega, fun h0 => by omega⟩
  · rw [h2] at q5
    simp only [Value.slice.injEq] at q5
    obtain ⟨rfl, rfl, rfl⟩ := q5
    have hat : atRoot E r g e'.2.2 := by
      obtain ⟨e1, e2, e3⟩ := e'
      have h2 : e2 = _ := h2
      have q2 : e1 = e2.ownBlock := q2
      rw [h2] at q2
      exact ⟨e2, by rw [h1, q2]; rfl⟩
    refine ⟨_, cap, rfl, by omega, by omega, fun _ => ⟨_, rfl, rfl, ha.no g _ hat, (Array.getElem?_eq_some_iff.1 q7).1, fun i hi' j hj => ?_⟩⟩
    have hlt : i * sz + j < n' * sz := by
      have := Nat.mul_le_mul_right sz (show i + 1 ≤ n' by omega)
      rw [Nat.add_mul, Nat.one_mul] at this
      omega
    obtain ⟨x, h5, h6⟩ := getL_rel hx (q := i * sz + j) (by rw [hxl, q3.1]; exact hlt)
    refine ⟨x, ?_, IRel.mono (Keeps.refl _ w) (fun b _ hb => ha.le b hb) h6⟩
    rw [Addr.add_mid, getElem?_lit q7]
    rw [← q11, List.getElem?_take, if_pos hlt] at h5
    simpa using h5
theorem All2.mapL {α β γ : Type} {f : α → β} {Ra : α → γ → Prop} {Rb : β → γ → Prop} (h : ∀ x y, Ra x y → Rb (f x) y) {l : List α} {m : List γ} (k : All2 Ra l m) : All2 Rb (l.map f) m := by
  induction k with
  | nil => exact .nil
  | cons q _ ih => exact .cons (h _ _ q) ih
theorem look_map {sl : Slots} (f : D → D) : ∀ {t : Tmp} {d : D} {c : Cond}, look (sl.map fun x => (x.1, f x.2.1, x.2.2)) t = some (d, c) → ∃ d0, d = f d0 ∧ look sl t = some (d0, c) := by
  induction sl with
  | nil => intro t d c h; simp [look] at h
  | cons x sl ih =>
    intro t d c h
    obtain ⟨k, e, c0⟩ := x
    simp only [List.map_cons, look] at h ⊢
    split at h
    · rename_i hk
      simp only [Option.some.injEq, Prod.mk.injEq] at h
      obtain ⟨rfl, rfl⟩ := h
      exact ⟨e, rfl, by simp⟩
    · rename_i hk
      obtain ⟨d0, h1, h2⟩ := ih h
      exact ⟨d0, h1, h2⟩
theorem subR_live {r sz : Nat} {get : Nat → Nat → I} {x : Root} : (subR r sz get x).live → x.live := by
  cases x <;> exact id
theorem subC_rel2 {r sz : Nat} {get : Nat → Nat → I} (hC : ∀ av', But r av' av0 s E → ∀ m v, CRel E (AV av0 s.rs E) w (.sa r m) v → IRel av' w (.sl sz m get) v) {av' : Nat → Prop} (ha : But r av' av0 s E) {x : C} {v : Value}
    (hv : CRel E (AV av0 s.rs E) w x v) : CRel E av' w (subC r sz get x) v := by
  unfold subC
  split
  · rename_i q m
    cases hq : Nat.beq q r with
    | true =>
      have hq := Nat.eq_of_beq_eq_true hq
      subst hq
      exact hC _ ha _ _ hv
    | false => exact CRel.mono (Env.le_refl E) (Keeps.refl _ w) (fun b _ q => ha.le b q) hv
  · exact CRel.mono (Env.le_refl E) (Keeps.refl _ w) (fun b _ q => ha.le b q) hv
theorem subD_rel2 {r sz : Nat} {get : Nat → Nat → I} (hC : ∀ av', But r av' av0 s E → ∀ m v, CRel E (AV av0 s.rs E) w (.sa r m) v → IRel av' w (.sl sz m get) v) {av' : Nat → Prop} (ha : But r av' av0 s E) {d : D} {v : Value}
    (hv : DRel E (AV av0 s.rs E) w d v) : DRel E av' w (subD r sz get d) v := by
  cases d with
  | c x => exact subC_rel2 hC ha hv
  | a l => obtain ⟨cs, h1, h2⟩ := hv; exact ⟨cs, h1, h2.mapL fun _ _ q => subC_rel2 hC ha q⟩
  | t l =>
    obtain ⟨vs, h1, h2⟩ := hv
    refine ⟨vs, h1, h2.mapL ?_⟩
    rintro ⟨b, l⟩ y q
    cases b with
    | true => obtain ⟨cs, q1, q2⟩ := q; exact ⟨cs, q1, q2.mapL fun _ _ q => subC_rel2 hC ha q⟩
    | false => obtain ⟨c, q1, q2⟩ := q; exact ⟨_, by simp [show l = [c] from q1], subC_rel2 hC ha q2⟩
theorem arr_frozen (h : R T N av0 w0 sp s a w E) {r el sz n m : Nat} {get : Nat → Nat → I} (hr : s.rs[r]? = some (.arr el sz n get)) {av' : Nat → Prop} (ha : But r av' av0 s E) {v : Value}
    (hv : CRel E (AV av0 s.rs E) w (.sa r m) v) : IRel av' w (.sl sz m get) v := by
  obtain ⟨e', ao, n', cap, h1, h2, h3, rfl⟩ := hv
  obtain ⟨q1, q2, xs, q3, q4⟩ := h.roots r _ _ hr h1
  rcases q3.2 with ⟨q5, q6⟩ | ⟨g, cap', cur, q5, q6, q7, q8, q9, q10, q11⟩
  · rw [h2] at q5
    simp only [Value.slice.injEq] at q5
    obtain ⟨rfl, rfl, rfl⟩ := q5
    exact ⟨none, 0, rfl, by omega, by omega, fun h0 => by omega⟩
  · rw [h2] at q5
    simp only [Value.slice.injEq] at q5
    obtain ⟨rfl, rfl, rfl⟩ := q5
    have hat : atRoot E r g e'.2.2 := by
      obtain ⟨e1, e2, e3⟩ := e'
      have h2 : e2 = _ := h2
      have q2 : e1 = e2.ownBlock := q2
      rw [h2] at q2
      exact ⟨e2, by rw [h1, q2]; rfl⟩
    refine ⟨_, cap, rfl, by omega, by omega, fun _ => ⟨_, rfl, rfl, ha.no g _ hat, (Array.getElem?_eq_some_iff.1 q7).1, fun i hi' j hj => ?_⟩⟩
    have hlt : i * sz + j < n' * sz := by
      have := Nat.mul_le_mul_right sz (show i + 1 ≤ n' by omega)
      rw [Nat.add_mul, Nat.one_mul] at this
      omega
    obtain ⟨x, h5, h6⟩ := q4 i (by omega) j hj
    refine ⟨x, ?_, IRel.mono (Keeps.refl _ w) (fun b _ hb => ha.le b hb) h6⟩
    rw [Addr.add_mid, getElem?_lit q7]
    rw [← q11, List.getElem?_take, if_pos hlt] at h5
    simpa using h5
theorem AV_out (h : R T N av0 w0 sp s a w E) {r : Nat} {x0 : Root} (hl : s.rs[r]? = some x0) (hx0 : x0.live) {sz : Nat} {get : Nat → Nat → I}
    (hC : ∀ av', But r av' av0 s E → ∀ m v, CRel E (AV av0 s.rs E) w (.sa r m) v → IRel av' w (.sl sz m get) v) : R T N av0 w0 sp (freezeA r sz get s) a w E ∧ (NilS s.sl → NilS (freezeA r sz get s).sl) := by
  unfold freezeA
  have key : ∀ (q : Nat) (y : Root), (setAt (s.rs.map (subR r sz get)) r .dead)[q]? = some y → y.live → q ≠ r ∧ ∃ x, s.rs[q]? = some x ∧ y = subR r sz get x ∧ x.live := by
    intro q y h1 h2
    rw [setAt_eq, List.getElem?_set] at h1
    split at h1
    · rename_i hq
      split at h1
      · simp only [Option.some.injEq] at h1; subst h1; exact h2.elim
      · simp at h1
    · rename_i hq
      rw [List.getElem?_map] at h1
      cases hx : s.rs[q]? with
      | none => rw [hx] at h1; simp at h1
      | some x =>
        rw [hx] at h1
        simp only [Option.map_some, Option.some.injEq] at h1
        subst h1
        exact ⟨fun e => hq e.symm, x, rfl, rfl, subR_live h2⟩
  have hb : But r (AV av0 (setAt (s.rs.map (subR r sz get)) r .dead) E) av0 s E := by
    refine ⟨?_, ?_⟩
    · rintro b (q | ⟨q, y, z, h1, h2, h3⟩)
      · exact .inl q
      · obtain ⟨_, x, h4, _, h5⟩ := key q y h1 h2
        exact .inr ⟨q, x, z, h4, h5, h3⟩
    · rintro b z hat (q | ⟨q, y, z', h1, h2, h3⟩)
      · have q1 := (h.blk r _ b z hl hx0 hat).1
        have q2 := h.outer b q
        exact q2.2 (q1.own q2.1)
      · obtain ⟨hne, x, h4, _, h5⟩ := key q y h1 h2
        exact hne (h.inj q r x _ b z' z h4 hl h5 hx0 h3 hat)
  refine ⟨⟨h.size, h.defers, fun x hx => DRel.mono (Env.le_refl E) (Keeps.refl _ w) (fun b _ q => hb.le b q) (h.spec x hx), h.below, by rw [setAt_eq]; simpa using h.len, h.outer, ?_, ?_, ?_, ?_, h.glob.mono (Keeps.refl _ w) (fun b _ q => hb.le b q)⟩, ?_⟩
  · intro q y e h1 h2
    by_cases hlv : y.live
    · obtain ⟨hne, x, h4, rfl, h5⟩ := key q y h1 hlv
      have hx := h.roots q x e h4 h2
      cases x with
      | box l2 =>
        obtain ⟨b, cs, Tc, p1, p2, p3, p4⟩ := hx
        exact ⟨b, cs, Tc, p1, by rw [p2]; simp, p3, p4.mapL fun _ _ q => subC_rel2 hC hb q⟩
      | row el2 sz2 n2 l2 =>
        obtain ⟨p1, p2, xs, p3, p4⟩ := hx
        exact ⟨p1, p2, xs, p3, p4.mapL fun _ _ q => subC_rel2 hC hb q⟩
      | dead => trivial
      | arr el2 sz2 n2 get => exact RootRel.mono (x := .arr el2 sz2 n2 get) (Env.le_refl E) (Keeps.refl _ w) (fun b _ q => hb.le b q) (fun _ _ _ => rfl) hx
      | set l2 => exact hx
      | dfr => exact hx
      | loop f M sl ps as bd st pend => exact RootRel.mono (x := .loop f M sl ps as bd st pend) (Env.le_refl E) (Keeps.refl _ w) (fun b _ q => hb.le b q) (fun _ _ _ => rfl) hx
    · cases y with
      | dead => trivial
      | _ => exact (hlv trivial).elim
  · intro q y b z h1 h2 h3
    obtain ⟨_, x, h4, _, h5⟩ := key q y h1 h2
    exact h.blk q x b z h4 h5 h3
  · intro q q' y y' b z z' h1 h1' h2 h2' h3 h3'
    obtain ⟨_, x, h4, _, h5⟩ := key q y h1 h2
    obtain ⟨_, x', h4', _, h5'⟩ := key q' y' h1' h2'
    exact h.inj q q' x x' b z z' h4 h4' h5 h5' h3 h3'
  · intro t d c hlk
    obtain ⟨d0, rfl, h1⟩ := look_map (subD r sz get) hlk
    obtain ⟨p1, p2, p3⟩ := h.slots t d0 c h1
    exact ⟨p1, fun q => subD_rel2 hC hb (p2 q), p3⟩
  · intro hn x hx
    obtain ⟨y, hy, rfl⟩ := List.mem_map.1 hx
    exact hn y hy
theorem R.freeze (h : R T N av0 w0 sp s a w E) {r : Nat} {s' : VS} (e : freeze r s = some s') : R T N av0 w0 sp s' a w E ∧ (NilS s.sl → NilS s'.sl) := by
  unfold Go.V.freeze at e
  split at e
  · rename_i el sz n l hl
    rw [nthF_eq, nth_eq] at hl
    unfold freezeL at e
    split at e
    case h_2 => simp at e
    rename_i is hi
    simp only [Option.some.injEq] at e
    subst e
    exact AV_out h hl trivial fun av' ha m v hv => row_frozen h hl hi ha hv
  · rename_i el sz n get hl
    rw [nthF_eq, nth_eq] at hl
    simp only [Option.some.injEq] at e
    subst e
    exact AV_out h hl trivial fun av' ha m v hv => arr_frozen h hl ha hv
  · simp only [Option.some.injEq] at e
    subst e
    exact ⟨h, id⟩
  · simp at e
theorem R.freezes : ∀ {l : List Nat} {s s' : VS}, R T N av0 w0 sp s a w E → freezes l s = some s' → R T N av0 w0 sp s' a w E ∧ (NilS s.sl → NilS s'.sl)
  | [], s, s', h, e => by
    have e : some s = some s' := e
    simp only [Option.some.injEq] at e; subst e; exact ⟨h, id⟩
  | r :: l, s, s', h, e => by
    have e : (match Go.V.freeze r s with
      | some s1 => Go.V.freezes l s1
      | Option.none => Option.none) = some s' := e
    split at e
    case h_2 => simp at e
    rename_i s1 h1
    obtain ⟨h2, h3⟩ := h.freeze h1
    obtain ⟨h4, h5⟩ := R.freezes h2 e
    exact ⟨h4, fun q => h5 (h3 q)⟩
end
open Go.RowKit
section
variable {P : Program} {T : Tab} {lo : Lo} {hi : Hint} {N : Nat} {av0 : Nat → Prop} {w0 : Kp} {sp : List (D × Value)} {s : VS} {a : Act} {w : World} {E : Env} {ρ : Option Nat}
theorem NilS.free {sl : Slots} (h : NilS sl) (t : Tmp) : free t sl = true := by
  induction sl with
  | nil => rfl
  | cons x sl ih =>
    have hx := h x (List.mem_cons_self ..)
    simp only [Go.V.free, hx, condFree]
    exact ih fun y hy => h y (List.mem_cons_of_mem _ hy)
theorem putF_R (h : R T N av0 w0 sp s a w E) (hn : NilS s.sl) {dst : Option Tmp} {d : D} {s' : VS} (e : putF N s dst d = some s') {v : Value} (hv : DRel E (AV av0 s.rs E) w d v) : R T N av0 w0 sp s' (a.put dst v) w E ∧ NilS s'.sl := by
  unfold putF at e
  split at e
  · simp only [Option.some.injEq] at e; subst e; exact ⟨h, hn⟩
  · rename_i t
    obtain ⟨ht, e⟩ := Bool.rec_some e
    simp only [Option.some.injEq] at e
    subst e
    refine ⟨h.put (g := []) ?_ (fun _ => hv) (fun q => (q (CondsHold.nil a)).elim), hn.cons _ _⟩
    simp only [okDst, ht, hn.free t, condFree]
theorem stepF_R {b : Nat} {dst : Option Tmp} {e : Eff} {s' : VS} (hn : NilS s.sl) (hs : stepF N s dst e = some s') {v : Value} {w' : World} {E' : Env} (ha : After T N av0 w0 sp s a w E b e v w' E') (hd : effD e = none → dst = none) :
    R T N av0 w0 sp s' (a.put dst v) w' E' ∧ NilS s'.sl := by
  obtain ⟨_, h1, h2⟩ := ha
  unfold stepF at hs
  split at hs
  · exact putF_R h1 hn hs (h2 _ rfl)
  · rename_i d ws
    unfold putOF at hs
    split at hs
    · exact putF_R h1 hn hs (h2 _ rfl)
    · simp only [Option.some.injEq] at hs
      subst hs
      rw [hd rfl]
      exact ⟨h1, hn⟩
  · exact putF_R h1 hn hs (h2 _ rfl)
  · simp at hs
theorem ocallF_val {rs : List Root} {f : FuncId} {ds : List D} {b : Nat} {e : Eff} (ef : ocallF lo rs f ds b = some e) : (∃ l, e = .cold l) ∨ effD e ≠ none := by
  unfold ocallF at ef
  split at ef
  · simp only [Option.some.injEq] at ef; subst ef; exact .inr (by simp [effD])
  · rename_i d q el sz n l ho
    rcases ownF_row ho with ⟨is, q', n', rs', el', sz', l', hi, hc, hq, hp, hd, hws⟩ | ⟨is, q', n', rs', el', sz', get', hi, hc, hq, hd, hws⟩
    case inr => simp at hws
    subst hd
    cases hpl : plainC l with
    | true => rw [hpl] at ef; simp only [Option.some.injEq] at ef; subst ef; exact .inr (by simp [effD])
    | false =>
      rw [hpl] at ef
      rcases coldF_some (show coldF rs ds _ = some e from ef) with hc' | ⟨rfl, hc'⟩
      · exact .inl hc'
      · exact .inr (by simp [effD])
  · rename_i d q el sz n get ho
    rcases ownF_row ho with ⟨is, q', n', rs', el', sz', l', hi, hc, hq, hp, hd, hws⟩ | ⟨is, q', n', rs', el', sz', get', hi, hc, hq, hd, hws⟩
    case inl => simp at hws
    subst hd
    rcases coldF_some (show coldF rs ds _ = some e from ef) with hc' | ⟨rfl, hc'⟩
    · exact .inl hc'
    · exact .inr (by simp [effD])
  · simp at ef
theorem pcallF_val {rs : List Root} {f : FuncId} {ds : List D} {e : Eff} (ef : pcallF lo rs f ds = some e) : (∃ l, e = .cold l) ∨ effD e ≠ none := by
  unfold pcallF at ef
  split at ef
  case h_2 => simp at ef
  rename_i d hd
  cases hp : plainD d with
  | true => rw [hp] at ef; simp only [Option.some.injEq] at ef; subst ef; exact .inr (by simp [effD])
  | false =>
    rw [hp] at ef
    obtain ⟨h1, ef⟩ := Bool.rec_some (show (Bool.rec none (coldF rs ds (.val d)) (pureD d) : Option Eff) = some e from ef)
    rcases coldF_some ef with hc | ⟨rfl, hc⟩
    · exact .inl hc
    · exact .inr (by simp [effD])
theorem effF_val {rs : List Root} {f : FuncId} {ds : List D} {e : Eff} (ef : effF lo rs f ds = some e) : effD e ≠ none := by
  unfold effF at ef
  split at ef
  · simp only [Option.some.injEq] at ef; subst ef; simp [effD]
  · simp at ef
theorem effO_dst {b : Nat} {dst : Option Tmp} {op : Op} {e : Eff} (ef : effO T lo hi b s dst op = some e) : (∃ l, e = .cold l) ∨ effD e ≠ none ∨ dst = none := by
  unfold effO at ef
  split at ef
  · simp only [Option.some.injEq] at ef; subst ef; exact .inr (.inl (by simp [effD]))
  · cases op with
    | box t x =>
      have ef : boxF b s x = some e := ef
      unfold boxF at ef
      split at ef
      · split at ef
        · simp only [Option.some.injEq] at ef; subst ef; exact .inr (.inl (by simp [effD]))
        · simp at ef
      · simp at ef
    | alloc t =>
      have ef : allocF T b t = some e := ef
      unfold allocF at ef
      split at ef
      · split at ef
        · simp only [Option.some.injEq] at ef; subst ef; exact .inr (.inl (by simp [effD]))
        · simp at ef
      · simp at ef
    | store t x v =>
      have ef : storeF T s dst t x v = some e := ef
      unfold storeF at ef
      split at ef
      · simp at ef
      · exact .inr (.inr rfl)
    | mapUpdate t m k v =>
      have ef : mapuF T s dst t m k v = some e := ef
      unfold mapuF at ef
      split at ef
      · simp at ef
      · exact .inr (.inr rfl)
    | makeMap t r =>
      have ef : mkmapF T b t r = some e := ef
      unfold mkmapF at ef
      split at ef
      · simp only [Option.some.injEq] at ef; subst ef; exact .inr (.inl (by simp [effD]))
      · simp at ef
    | makeSlice t l c =>
      have ef : mkslF T b s t l c = some e := ef
      unfold mkslF at ef
      split at ef
      case h_2 => simp at ef
      split at ef
      case h_2 => simp at ef
      split at ef
      case h_2 => simp at ef
      split at ef
      case h_2 => simp at ef
      split at ef
      case h_2 => simp at ef
      obtain ⟨_, ef⟩ := Bool.rec_some ef
      obtain ⟨_, ef⟩ := Bool.rec_some ef
      obtain ⟨_, ef⟩ := Bool.rec_some ef
      simp only [Option.some.injEq] at ef; subst ef; exact .inr (.inl (by simp [effD]))
    | buildSlice t n ps =>
      have ef : bsF T b s (coldT hi dst) t n ps.toList = some e := ef
      unfold bsF at ef
      split at ef
      case h_2 => simp at ef
      split at ef
      case h_2 => simp at ef
      split at ef
      case h_2 => simp at ef
      split at ef
      case h_2 => simp at ef
      obtain ⟨_, ef⟩ := Bool.rec_some ef
      simp only [Option.some.injEq] at ef; subst ef; exact .inr (.inl (by rcases bornE_cases (coldT hi dst) b _ _ n _ with hc | ⟨_, _, hc⟩ <;> rw [hc] <;> simp [effD]))
    | call c =>
      have ef : callO T lo hi b s c = some e := ef
      unfold callO at ef
      split at ef
      · unfold appF at ef
        split at ef
        case h_2 => simp at ef
        replace ef := (Bool.rec_some ef).2
        split at ef
        case h_2 => simp at ef
        split at ef
        · rename_i e' he'
          subst ef
          have fin2 : ∀ {el sz k : Nat} {l' : Nat → Nat → I} {by' : Nat} {c : C}, apdA el sz k l' by' b s.rs c = some e → effD e ≠ none := by
            intro el sz k l' by' c q
            unfold apdA at q
            split at q
            · replace q := (Bool.rec_some q).2
              simp only [Option.some.injEq] at q; subst q; simp [effD]
            · split at q
              · replace q := (Bool.rec_some q).2
                replace q := (Bool.rec_some q).2
                replace q := (Bool.rec_some q).2
                simp only [Option.some.injEq] at q; subst q; simp [effD]
              · simp at q
            · simp at q
          unfold apdT at he'
          split at he'
          case h_2 => simp at he'
          split at he'
          case h_2 => simp at he'
          split at he'
          case h_2 => simp at he'
          simp only [Option.some.injEq] at he'
          unfold apdG at he'
          split at he'
          · exact .inr (.inl (fin2 (Bool.rec_some he').2))
          · unfold coldC at he'
            split at he'
            · simp only [Option.some.injEq] at he'
              exact .inl ⟨_, he'.symm⟩
            · simp at he'
        unfold apdF at ef
        have fin : ∀ {el sz k : Nat} {l' : List C} {by' : Nat} {c : C}, apd el sz k l' by' b s.rs c = some e → effD e ≠ none := by
          intro el sz k l' by' c q
          unfold apd at q
          split at q
          · split at q
            · simp only [Option.some.injEq] at q; subst q; simp [effD]
            · replace q := (Bool.rec_some q).2
              simp only [Option.some.injEq] at q; subst q; simp [effD]
          · split at q
            · replace q := (Bool.rec_some q).2
              replace q := (Bool.rec_some q).2
              simp only [Option.some.injEq] at q; subst q; simp [effD]
            · simp at q
          · simp at q
        split at ef
        case h_2 => simp at ef
        split at ef
        case h_2 => simp at ef
        split at ef
        case h_2 => simp at ef
        split at ef
        case h_2 => simp at ef
        split at ef
        · exact .inr (.inl (fin (Bool.rec_some ef).2))
        · exact .inr (.inl (fin (Bool.rec_some ef).2))
      · unfold valueF at ef
        split at ef
        case h_2 => simp at ef
        split at ef
        · unfold yldF at ef
          split at ef
          · simp only [Option.some.injEq] at ef; subst ef; exact .inr (.inl (by simp [effD]))
          · simp at ef
        · split at ef
          case h_2 => simp at ef
          unfold callF at ef
          split at ef
          · exact (pcallF_val ef).imp id .inl
          · exact .inr (.inl (effF_val ef))
          · exact (ocallF_val ef).imp id .inl
          · unfold wrF at ef
            split at ef
            · replace ef := (Bool.rec_some ef).2
              simp only [Option.some.injEq] at ef; subst ef; exact .inr (.inl (by simp [effD]))
            · simp at ef
          · rename_i ds _ _ _ _ _ _ _ _
            revert ef
            generalize pureDs _ = p
            intro ef
            cases p with
            | true => exact (pcallF_val ef).imp id .inl
            | false => exact .inr (.inl (effF_val ef))
      · simp at ef
    | _ => simp [workO] at ef
theorem stepF_cold {dst : Option Tmp} {l : List Nat} {s' : VS} : stepF N s dst (.cold l) ≠ some s' := by simp [stepF]
theorem workF_sound (hty : TyOK P T) (hl : LoOK T P lo) (h : R T N av0 w0 sp s a w E) (hn : NilS s.sl) {o : Oper} {s' : VS} (e : workF T lo hi N s o.dst o.op = some s')
    {next : Act → World → Prop} (hnext : ∀ a' w' E', Kept E E' → R T N av0 w0 sp s' a' w' E' → NilS s'.sl → next a' w') : Op1 P true o a w next := by
  have one : ∀ {s : VS}, R T N av0 w0 sp s a w E → NilS s.sl → ∀ {ef : Eff}, effO T lo hi s.rs.length s o.dst o.op = some ef → stepF N s o.dst ef = some s' → Op1 P true o a w next := by
    intro s h hn ef h1 h2
    have hd := effO_dst h1
    rcases effO_sound hty hl h hn (.inr rfl) h1 (next := next) (fun v w' E' ha => by
      obtain ⟨h3, h4⟩ := stepF_R hn h2 ha (fun q => by
        rcases hd with ⟨l, rfl⟩ | hd | hd
        · exact (stepF_cold h2).elim
        · exact (hd q).elim
        · exact hd)
      exact hnext _ _ _ (Kept.of_grew ha.1 (Nat.le_of_eq h.len)) h3 h4) with ⟨l, rfl⟩ | h3
    · exact (stepF_cold h2).elim
    · exact h3
  unfold workF at e
  split at e
  · rename_i l _
    unfold coldW at e
    split at e
    case h_2 => simp at e
    rename_i s1 hs1
    obtain ⟨h1, h2⟩ := h.freezes hs1
    split at e
    case h_2 => simp at e
    rename_i ef hef
    exact one h1 (h2 hn) hef e
  · rename_i ef _ hef
    exact one h hn hef e
  · simp at e
theorem wantF_spec (h : R T N av0 w0 sp s a w E) (hn : NilS s.sl) {ops : Array Oper} {o : Oper} {b : Bool} (e : wantF ops.toList s.sl o.guard = some b) : Region.wanted o (yielded ops a.tmps) = b := by
  unfold wantF at e
  unfold Region.wanted
  split at e
  · rename_i hg
    simp only [Option.some.injEq] at e
    subst e
    rw [hg]
  · rename_i j want hg
    rw [hg]
    split at e
    case h_2 => simp at e
    rename_i p hp
    rw [nthF_eq, nth_eq] at hp
    split at e
    case h_2 => simp at e
    rename_i t ht
    have hpo : ops[j]? = some p := by simpa using hp
    unfold wantC at e
    split at e
    · rename_i hl
      have hl := lookF_look hn hl
      simp only [Option.some.injEq] at e
      subst e
      obtain ⟨hN, h1, h2⟩ := h.slots t _ _ hl
      obtain ⟨vs, hv, hvs⟩ := h1 (CondsHold.nil a)
      have hsz : t < a.tmps.size := by rw [h.size]; exact hN
      have hv' : a.tmps[t]? = some (a.tmps.getD t undef) := by simp [hsz]
      have hy : yielded ops a.tmps j = none := by
        unfold yielded
        rw [hpo]
        simp only [Option.bind_some, ht, hv', hv]
      simp [hy]
    · split at e
      case h_2 => simp at e
      rename_i x hx
      have hl := lookF_look hn (boolF_some hx)
      simp only [Option.some.injEq] at e
      subst e
      obtain ⟨hN, h1, h2⟩ := h.slots t _ _ hl
      have hv := (h1 (CondsHold.nil a)).1
      have hsz : t < a.tmps.size := by rw [h.size]; exact hN
      have hv' : a.tmps[t]? = some (a.tmps.getD t undef) := by simp [hsz]
      have hy : yielded ops a.tmps j = some x := by
        unfold yielded
        rw [hpo]
        simp only [Option.bind_some, ht, hv', hv]
      simp only [hy]
      cases x <;> cases want <;> rfl
theorem undef_rel {E : Env} {av : Nat → Prop} {w : World} : DRel E av w (.t []) undef := ⟨#[], rfl, .nil⟩
theorem opsF_sound (hty : TyOK P T) (hl : LoOK T P lo) {ops : Array Oper} {Q : Exit → Act → World → Prop} {sF : VS} {E0 : Env} (hQ : ∀ a' w' E', Kept E0 E' → R T N av0 w0 sp sF a' w' E' → NilS sF.sl → Q .normal a' w') :
    ∀ {l : List Oper} {s : VS} {a : Act} {w : World} {E : Env}, opsF T lo hi N ops.toList l s = some sF → Kept E0 E → R T N av0 w0 sp s a w E → NilS s.sl → wpListIn (Fr ρ) 0 P ops Q l a w
  | [], s, a, w, E, e, hk, h, hn => by
    have e : some s = some sF := e
    simp only [Option.some.injEq] at e; subst e; exact hQ a w E hk h hn
  | o :: l, s, a, w, E, e, hk, h, hn => by
    have e : (match opF T lo hi N ops.toList s o with
      | some s' => opsF T lo hi N ops.toList l s'
      | none => none) = some sF := e
    split at e
    case h_2 => simp at e
    rename_i s' hs
    unfold opF at hs
    unfold wpListIn
    split at hs
    · rename_i hw
      rw [if_pos (wantF_spec h hn hw)]
      exact (workF_sound hty hl h hn hs fun a' w' E' hk' h' hn' => opsF_sound hty hl hQ e (hk.trans hk') h' hn').wpIn
    · rename_i hw
      rw [if_neg (by rw [wantF_spec h hn hw]; simp)]
      obtain ⟨h1, h2⟩ := putF_R h hn hs undef_rel
      exact ⟨fun _ _ => trivial, opsF_sound hty hl hQ e hk h1 h2⟩
    · simp at hs
end
section
variable {T : Tab} {lo : Lo} {hi : Hint} {sl sl' : Slots} {rs rs' : List Root} {df df' : List Nat}
theorem evsF_cong : ∀ {l : List Operand}, (∀ x ∈ l, evF sl x = evF sl' x) → evsF sl l = evsF sl' l
  | [], _ => rfl
  | x :: l, h => by
    have e1 := h x (List.mem_cons_self ..)
    have e2 := evsF_cong (l := l) fun y hy => h y (List.mem_cons_of_mem _ hy)
    show (match evF sl x with
      | some d => match evsF sl l with
        | some r => some (d :: r)
        | none => none
      | none => none) = _
    rw [e1, e2]; rfl
theorem fillF_cong {flds : List (Nat × Nat)} : ∀ {ps : List (Nat × Operand)}, (∀ p ∈ ps, evF sl p.2 = evF sl' p.2) → fillF flds sl ps = fillF flds sl' ps
  | [], _ => rfl
  | p :: ps, h => by
    have e1 := h p (List.mem_cons_self ..)
    have e2 := fillF_cong (flds := flds) (ps := ps) fun y hy => h y (List.mem_cons_of_mem _ hy)
    funext l
    show (match nthF flds p.1 with
      | some o => match evF sl p.2 with
        | some d => match d.cells with
          | some cs => (Bool.rec none (match put l o.1 cs with
            | some l' => fillF flds sl ps l'
            | none => none) (Nat.beq cs.length o.2 && Nat.blt 0 o.2) : Option (List C))
          | none => none
        | none => none
      | none => none) = _
    rw [e1, e2]; rfl
theorem fillAF_cong {sz : Nat} : ∀ {ps : List (Nat × Operand)}, (∀ p ∈ ps, evF sl p.2 = evF sl' p.2) → fillAF sz sl ps = fillAF sz sl' ps
  | [], _ => rfl
  | p :: ps, h => by
    have e1 := h p (List.mem_cons_self ..)
    have e2 := fillAF_cong (sz := sz) (ps := ps) fun y hy => h y (List.mem_cons_of_mem _ hy)
    funext l
    show (match evF sl p.2 with
      | some d => match d.cells with
        | some cs => (Bool.rec none (match put l (p.1 * sz) cs with
          | some l' => fillAF sz sl ps l'
          | none => none) (Nat.beq cs.length sz && Nat.blt 0 sz) : Option (List C))
        | none => none
      | none => none) = _
    rw [e1, e2]; rfl
theorem lenF_cong {ts : List TypeId} {xs : List Operand} (h : ∀ x ∈ xs, evF sl x = evF sl' x) : lenF T ⟨sl, rs, df⟩ ts xs = lenF T ⟨sl', rs, df'⟩ ts xs := by
  unfold lenF
  split
  · simp only [h _ (List.mem_cons_self ..)]
  · rfl
theorem maxF_cong {xs : List Operand} (h : ∀ x ∈ xs, evF sl x = evF sl' x) : maxF ⟨sl, rs, df⟩ xs = maxF ⟨sl', rs, df'⟩ xs := by
  unfold maxF
  split
  · simp only [h _ (List.mem_cons_self ..), h _ (List.mem_cons_of_mem _ (List.mem_cons_self ..))]
  · rfl
theorem minF_cong {xs : List Operand} (h : ∀ x ∈ xs, evF sl x = evF sl' x) : minF ⟨sl, rs, df⟩ xs = minF ⟨sl', rs, df'⟩ xs := by
  unfold minF
  split
  · simp only [h _ (List.mem_cons_self ..), h _ (List.mem_cons_of_mem _ (List.mem_cons_self ..))]
  · rfl
theorem sliceF_cong {t : Nat} {x : Operand} {l m k : Option Operand} (h0 : evF sl x = evF sl' x) (hl : ∀ y, l = some y → evF sl y = evF sl' y) (h : ∀ y, m = some y → evF sl y = evF sl' y) : sliceF T ⟨sl, rs, df⟩ t x l m k = sliceF T ⟨sl', rs, df'⟩ t x l m k := by
  unfold sliceF
  split
  · simp only [h0, h _ rfl]
  · simp only [h0, hl _ rfl]
  · rfl
theorem lookO_cong {op : Op} (h : ∀ x ∈ op.operands.toList, evF sl x = evF sl' x) : lookO T ⟨sl, rs, df⟩ op = lookO T ⟨sl', rs, df'⟩ op := by
  cases op with
  | move x => exact h x (by simp [Op.operands])
  | assign x => exact h x (by simp [Op.operands])
  | pick c x y => simp only [lookO, pickF, h c (by simp [Op.operands]), h x (by simp [Op.operands]), h y (by simp [Op.operands])]
  | binOp o t x y t2 => simp only [lookO, binF, nilcF, h x (by simp [Op.operands]), h y (by simp [Op.operands])]
  | unOp o t x => simp only [lookO, unF, h x (by simp [Op.operands])]
  | nilCheck x => simp only [lookO, nilchkF, h x (by simp [Op.operands])]
  | fieldAddr t x f => simp only [lookO, faddrF, h x (by simp [Op.operands])]
  | indexAddr t x i => simp only [lookO, iaddrF, h x (by simp [Op.operands]), h i (by simp [Op.operands])]
  | load t x => simp only [lookO, loadF, h x (by simp [Op.operands])]
  | extract x k => simp only [lookO, extractF, h x (by simp [Op.operands])]
  | build t ps =>
    simp only [lookO, buildF]
    have e : ∀ fs, fillF fs sl ps.toList = fillF fs sl' ps.toList := fun fs => fillF_cong fun p hp => h p.2 (by simp only [Op.operands, List.mem_map]; exact ⟨p, hp, rfl⟩)
    simp only [e]
  | makeFunc fn first caps =>
    have e : evsF sl caps.toList = evsF sl' caps.toList := evsF_cong fun p hp => h p (by simp only [Op.operands, Array.toList_append, List.mem_append]; exact .inr hp)
    simp only [lookO, mkfnF, e]
  | call c =>
    have e : ∀ x ∈ c.args.toList, evF sl x = evF sl' x := fun x hx => h x (by simp only [Op.operands, Call.operands, Array.toList_append, List.mem_append]; exact .inr hx)
    simp only [lookO, calF]
    split
    · rename_i b _
      unfold builtF
      split
      · exact lenF_cong e
      · exact maxF_cong e
      · exact minF_cong e
      · rfl
    · rfl
  | lookup t x i ok => simp only [lookO, lookupF, fmF, h x (by simp [Op.operands]), h i (by simp [Op.operands])]
  | slice t x l m k => exact sliceF_cong (h x (by simp [Op.operands])) (fun y hy => h y (by simp [Op.operands, hy])) fun y hy => h y (by simp [Op.operands, hy])
  | _ => rfl
theorem appF_cong {b : Nat} {ts : List TypeId} {xs : List Operand} (h : ∀ x ∈ xs, evF sl x = evF sl' x) : appF T b ⟨sl, rs, df⟩ ts xs = appF T b ⟨sl', rs, df'⟩ ts xs := by
  unfold appF
  split
  · simp only [h _ (List.mem_cons_self ..), h _ (List.mem_cons_of_mem _ (List.mem_cons_self ..))]
  · rfl
theorem workO_cong {b : Nat} {dst : Option Tmp} {op : Op} (h : ∀ x ∈ op.operands.toList, evF sl x = evF sl' x) : workO T lo hi b ⟨sl, rs, df⟩ dst op = workO T lo hi b ⟨sl', rs, df'⟩ dst op := by
  cases op with
  | box t x => simp only [workO, boxF, h x (by simp [Op.operands])]
  | alloc t => rfl
  | store t x v => simp only [workO, storeF, h x (by simp [Op.operands]), h v (by simp [Op.operands])]
  | buildSlice t n ps =>
    simp only [workO, bsF]
    have e : ∀ sz, fillAF sz sl ps.toList = fillAF sz sl' ps.toList := fun sz => fillAF_cong fun p hp => h p.2 (by simp only [Op.operands, List.mem_map]; exact ⟨p, hp, rfl⟩)
    simp only [e]
  | call c =>
    have e : ∀ x ∈ c.args.toList, evF sl x = evF sl' x := fun x hx => h x (by simp only [Op.operands, Call.operands, Array.toList_append, List.mem_append]; exact .inr hx)
    simp only [workO, callO]
    split
    · exact appF_cong e
    · rename_i f hf
      have e2 : evF sl f = evF sl' f := h f (by simp only [Op.operands, Call.operands, hf]; simp)
      simp only [valueF, e2, evsF_cong e]
    · rfl
  | makeMap t r => rfl
  | makeSlice t l c => simp only [workO, mkslF, h l (by simp [Op.operands]), h c (by simp [Op.operands])]
  | mapUpdate t m k v => simp only [workO, mapuF, h m (by simp [Op.operands]), h k (by simp [Op.operands]), h v (by simp [Op.operands])]
  | _ => rfl
theorem effO_cong {b : Nat} {dst : Option Tmp} {op : Op} (h : ∀ x ∈ op.operands.toList, evF sl x = evF sl' x) : effO T lo hi b ⟨sl, rs, df⟩ dst op = effO T lo hi b ⟨sl', rs, df'⟩ dst op := by
  unfold effO
  rw [lookO_cong (df' := df') h, workO_cong (df' := df') h]
def RLe (rs rs' : List Root) : Prop := ∀ (q : Nat) (x : Root), nthF rs q = some x → x.live → nthF rs' q = some x
theorem RLe.nth (h : RLe rs rs') {q : Nat} {x : Root} (e : Go.V.nth rs q = some x) (hx : x.live) : Go.V.nth rs' q = some x := by
  rw [← nthF_eq]; exact h q x (by rw [nthF_eq]; exact e) hx
theorem nilF_le (hr : RLe rs rs') {c : C} {b : Bool} (e : nilF rs c = some b) : nilF rs' c = some b := by
  unfold nilF at e ⊢
  split at e
  · exact e
  · split at e
    · rename_i hq; rw [hr _ _ hq trivial]; exact e
    · rename_i hq; rw [hr _ _ hq trivial]; exact e
    · simp at e
  · simp at e
theorem nilcF_le (hr : RLe rs rs') {op : BinOp} {t : Nat} {x : Operand} {d : D} (e : nilcF T ⟨sl, rs, df⟩ op t x = some d) : nilcF T ⟨sl, rs', df⟩ op t x = some d := by
  unfold nilcF at e ⊢
  split at e
  case h_2 => simp at e
  rename_i h1
  split at e
  case h_2 => simp at e
  rename_i h2
  split at e
  case h_2 => simp at e
  rename_i h3
  have h3 := nilF_le hr h3
  simp only [h2, h3]
  exact e
theorem iaddrC_le (hr : RLe rs rs') {sz : Nat} {i : Int} {c : C} {d : D} (e : iaddrC rs sz i c = some d) : iaddrC rs' sz i c = some d := by
  unfold iaddrC at e ⊢
  split at e
  · exact e
  · split at e
    · rename_i hq; rw [hr _ _ hq trivial]; exact e
    · rename_i hq; rw [hr _ _ hq trivial]; exact e
    · simp at e
  · simp at e
theorem loadC_le (hr : RLe rs rs') {y : Ty} {c : C} {d : D} (e : loadC T rs y c = some d) : loadC T rs' y c = some d := by
  unfold loadC at e ⊢
  split at e
  · rename_i r i j
    unfold loadR at e ⊢
    split at e
    · rename_i hq; rw [hr _ _ hq trivial]; exact e
    · rename_i hq; rw [hr _ _ hq trivial]; exact e
    · rename_i hq; rw [hr _ _ hq trivial]; exact e
    · simp at e
  · exact e
  · exact e
  · simp at e
theorem setF_le (hr : RLe rs rs') {c : C} {l : List Int} (e : setF rs c = some l) : setF rs' c = some l := by
  unfold setF at e ⊢
  split at e
  · split at e
    · rename_i hq; rw [hr _ _ hq trivial]; exact e
    · simp at e
  · exact e
  · simp at e
theorem sliceC_le (hr : RLe rs rs') {c : C} {n : Int} {d : D} (e : sliceC rs c n = some d) : sliceC rs' c n = some d := by
  unfold sliceC at e ⊢
  split at e
  · exact e
  · split at e
    · rename_i hq; rw [hr _ _ hq trivial]; exact e
    · rename_i hq; rw [hr _ _ hq trivial]; exact e
    · simp at e
  · exact e
  · simp at e
theorem lookO_le (hr : RLe rs rs') {op : Op} {d : D} (e : lookO T ⟨sl, rs, df⟩ op = some d) : lookO T ⟨sl, rs', df⟩ op = some d := by
  cases op with
  | binOp o t x y t2 =>
    have e : binF T ⟨sl, rs, df⟩ o t x y = some d := e
    show binF T ⟨sl, rs', df⟩ o t x y = some d
    unfold binF at e ⊢
    split at e
    · exact nilcF_le hr e
    · exact e
  | indexAddr t x i =>
    have e : iaddrF T ⟨sl, rs, df⟩ t x i = some d := e
    show iaddrF T ⟨sl, rs', df⟩ t x i = some d
    unfold iaddrF at e ⊢
    split at e
    · exact e
    · split at e
      case h_2 => simp at e
      split at e
      case h_2 => simp at e
      split at e
      case h_2 => simp at e
      rename_i h1 _ _ h2 _ _ h3
      simp only at h2 h3 ⊢
      simp only [h2, h3]
      exact iaddrC_le hr e
  | load t x =>
    have e : loadF T ⟨sl, rs, df⟩ t x = some d := e
    show loadF T ⟨sl, rs', df⟩ t x = some d
    unfold loadF at e ⊢
    split at e
    case h_2 => simp at e
    split at e
    case h_2 => simp at e
    rename_i h1 _ _ h2
    simp only at h2 ⊢
    simp only [h2]
    exact loadC_le hr e
  | lookup t x i ok =>
    have e : lookupF T ⟨sl, rs, df⟩ t x i ok = some d := e
    show lookupF T ⟨sl, rs', df⟩ t x i ok = some d
    unfold lookupF at e ⊢
    split at e
    · exact e
    · cases h0 : mapK T t with
      | false => rw [h0] at e; exact e
      | true =>
      rw [h0] at e
      simp only at e ⊢
      split at e
      case h_2 => simp at e
      rename_i h2 h3
      split at e
      case h_2 => simp at e
      rename_i h4
      have h4 := setF_le hr h4
      try simp only at h2 h3
      simp only [h4]
      exact e
  | slice t x l m k =>
    have e : sliceF T ⟨sl, rs, df⟩ t x l m k = some d := e
    show sliceF T ⟨sl, rs', df⟩ t x l m k = some d
    unfold sliceF at e ⊢
    split at e
    case h_3 => simp at e
    case h_2 => exact e
    split at e
    case h_2 => simp at e
    rename_i h1
    split at e
    case h_2 => simp at e
    rename_i h2 h3
    simp only at h2 h3 ⊢
    simp only [h2, h3]
    exact sliceC_le hr e
  | _ => exact e
end
section
variable {T : Tab} {lo : Lo} {hi : Hint} {sl sl' : Slots} {rs rs' : List Root} {df df' : List Nat}
theorem reifyR_le (hr : RLe rs rs') {q : Nat} {rec rec' : List C → Option (List I)} (hrec : ∀ l r, rec l = some r → rec' l = some r) {x : I} (e : reifyR rs q rec = some x) : reifyR rs' q rec' = some x := by
  unfold reifyR at e ⊢
  split at e
  case h_2 => simp at e
  rename_i h1
  split at e
  case h_2 => simp at e
  rename_i h2
  simp only [hr.nth h1 trivial, hrec _ _ h2]
  exact e
theorem reify1_le (hr : RLe rs rs') {rec rec' : List C → Option (List I)} (hrec : ∀ l r, rec l = some r → rec' l = some r) {c : C} {x : I} (e : reify1 rs rec c = some x) : reify1 rs' rec' c = some x := by
  unfold reify1 at e ⊢
  split at e
  · exact e
  · exact reifyR_le hr hrec e
  · split at e
    · rename_i h1; rw [hr.nth h1 trivial]; exact e
    · rename_i h1
      rw [hr.nth h1 trivial]
      split at e
      case h_2 => simp at e
      rename_i h2
      split at e
      case h_2 => simp at e
      rename_i h3
      simp only [h2, hrec _ _ h3]
      exact e
    · simp at e
  · split at e
    · rename_i h1; rw [hr.nth h1 trivial]; exact e
    · simp at e
  · exact e
  · split at e
    case h_2 => simp at e
    rename_i h1
    simp only [reifyR_le hr hrec h1]
    exact e
  · split at e
    case h_2 => simp at e
    rename_i h1 h2
    simp only [reifyR_le hr hrec h1, reifyR_le hr hrec h2]
    exact e
  · split at e
    case h_2 => simp at e
    rename_i h1 h2 h3
    simp only [reifyR_le hr hrec h1, reifyR_le hr hrec h2, reifyR_le hr hrec h3]
    exact e
  · simp at e
theorem mapO_le {α β : Type} {f g : α → Option β} (h : ∀ x y, f x = some y → g x = some y) : ∀ {l : List α} {r : List β}, mapO f l = some r → mapO g l = some r
  | [], r, e => e
  | x :: l, r, e => by
    simp only [mapO] at e ⊢
    split at e
    case h_2 => simp at e
    rename_i h1 h2
    simp only [h _ _ h1, mapO_le h h2]
    exact e
theorem reify_le (hr : RLe rs rs') : ∀ (k : Nat) (l : List C) (r : List I), reify k rs l = some r → reify k rs' l = some r
  | 0, l, r, e => mapO_le (fun x y h => reify1_le hr (fun _ _ h => h) h) e
  | k + 1, l, r, e => mapO_le (fun x y h => reify1_le hr (reify_le hr k) h) e
theorem reifyT_le (hr : RLe rs rs') : ∀ {l r : List (Bool × List C)}, reifyD.reifyT rs l = some r → reifyD.reifyT rs' l = some r
  | [], r, e => e
  | (b, l) :: m, r, e => by
    simp only [reifyD.reifyT] at e ⊢
    split at e
    case h_2 => simp at e
    rename_i h1 h2
    simp only [reify_le hr _ _ _ h1, reifyT_le hr h2]
    exact e
theorem reifyD_le (hr : RLe rs rs') {d d' : D} (e : reifyD rs d = some d') : reifyD rs' d = some d' := by
  cases d with
  | c x =>
    simp only [reifyD] at e ⊢
    split at e
    case h_2 => simp at e
    rename_i h1
    simp only [reify_le hr _ _ _ h1]
    exact e
  | a l =>
    simp only [reifyD] at e ⊢
    split at e
    case h_2 => simp at e
    rename_i h1
    simp only [reify_le hr _ _ _ h1]
    exact e
  | t l =>
    simp only [reifyD] at e ⊢
    split at e
    case h_2 => simp at e
    rename_i h1
    simp only [reifyT_le hr h1]
    exact e
theorem reifyDs_le (hr : RLe rs rs') : ∀ {l r : List D}, reifyDs rs l = some r → reifyDs rs' l = some r
  | [], r, e => e
  | d :: l, r, e => by
    simp only [reifyDs] at e ⊢
    split at e
    case h_2 => simp at e
    rename_i h1 h2
    simp only [reifyD_le hr h1, reifyDs_le hr h2]
    exact e
theorem sasL1_pure {rec : List C → Option (List Nat)} : ∀ {l : List C}, pureC l = true → sasL1 rec rs l = some []
  | [], _ => rfl
  | c :: l, h => by
    cases c with
    | im x =>
      have := sasL1_pure (rec := rec) (l := l) (by simpa [pureC] using h)
      show (match (some [] : Option (List Nat)) with
        | some a => match sasL1 rec rs l with
          | some b => some (a ++ b)
          | none => none
        | none => none) = some []
      rw [this]; rfl
    | _ => simp [pureC] at h
theorem sasDs_le : ∀ {ds : List D}, sasDs rs ds = some [] → sasDs rs' ds = some []
  | [], _ => rfl
  | d :: ds, h => by
    have h : (match sasD rs d, sasDs rs ds with
      | some a, some b => some (a ++ b)
      | _, _ => none) = some [] := h
    split at h
    case h_2 => simp at h
    rename_i m k hm hk
    simp only [Option.some.injEq, List.append_eq_nil_iff] at h
    obtain ⟨rfl, rfl⟩ := h
    have hd : sasD rs' d = some [] := by
      cases d with
      | c x => exact sasL1_pure (sasL1_nil (l := [x]) hm)
      | a l => exact sasL1_pure (sasL1_nil (l := l) hm)
      | t l => simp [sasD] at hm
    show (match sasD rs' d, sasDs rs' ds with
      | some a, some b => some (a ++ b)
      | _, _ => none) = some []
    rw [hd, sasDs_le hk]; rfl
theorem coldF_le {ds : List D} {e e' : Eff} (hc : ∀ l, e' ≠ .cold l) (h : coldF rs ds e = some e') : coldF rs' ds e = some e' := by
  rcases coldF_some h with ⟨l, hl⟩ | ⟨rfl, hs⟩
  · exact (hc l hl).elim
  · unfold coldF
    rw [sasDs_le hs]
theorem purF_le (hr : RLe rs rs') {f : FuncId} {ds : List D} {d : D} (e : purF lo rs f ds = some d) : purF lo rs' f ds = some d := by
  unfold purF at e ⊢
  split at e
  case h_2 => simp at e
  rename_i h1
  simp only [reifyDs_le hr h1]
  exact e
theorem ownF_le (hr : RLe rs rs') {f : FuncId} {ds : List D} {b : Nat} {d : Eff} (e : ownF lo rs f ds b = some d) : ownF lo rs' f ds b = some d := by
  unfold ownF at e ⊢
  split at e
  case h_2 => simp at e
  rename_i h1
  simp only [reifyDs_le hr h1]
  exact e
theorem pcallF_le (hr : RLe rs rs') {f : FuncId} {ds : List D} {e : Eff} (hc : ∀ l, e ≠ .cold l) (h : pcallF lo rs f ds = some e) : pcallF lo rs' f ds = some e := by
  unfold pcallF at h ⊢
  split at h
  case h_2 => simp at h
  rename_i d hd
  simp only [purF_le hr hd]
  cases hp : plainD d with
  | true => rw [hp] at h; exact h
  | false =>
    rw [hp] at h
    cases hq : pureD d with
    | true => rw [hq] at h; exact coldF_le hc h
    | false => rw [hq] at h; simp at h
theorem ocallF_le (hr : RLe rs rs') {f : FuncId} {ds : List D} {b : Nat} {e : Eff} (hc : ∀ l, e ≠ .cold l) (h : ocallF lo rs f ds b = some e) : ocallF lo rs' f ds b = some e := by
  unfold ocallF at h ⊢
  split at h
  · rename_i ho; rw [ownF_le hr ho]; exact h
  · rename_i ho
    rw [ownF_le hr ho]
    simp only
    revert h
    generalize plainC _ = p
    intro h
    cases p with
    | true => exact h
    | false => exact coldF_le hc h
  · rename_i ho
    rw [ownF_le hr ho]
    exact coldF_le hc h
  · simp at h
def WrMono (lo : Lo) : Prop := ∀ f ds rs rs2 r, rs.length = rs2.length → (∀ (q : Nat) (x : Root), nthF rs q = some x → x.live → nthF rs2 q = some x) → lo.wr f ds rs = some r → lo.wr f ds rs2 = some r
theorem wrF_le (hm : WrMono lo) (hlen : rs.length = rs'.length) (hr : RLe rs rs') {f : FuncId} {ds : List D} {e : Eff} (h : wrF lo rs f ds = some e) : wrF lo rs' f ds = some e := by
  unfold wrF at h ⊢
  split at h
  case h_2 => simp at h
  rename_i d q x hd
  rw [hm _ _ _ _ _ hlen hr hd, ← hlen]
  exact h
theorem callF_le (hm : WrMono lo) (hlen : rs.length = rs'.length) (hr : RLe rs rs') {b : Nat} {f : FuncId} {ds : List D} {e : Eff} (hc : ∀ l, e ≠ .cold l) (ha : ∀ d r, e = .all d r → rs = rs') (h : callF lo hi rs b f ds = some e) : callF lo hi rs' b f ds = some e := by
  have hE : effF lo rs f ds = some e → effF lo rs' f ds = some e := fun h => by
    have h0 := h
    unfold effF at h
    split at h
    · simp only [Option.some.injEq] at h
      rw [← ha _ _ h.symm]; exact h0
    · simp at h
  unfold callF at h ⊢
  split at h
  · exact pcallF_le hr hc h
  · exact hE h
  · exact ocallF_le hr hc h
  · exact wrF_le hm hlen hr h
  · cases hp : pureDs ds with
    | true => rw [hp] at h; exact pcallF_le hr hc h
    | false => rw [hp] at h; exact hE h
theorem yldF_le {r : Nat} {ds : List D} {e : Eff} (ha : ∀ d r, e = .all d r → rs = rs') (h : yldF lo rs r ds = some e) : yldF lo rs' r ds = some e := by
  have h0 := h
  unfold yldF at h
  split at h
  · simp only [Option.some.injEq] at h
    rw [← ha _ _ h.symm]; exact h0
  · simp at h
theorem srcF_le (hr : RLe rs rs') {c : C} {x : Nat × Nat × List C} (e : srcF rs c = some x) : srcF rs' c = some x := by
  unfold srcF at e ⊢
  split at e
  · exact e
  · exact e
  · split at e
    · rename_i hq; rw [hr _ _ hq trivial]; exact e
    · rename_i hq; rw [hr _ _ hq trivial]; exact e
    · simp at e
  · simp at e
theorem srcA_le (hr : RLe rs rs') {sz : Nat} {c : C} {x : Nat × (Nat → Nat → I)} (e : srcA sz rs c = some x) : srcA sz rs' c = some x := by
  unfold srcA at e ⊢
  split at e
  · exact e
  · exact e
  · split at e
    · rename_i hq; rw [hr _ _ hq trivial]; exact e
    · rename_i hq; rw [hr _ _ hq trivial]; exact e
    · simp at e
  · simp at e
theorem goA_le (hr : RLe rs rs') {c src : C} (e : goA rs c src = true) : goA rs' c src = true := by
  unfold goA at e ⊢
  split at e
  · split at e
    · rename_i hq; rw [hr _ _ hq trivial]
    · simp at e
  · split at e
    · rfl
    · split at e
      · rename_i hq; rw [hr _ _ hq trivial]
      · simp at e
    · simp at e
  · simp at e
theorem apdA_le (hr : RLe rs rs') {el sz k : Nat} {l' : Nat → Nat → I} {bytes b : Nat} {c : C} {e : Eff} (h : apdA el sz k l' bytes b rs c = some e) : apdA el sz k l' bytes b rs' c = some e := by
  unfold apdA at h ⊢
  split at h
  · exact h
  · split at h
    · rename_i hq; rw [hr _ _ hq trivial]; exact h
    · simp at h
  · simp at h
theorem coldC_cold {l : List C} {e : Eff} (h : coldC rs l = some e) : ∃ m, e = .cold m := by
  unfold coldC at h
  split at h
  · simp only [Option.some.injEq] at h; exact ⟨_, h.symm⟩
  · simp at h
theorem appF_split {b : Nat} {t t' : TypeId} {x y : Operand} {e : Eff} {s : VS} (h : appF T b s [t, t'] [x, y] = some e) : ∃ sz0 by0 z0 el, T.ty t = some ⟨sz0, by0, z0, .slice el⟩ ∧ Nat.beq t t' = true ∧
    ((apdT T el b s.rs (cellF (evF s.sl x)) (cellF (evF s.sl y)) = some (some e)) ∨ (apdT T el b s.rs (cellF (evF s.sl x)) (cellF (evF s.sl y)) = none ∧ apdF T el b s.rs (cellF (evF s.sl x)) (cellF (evF s.sl y)) = some e)) := by
  obtain ⟨h1, h2⟩ := Bool.rec_some (show (Bool.rec none _ (Nat.beq t t') : Option Eff) = some e from h)
  split at h2
  case h_2 => simp at h2
  rename_i hy
  refine ⟨_, _, _, _, hy, h1, ?_⟩
  split at h2
  · rename_i h3; subst h2; exact .inl h3
  · rename_i h3; exact .inr ⟨h3, h2⟩
theorem apd_le (hr : RLe rs rs') {el sz k : Nat} {l' : List C} {bytes b : Nat} {c : C} {e : Eff} (h : apd el sz k l' bytes b rs c = some e) : apd el sz k l' bytes b rs' c = some e := by
  unfold apd at h ⊢
  split at h
  · exact h
  · split at h
    · rename_i hq; rw [hr _ _ hq trivial]; exact h
    · simp at h
  · simp at h
theorem apdF_le (hr : RLe rs rs') {el b : Nat} {x src : Option C} {e : Eff} (h : apdF T el b rs x src = some e) : apdF T el b rs' x src = some e := by
  unfold apdF at h ⊢
  split at h
  case h_2 => simp at h
  rename_i h1
  split at h
  case h_2 => simp at h
  split at h
  case h_2 => simp at h
  rename_i h3
  split at h
  case h_2 => simp at h
  simp only [srcF_le hr h3]
  split at h
  · obtain ⟨h5, h6⟩ := Bool.rec_some h
    simp only [h5]
    exact apd_le hr h6
  · obtain ⟨h5, h6⟩ := Bool.rec_some h
    simp only [h5]
    exact apd_le hr h6
theorem apdT_le (hr : RLe rs rs') {el b : Nat} {x src : Option C} {e : Eff} (hc : ∀ l, e ≠ .cold l) (h : apdT T el b rs x src = some (some e)) : apdT T el b rs' x src = some (some e) := by
  unfold apdT at h ⊢
  split at h
  case h_2 => simp at h
  split at h
  case h_2 => simp at h
  rename_i hg
  simp only [goA_le hr hg]
  split at h
  case h_2 => simp at h
  rename_i hy
  simp only [Option.some.injEq] at h ⊢
  unfold apdG at h ⊢
  split at h
  · rename_i h1
    obtain ⟨h2, h3⟩ := Bool.rec_some h
    simp only [srcA_le hr h1, h2]
    exact apdA_le hr h3
  · obtain ⟨m, hm⟩ := coldC_cold h
    exact (hc m hm).elim
theorem goA_ge (hr : RLe rs rs') {el b : Nat} {c src : C} {e : Eff} (h : apdF T el b rs (some c) (some src) = some e) (hg : goA rs c src = false) : goA rs' c src = false := by
  unfold apdF at h
  split at h
  case h_2 => simp at h
  simp only at h
  split at h
  case h_2 => simp at h
  rename_i h3
  have hap : ∃ sz k l' bytes, apd el sz k l' bytes b rs c = some e := by
    split at h
    · exact ⟨_, _, _, _, (Bool.rec_some h).2⟩
    · exact ⟨_, _, _, _, (Bool.rec_some h).2⟩
  obtain ⟨sz, k, l', bytes, hap⟩ := hap
  unfold apd at hap
  split at hap
  · unfold srcF at h3
    split at h3
    · simp [goA] at hg
    · rfl
    · split at h3
      · rename_i hq; simp only [goA, hr _ _ hq trivial]
      · rename_i hq; simp [goA, hq] at hg
      · simp at h3
    · simp at h3
  · split at hap
    · rename_i hq; simp only [goA, hr _ _ hq trivial]
    · simp at hap
  · simp at hap
theorem appF_le (hr : RLe rs rs') {b : Nat} {ts : List TypeId} {xs : List Operand} {e : Eff} (hc : ∀ l, e ≠ .cold l) (h : appF T b ⟨sl, rs, df⟩ ts xs = some e) : appF T b ⟨sl, rs', df⟩ ts xs = some e := by
  have h0 := h
  unfold appF at h ⊢
  split at h
  case h_2 => simp at h
  rename_i t t' x y
  obtain ⟨sz0, by0, z0, el, hy, ht, hcase⟩ := appF_split h0
  simp only at hcase
  simp only [ht, hy]
  rcases hcase with hcase | ⟨hn, hcase⟩
  · rw [apdT_le hr hc hcase]
  · have hn' : apdT T el b rs' (cellF (evF sl x)) (cellF (evF sl y)) = none := by
      unfold apdT at hn ⊢
      split at hn
      · rename_i c src h1 h2
        rw [h1, h2] at hcase
        split at hn
        · split at hn <;> simp at hn
        · rename_i hg
          simp only [goA_ge hr hcase hg]
      · rfl
    rw [hn']
    exact apdF_le hr hcase
theorem workO_le (hm : WrMono lo) (hlen : rs.length = rs'.length) (hr : RLe rs rs') {b : Nat} {dst : Option Tmp} {op : Op} {e : Eff} (hc : ∀ l, e ≠ .cold l) (ha : ∀ d r, e = .all d r → rs = rs')
    (h : workO T lo hi b ⟨sl, rs, df⟩ dst op = some e) : workO T lo hi b ⟨sl, rs', df⟩ dst op = some e := by
  cases op with
  | store t x v =>
    have h : storeF T ⟨sl, rs, df⟩ dst t x v = some e := h
    show storeF T ⟨sl, rs', df⟩ dst t x v = some e
    unfold storeF at h ⊢
    split at h
    · simp at h
    · split at h
      case h_2 => simp at h
      rename_i h1 h2
      split at h
      case h_2 => simp at h
      rename_i h3
      obtain ⟨h4, h⟩ := Bool.rec_some h
      split at h
      case h_2 => simp at h
      rename_i h5
      simp only at h2 h5 ⊢
      simp only [h1, h2, h3, h4, h5]
      unfold storeR at h ⊢
      split at h
      · rename_i hq; rw [hr _ _ hq trivial]; exact h
      · rename_i hq; rw [hr _ _ hq trivial]; exact h
      · rename_i hq
        simp only [hr _ _ hq trivial]
        split at h
        · rename_i hi; try simp only [hi]
          exact h
        · obtain ⟨m, hm⟩ := coldC_cold h
          exact (hc m hm).elim
      · simp at h
  | mapUpdate t m k v =>
    have h : mapuF T ⟨sl, rs, df⟩ dst t m k v = some e := h
    show mapuF T ⟨sl, rs', df⟩ dst t m k v = some e
    unfold mapuF at h ⊢
    split at h
    · simp at h
    · obtain ⟨h4, h⟩ := Bool.rec_some h
      split at h
      case h_2 => simp at h
      rename_i h1 h2 h3
      split at h
      case h_2 => simp at h
      rename_i h5
      simp only at h1 h2 h3 h5 ⊢
      simp only [h1, h2, h3, h4, hr _ _ h5 trivial]
      exact h
  | call c =>
    have h : callO T lo hi b ⟨sl, rs, df⟩ c = some e := h
    show callO T lo hi b ⟨sl, rs', df⟩ c = some e
    unfold callO at h ⊢
    split at h
    · exact appF_le hr hc h
    · unfold valueF at h ⊢
      split at h
      case h_2 => simp at h
      rename_i h1 h2
      simp only at h1 h2 ⊢
      simp only [h1, h2]
      split at h
      · exact yldF_le ha h
      · split at h
        case h_2 => simp at h
        rename_i h3
        try simp only [h3]
        exact callF_le hm hlen hr hc ha h
    · simp at h
  | _ => exact h
theorem lookO_work {b : Nat} {s : VS} {dst : Option Tmp} {op : Op} {e : Eff} (h : workO T lo hi b s dst op = some e) : lookO T s op = none := by
  cases op with
  | call c =>
    have h : callO T lo hi b s c = some e := h
    show calF T s c = none
    unfold callO at h
    unfold calF
    split at h
    · rename_i hc; rw [hc]; rfl
    · rename_i hc; rw [hc]
    · simp at h
  | _ => first | rfl | simp [workO] at h
theorem effO_frame (hm : WrMono lo) (hlen : rs.length = rs'.length) (hr : RLe rs rs') {b : Nat} {dst : Option Tmp} {op : Op} (hs : ∀ x ∈ op.operands.toList, evF sl x = evF sl' x) {e : Eff} (hc : ∀ l, e ≠ .cold l) (ha : ∀ d r, e = .all d r → rs = rs')
    (h : effO T lo hi b ⟨sl, rs, df⟩ dst op = some e) : effO T lo hi b ⟨sl', rs', df'⟩ dst op = some e := by
  rw [← effO_cong (df := df) (df' := df') hs]
  unfold effO at h ⊢
  split at h
  · rename_i d hd
    rw [lookO_le hr hd]; exact h
  · have h1 := workO_le hm hlen hr hc ha h
    rw [lookO_work h1]
    exact h1
def Shape (b : Nat) (rs : List Root) (ws : List (Nat × Root)) : Prop :=
  (∃ x, ws = [(b, x)]) ∨ (∃ q x, ws = [(q, x)] ∧ q < rs.length) ∨ (∃ q x y, ws = [(q, x), (b, y)])
theorem lt_of_nthF {α : Type} {l : List α} {q : Nat} {x : α} (h : nthF l q = some x) : q < l.length := by
  rw [nthF_eq, nth_eq] at h; exact (List.getElem?_eq_some_iff.1 h).1
theorem apd_shape {el sz k : Nat} {l' : List C} {bytes b : Nat} {c : C} {d : Option D} {ws : List (Nat × Root)} (h : apd el sz k l' bytes b rs c = some (.wr d ws)) : Shape b rs ws := by
  unfold apd at h
  split at h
  · split at h
    · simp at h
    · replace h := (Bool.rec_some h).2
      simp only [Option.some.injEq, Eff.wr.injEq] at h
      exact .inl ⟨_, h.2.symm⟩
  · split at h
    · replace h := (Bool.rec_some h).2
      replace h := (Bool.rec_some h).2
      simp only [Option.some.injEq, Eff.wr.injEq] at h
      exact .inr (.inr ⟨_, _, _, h.2.symm⟩)
    · simp at h
  · simp at h
theorem apdA_shape {el sz k : Nat} {l' : Nat → Nat → I} {bytes b : Nat} {c : C} {d : Option D} {ws : List (Nat × Root)} (h : apdA el sz k l' bytes b rs c = some (.wr d ws)) : Shape b rs ws := by
  unfold apdA at h
  split at h
  · replace h := (Bool.rec_some h).2
    simp only [Option.some.injEq, Eff.wr.injEq] at h
    exact .inl ⟨_, h.2.symm⟩
  · split at h
    · replace h := (Bool.rec_some h).2
      replace h := (Bool.rec_some h).2
      replace h := (Bool.rec_some h).2
      simp only [Option.some.injEq, Eff.wr.injEq] at h
      exact .inr (.inr ⟨_, _, _, h.2.symm⟩)
    · simp at h
  · simp at h
theorem coldF_wr {ds : List D} {e : Eff} {d : Option D} {ws : List (Nat × Root)} (h : coldF rs ds e = some (.wr d ws)) : e = .wr d ws := by
  rcases coldF_some h with ⟨l, hl⟩ | ⟨h, _⟩
  · cases hl
  · exact h.symm
theorem pcallF_shape {f : FuncId} {ds : List D} {d : Option D} {ws : List (Nat × Root)} (h : pcallF lo rs f ds = some (.wr d ws)) : False := by
  unfold pcallF at h
  split at h
  case h_2 => simp at h
  rename_i d hd
  cases hp : plainD d with
  | true => rw [hp] at h; simp at h
  | false =>
    rw [hp] at h
    have h := coldF_wr (Bool.rec_some h).2
    cases h
theorem ocallF_shape {b : Nat} {f : FuncId} {ds : List D} {d : Option D} {ws : List (Nat × Root)} (h : ocallF lo rs f ds b = some (.wr d ws)) : Shape b rs ws := by
  unfold ocallF at h
  split at h
  · simp at h
  · rename_i d1 q el sz n l ho
    rcases ownF_row ho with ⟨is, q', n', rs2, el', sz', l', _, _, _, _, _, hws⟩ | ⟨is, q', n', rs2, el', sz', l', _, _, _, _, hws⟩
    case inr => simp at hws
    simp only [List.cons.injEq, Prod.mk.injEq, and_true] at hws
    obtain ⟨rfl, _⟩ := hws
    revert h
    generalize plainC _ = p
    intro h
    cases p with
    | true => simp only [Option.some.injEq, Eff.wr.injEq] at h; exact .inl ⟨_, h.2.symm⟩
    | false => have h := coldF_wr h; simp only [Eff.wr.injEq] at h; exact .inl ⟨_, h.2.symm⟩
  · rename_i d1 q el sz n get ho
    rcases ownF_row ho with ⟨is, q', n', rs2, el', sz', l', _, _, _, _, _, hws⟩ | ⟨is, q', n', rs2, el', sz', l', _, _, _, _, hws⟩
    case inl => simp at hws
    simp only [List.cons.injEq, Prod.mk.injEq, and_true] at hws
    obtain ⟨rfl, _⟩ := hws
    have h := coldF_wr h
    simp only [Eff.wr.injEq] at h
    exact .inl ⟨_, h.2.symm⟩
  · simp at h
theorem effF_shape {f : FuncId} {ds : List D} {d : Option D} {ws : List (Nat × Root)} (h : effF lo rs f ds = some (.wr d ws)) : False := by
  unfold effF at h
  split at h <;> simp at h
theorem effO_shape {b : Nat} {s : VS} {dst : Option Tmp} {op : Op} {d : Option D} {ws : List (Nat × Root)} (h : effO T lo hi b s dst op = some (.wr d ws)) : Shape b s.rs ws := by
  unfold effO at h
  split at h
  · simp at h
  · cases op with
    | box t x =>
      have h : boxF b s x = _ := h
      unfold boxF at h
      split at h
      · split at h
        · simp only [Option.some.injEq, Eff.wr.injEq] at h; exact .inl ⟨_, h.2.symm⟩
        · simp at h
      · simp at h
    | alloc t =>
      have h : allocF T b t = _ := h
      unfold allocF at h
      split at h
      · split at h
        · simp only [Option.some.injEq, Eff.wr.injEq] at h; exact .inl ⟨_, h.2.symm⟩
        · simp at h
      · simp at h
    | store t x v =>
      have h : storeF T s dst t x v = _ := h
      unfold storeF at h
      split at h
      · simp at h
      · split at h
        case h_2 => simp at h
        split at h
        case h_2 => simp at h
        replace h := (Bool.rec_some h).2
        split at h
        case h_2 => simp at h
        unfold storeR at h
        split at h
        · rename_i hq
          split at h
          · split at h
            · simp only [Option.some.injEq, Eff.wr.injEq] at h; exact .inr (.inl ⟨_, _, h.2.symm, lt_of_nthF hq⟩)
            · simp at h
          · simp at h
        · rename_i hq
          split at h
          · simp only [Option.some.injEq, Eff.wr.injEq] at h; exact .inr (.inl ⟨_, _, h.2.symm, lt_of_nthF hq⟩)
          · simp at h
        · rename_i hq
          split at h
          · replace h := (Bool.rec_some h).2
            replace h := (Bool.rec_some h).2
            simp only [Option.some.injEq, Eff.wr.injEq] at h; exact .inr (.inl ⟨_, _, h.2.symm, lt_of_nthF hq⟩)
          · obtain ⟨m, hm⟩ := coldC_cold h
            cases hm
        · simp at h
    | buildSlice t n ps =>
      have h : bsF T b s (coldT hi dst) t n ps.toList = _ := h
      unfold bsF at h
      split at h
      case h_2 => simp at h
      split at h
      case h_2 => simp at h
      split at h
      case h_2 => simp at h
      split at h
      case h_2 => simp at h
      replace h := (Bool.rec_some h).2
      rcases bornE_cases (coldT hi dst) b _ _ n _ with hc | ⟨_, _, hc⟩
      · rw [hc] at h
        simp only [Option.some.injEq, Eff.wr.injEq] at h; exact .inl ⟨_, h.2.symm⟩
      · rw [hc] at h; simp at h
    | makeSlice t l c =>
      have h : mkslF T b s t l c = _ := h
      unfold mkslF at h
      split at h
      case h_2 => simp at h
      split at h
      case h_2 => simp at h
      split at h
      case h_2 => simp at h
      split at h
      case h_2 => simp at h
      split at h
      case h_2 => simp at h
      replace h := (Bool.rec_some h).2
      replace h := (Bool.rec_some h).2
      replace h := (Bool.rec_some h).2
      simp only [Option.some.injEq, Eff.wr.injEq] at h; exact .inl ⟨_, h.2.symm⟩
    | makeMap t r =>
      have h : mkmapF T b t r = _ := h
      unfold mkmapF at h
      split at h
      · simp only [Option.some.injEq, Eff.wr.injEq] at h; exact .inl ⟨_, h.2.symm⟩
      · simp at h
    | mapUpdate t m k v =>
      have h : mapuF T s dst t m k v = _ := h
      unfold mapuF at h
      split at h
      · simp at h
      · replace h := (Bool.rec_some h).2
        split at h
        case h_2 => simp at h
        split at h
        case h_2 => simp at h
        rename_i hq
        simp only [Option.some.injEq, Eff.wr.injEq] at h; exact .inr (.inl ⟨_, _, h.2.symm, lt_of_nthF hq⟩)
    | call c =>
      have h : callO T lo hi b s c = _ := h
      unfold callO at h
      split at h
      · unfold appF at h
        split at h
        case h_2 => simp at h
        replace h := (Bool.rec_some h).2
        split at h
        case h_2 => simp at h
        split at h
        · rename_i e' he'
          subst h
          unfold apdT at he'
          split at he'
          case h_2 => simp at he'
          split at he'
          case h_2 => simp at he'
          split at he'
          case h_2 => simp at he'
          simp only [Option.some.injEq] at he'
          unfold apdG at he'
          split at he'
          · exact apdA_shape (Bool.rec_some he').2
          · unfold coldC at he'
            split at he'
            · simp only [Option.some.injEq] at he'
              cases he'
            · simp at he'
        unfold apdF at h
        split at h
        case h_2 => simp at h
        split at h
        case h_2 => simp at h
        split at h
        case h_2 => simp at h
        split at h
        case h_2 => simp at h
        split at h
        · exact apd_shape (Bool.rec_some h).2
        · exact apd_shape (Bool.rec_some h).2
      · unfold valueF at h
        split at h
        case h_2 => simp at h
        split at h
        · unfold yldF at h
          split at h <;> simp at h
        · split at h
          case h_2 => simp at h
          unfold callF at h
          split at h
          · exact (pcallF_shape h).elim
          · exact (effF_shape h).elim
          · exact ocallF_shape h
          · unfold wrF at h
            split at h
            case h_2 => simp at h
            rename_i d' q x hd
            obtain ⟨hq, h⟩ := Bool.rec_some h
            simp only [Option.some.injEq, Eff.wr.injEq] at h
            exact .inr (.inl ⟨q, x, h.2.symm, by simpa [Nat.blt_eq] using hq⟩)
          · revert h
            generalize pureDs _ = p
            intro h
            cases p with
            | true => exact (pcallF_shape h).elim
            | false => exact (effF_shape h).elim
      · simp at h
    | _ => simp [workO] at h
theorem effO_nomake {b b' : Nat} {s : VS} {dst : Option Tmp} {op : Op} (h : makesN op = 0) : effO T lo hi b s dst op = effO T lo hi b' s dst op := by
  unfold effO
  have : workO T lo hi b s dst op = workO T lo hi b' s dst op := by
    cases op with
    | call c =>
      show callO T lo hi b s c = callO T lo hi b' s c
      have h : makesC c.callee = 0 := h
      unfold callO
      split
      · rename_i hc; rw [hc] at h; simp [makesC] at h
      · rename_i hc; rw [hc] at h; simp [makesC] at h
      · rfl
    | _ => first | rfl | simp [makesN] at h
  rw [this]
end
open Go.RowKit
section
variable {P : Program} {T : Tab} {lo : Lo} {hi : Hint} {N : Nat} {av0 : Nat → Prop} {w0 : Kp} {sp : List (D × Value)} {s : VS} {a : Act} {w : World} {E : Env} {ρ : Option Nat}
theorem keepS_nil {sl : Slots} : ∀ {l : List Tmp}, NilS (keepS sl l)
  | [], x, hx => by cases hx
  | t :: l, x, hx => by
    simp only [keepS] at hx
    split at hx
    · cases hx with
      | head => rfl
      | tail _ hx => exact keepS_nil x hx
    · exact keepS_nil x hx
theorem keepS_look' : ∀ {l : List Tmp} {sl : Slots} {t : Tmp} {d : D} {c : Cond}, look (keepS sl l) t = some (d, c) → c = [] ∧ look sl t = some (d, [])
  | [], sl, t, d, c, h => by simp [keepS, look] at h
  | k :: l, sl, t, d, c, h => by
    simp only [keepS] at h
    split at h
    · rename_i d' hk
      simp only [look] at h
      split at h
      · rename_i he
        have he := of_beq he
        simp only [Option.some.injEq, Prod.mk.injEq] at h
        obtain ⟨rfl, rfl⟩ := h
        subst he
        exact ⟨rfl, hk⟩
      · exact keepS_look' h
    · exact keepS_look' h
theorem tidyF_R (h : R T N av0 w0 sp s a w E) (hn : NilS s.sl) (f : FuncId) (id : Nat) : R T N av0 w0 sp (tidyF hi f id s) a w E ∧ NilS (tidyF hi f id s).sl := by
  unfold tidyF
  split
  · exact ⟨⟨h.size, h.defers, h.spec, h.below, h.len, h.outer, h.roots, h.blk, h.inj, fun t d c hl => by
      obtain ⟨rfl, h1⟩ := keepS_look' hl
      exact h.slots t d [] h1, h.glob⟩, keepS_nil⟩
  · exact ⟨h, hn⟩
theorem region_run (hty : TyOK P T) (hl : LoOK T P lo) (h : R T N av0 w0 sp s a w E) (hn : NilS s.sl) {f : FuncId} {ro : Option Nat} {id : Nat} {ops : Array Oper} {s' : VS} (e : regionF T lo hi N f ro id ops.toList false s = some s')
    {b : Frame} {k : List Item} {cs : List Frame} : ∃ a' w' E', Kept E E' ∧ R T N av0 w0 sp s' a' w' E' ∧ NilS s'.sl ∧ Steps P (lone (b.atR a (.code (.region id ops false) :: k)) cs w) (lone (b.atR a' k) cs w') := by
  unfold regionF at e
  simp only at e
  split at e
  case h_2 => simp at e
  rename_i s1 hs1
  simp only [Option.some.injEq] at e
  subst e
  have hw := opsF_sound (ρ := b.roundOf) (Q := fun en a' w' => en = .normal ∧ ∃ E', Kept E E' ∧ R T N av0 w0 sp s1 a' w' E' ∧ NilS s1.sl) hty hl (fun a' w' E' hk h1 h2 => ⟨rfl, E', hk, h1, h2⟩) hs1 (Kept.refl E) h hn
  obtain ⟨en, a', w', ⟨rfl, E', hk, h1, h2⟩, harr⟩ := wpIn_region_list (id := id) hw b k cs rfl trivial (room_Fr _ _)
  obtain ⟨h3, h4⟩ := tidyF_R (hi := hi) h1 h2 f id
  exact ⟨a', w', E', hk, h3, h4, StepsIn.steps harr⟩
end
section
theorem nthF_get {α : Type} (l : List α) (i : Nat) : nthF l i = l[i]? := by rw [nthF_eq, nth_eq]
theorem depsM_spec {acc : List Nat} {j : Nat} : ∀ {l : List Edge} {m : Nat}, (depsM acc l m).testBit j = true ↔ (m.testBit j = true ∨ ∃ e ∈ l, Region.binds .any e = true ∧ (j = e.on ∨ ∃ x, acc[e.on]? = some x ∧ x.testBit j = true))
  | [], m => by simp [depsM]
  | e :: l, m => by
    have hun : depsM acc (e :: l) m = (Bool.rec (depsM acc l m) (depsM acc l (Nat.lor (Nat.lor (Nat.shiftLeft 1 e.on) m) (match nthF acc e.on with
      | some x => x
      | none => 0))) (Region.binds .any e) : Nat) := rfl
    rw [hun]
    cases hb : Region.binds .any e with
    | false =>
      show (depsM acc l m).testBit j = true ↔ _
      rw [depsM_spec]
      constructor
      · rintro (h | ⟨e', h1, h2⟩)
        · exact .inl h
        · exact .inr ⟨e', List.mem_cons_of_mem _ h1, h2⟩
      · rintro (h | ⟨e', h1, h2, h3⟩)
        · exact .inl h
        · rcases List.mem_cons.1 h1 with rfl | h1
          · rw [hb] at h2; simp at h2
          · exact .inr ⟨e', h1, h2, h3⟩
    | true =>
      show (depsM acc l (((1 <<< e.on) ||| m) ||| (match nthF acc e.on with
        | some x => x
        | none => 0))).testBit j = true ↔ _
      rw [depsM_spec, nthF_get]
      have h1 : (1 <<< e.on).testBit j = true ↔ j = e.on := by
        rw [Nat.one_shiftLeft, Nat.testBit_two_pow]
        simp only [decide_eq_true_eq]
        exact ⟨fun h => h.symm, fun h => h.symm⟩
      have h2 : (match acc[e.on]? with
        | some x => x
        | none => 0).testBit j = true ↔ ∃ x, acc[e.on]? = some x ∧ x.testBit j = true := by
        cases acc[e.on]? with
        | none => simp
        | some x => simp
      rw [Nat.testBit_or, Nat.testBit_or, Bool.or_eq_true, Bool.or_eq_true, h1, h2]
      constructor
      · rintro (((h | h) | h) | ⟨e', h3, h4⟩)
        · exact .inr ⟨e, List.mem_cons_self .., hb, .inl h⟩
        · exact .inl h
        · exact .inr ⟨e, List.mem_cons_self .., hb, .inr h⟩
        · exact .inr ⟨e', List.mem_cons_of_mem _ h3, h4⟩
      · rintro (h | ⟨e', h3, h4, h5⟩)
        · exact .inl (.inl (.inr h))
        · rcases List.mem_cons.1 h3 with rfl | h3
          · rcases h5 with h5 | h5
            · exact .inl (.inl (.inl h5))
            · exact .inl (.inr h5)
          · exact .inr ⟨e', h3, h4, h5⟩
theorem ancsM_spec : ∀ (l : List Oper) (acc : List Nat), ∃ rest, ancsM l acc = acc ++ rest ∧ rest.length = l.length ∧ ∀ i o, l[i]? = some o → rest[i]? = some (depsM (acc ++ rest.take i) o.after.toList 0)
  | [], acc => ⟨[], by simp [ancsM], rfl, fun i o h => by simp at h⟩
  | o :: l, acc => by
    obtain ⟨rest, h1, h2, h3⟩ := ancsM_spec l (acc ++ [depsM acc o.after.toList 0])
    refine ⟨depsM acc o.after.toList 0 :: rest, ?_, by simp [h2], fun i o' h => ?_⟩
    · show ancsM l (acc ++ [depsM acc o.after.toList 0]) = _
      rw [h1]; simp
    · cases i with
      | zero => simp at h; subst h; simp
      | succ i =>
        simp only [List.getElem?_cons_succ] at h ⊢
        rw [h3 i o' h]
        simp
structure Anc (ops : List Oper) (A : List Nat) : Prop where
  len : A.length = ops.length
  bits : ∀ i o m, ops[i]? = some o → A[i]? = some m → ∀ j, m.testBit j = true ↔ ∃ e ∈ o.after.toList, Region.binds .any e = true ∧ (j = e.on ∨ ∃ x, (A.take i)[e.on]? = some x ∧ x.testBit j = true)
theorem anc_of (ops : List Oper) : Anc ops (ancsM ops []) := by
  obtain ⟨rest, h1, h2, h3⟩ := ancsM_spec ops []
  rw [List.nil_append] at h1
  rw [h1]
  refine ⟨h2, fun i o m ho hm j => ?_⟩
  have := h3 i o ho
  rw [hm] at this
  simp only [Option.some.injEq] at this
  subst this
  rw [depsM_spec]
  simp
theorem belowB_spec : ∀ {l : List Nat} {k : Nat}, belowB l k = true → ∀ i m, l[i]? = some m → ∀ j, m.testBit j = true → j < k + i
  | [], k, h, i, m, hm, j, hj => by simp at hm
  | x :: l, k, h, i, m, hm, j, hj => by
    have h : (Bool.rec false (belowB l (k + 1)) (Nat.blt x (Nat.shiftLeft 1 k)) : Bool) = true := h
    have h1 : Nat.blt x (Nat.shiftLeft 1 k) = true ∧ belowB l (k + 1) = true := by
      cases hb : Nat.blt x (Nat.shiftLeft 1 k) with
      | true => rw [hb] at h; exact ⟨rfl, h⟩
      | false => rw [hb] at h; simp at h
    cases i with
    | zero =>
      simp at hm
      subst hm
      have hlt : x < 2 ^ k := by
        have := toNat_of_blt h1.1
        rwa [show Nat.shiftLeft 1 k = 1 <<< k from rfl, Nat.one_shiftLeft] at this
      rcases Nat.lt_or_ge j (k + 0) with hj' | hj'
      · exact hj'
      · have : x.testBit j = false := Nat.testBit_lt_two_pow (Nat.lt_of_lt_of_le hlt (Nat.pow_le_pow_right (by omega) (by omega)))
        rw [this] at hj; simp at hj
    | succ i =>
      simp only [List.getElem?_cons_succ] at hm
      have := belowB_spec h1.2 i m hm j hj
      omega
theorem Bool.rec_true {x b : Bool} (h : (Bool.rec false x b : Bool) = true) : b = true ∧ x = true := by
  cases b with
  | false => simp at h
  | true => exact ⟨rfl, h⟩
theorem dstAt_some {t : Tmp} : ∀ {l : List Oper} {k j : Nat}, dstAt t l k = some j → ∃ i o, j = k + i ∧ l[i]? = some o ∧ o.dst = some t
  | [], k, j, h => by simp [dstAt] at h
  | o :: l, k, j, h => by
    have h : (match o.dst with
      | some t' => (Bool.rec (dstAt t l (k + 1)) (some k) (Nat.beq t t') : Option Nat)
      | none => dstAt t l (k + 1)) = some j := h
    have go : dstAt t l (k + 1) = some j → ∃ i o', j = k + i ∧ (o :: l)[i]? = some o' ∧ o'.dst = some t := fun h => by
      obtain ⟨i, o', h1, h2, h3⟩ := dstAt_some h
      exact ⟨i + 1, o', by omega, by simpa using h2, h3⟩
    split at h
    · rename_i t' ht
      cases hb : Nat.beq t t' with
      | true =>
        rw [hb] at h
        simp only [Option.some.injEq] at h
        have := of_beq hb
        subst this
        exact ⟨0, o, by omega, rfl, ht⟩
      | false => rw [hb] at h; exact go h
    · exact go h
theorem dstAt_none {t : Tmp} : ∀ {l : List Oper} {k : Nat}, dstAt t l k = none → ∀ (i : Nat) (o : Oper), l[i]? = some o → o.dst ≠ some t
  | [], k, h, i, o', ho => by simp at ho
  | o :: l, k, h, i, o', ho => by
    have h : (match o.dst with
      | some t' => (Bool.rec (dstAt t l (k + 1)) (some k) (Nat.beq t t') : Option Nat)
      | none => dstAt t l (k + 1)) = none := h
    have both : o.dst ≠ some t ∧ dstAt t l (k + 1) = none := by
      split at h
      · rename_i t' ht
        cases hb : Nat.beq t t' with
        | true => rw [hb] at h; simp at h
        | false =>
          rw [hb] at h
          refine ⟨fun e => ?_, h⟩
          rw [ht] at e
          simp only [Option.some.injEq] at e
          subst e
          rw [Nat.beq_refl] at hb
          simp at hb
      · rename_i ht; exact ⟨by rw [ht]; simp, h⟩
    cases i with
    | zero => simp at ho; subst ho; exact both.1
    | succ i => exact dstAt_none both.2 i o' (by simpa using ho)
theorem distB_spec : ∀ {l : List Oper}, distB l = true → ∀ (i j : Nat) (o o' : Oper) (t : Tmp), l[i]? = some o → l[j]? = some o' → o.dst = some t → o'.dst = some t → i = j
  | [], h, i, j, o, o', t, h1, h2, h3, h4 => by simp at h1
  | x :: l, h, i, j, o, o', t, h1, h2, h3, h4 => by
    have h : (match x.dst with
      | some t => (Bool.rec false (distB l) (newDst t l) : Bool)
      | none => distB l) = true := h
    have both : distB l = true ∧ ∀ t, x.dst = some t → ∀ (i : Nat) (o : Oper), l[i]? = some o → o.dst ≠ some t := by
      split at h
      · rename_i t' ht
        obtain ⟨q1, q2⟩ := Bool.rec_true h
        refine ⟨q2, fun t ht' => ?_⟩
        rw [ht] at ht'
        simp only [Option.some.injEq] at ht'
        subst ht'
        unfold newDst at q1
        split at q1
        · simp at q1
        · rename_i hq; exact dstAt_none hq
      · rename_i ht; exact ⟨h, fun t ht' => by rw [ht] at ht'; simp at ht'⟩
    cases i with
    | zero =>
      cases j with
      | zero => rfl
      | succ j =>
        simp at h1; subst h1
        exact (both.2 t h3 j o' (by simpa using h2) h4).elim
    | succ i =>
      cases j with
      | zero =>
        simp at h2; subst h2
        exact (both.2 t h4 i o (by simpa using h1) h3).elim
      | succ j => rw [distB_spec both.1 i j o o' t (by simpa using h1) (by simpa using h2) h3 h4]
theorem readB_spec {ops : List Oper} {m : Nat} : ∀ {l : List Operand}, readB ops m l = true → ∀ t, .tmp t ∈ l → readT ops m t = true
  | [], h, t, ht => by simp at ht
  | x :: l, h, t, ht => by
    cases x with
    | tmp k =>
      have h : (Bool.rec false (readB ops m l) (readT ops m k) : Bool) = true := h
      rcases List.mem_cons.1 ht with e | ht
      · simp only [Operand.tmp.injEq] at e; subst e; exact (Bool.rec_true h).1
      · exact readB_spec (Bool.rec_true h).2 t ht
    | const v =>
      have h : readB ops m l = true := h
      rcases List.mem_cons.1 ht with e | ht
      · cases e
      · exact readB_spec h t ht
    | func f =>
      have h : readB ops m l = true := h
      rcases List.mem_cons.1 ht with e | ht
      · cases e
      · exact readB_spec h t ht
    | global g =>
      have h : readB ops m l = true := h
      rcases List.mem_cons.1 ht with e | ht
      · cases e
      · exact readB_spec h t ht
theorem orderB_spec {ops : List Oper} : ∀ {l : List Oper} {ms : List Nat}, orderB ops l ms = true → ∀ (i : Nat) (o : Oper) (m : Nat), l[i]? = some o → ms[i]? = some m → guardB m o.guard = true ∧ readB ops m o.op.operands.toList = true
  | [], ms, h, i, o, m, h1, h2 => by simp at h1
  | x :: l, [], h, i, o, m, h1, h2 => by simp at h2
  | x :: l, y :: ms, h, i, o, m, h1, h2 => by
    have h : (Bool.rec false (orderB ops l ms) (guardB y x.guard && readB ops y x.op.operands.toList) : Bool) = true := h
    obtain ⟨h3, h4⟩ := Bool.rec_true h
    cases i with
    | zero => simp at h1 h2; subst h1 h2; simpa using h3
    | succ i => exact orderB_spec h4 i o m (by simpa using h1) (by simpa using h2)
noncomputable def setS (us : Nat → Upd) (s0 : VS) (L : Nat → Bool) : Nat → VS
  | 0 => s0
  | k + 1 => match L k with
    | true => (us k).on (setS us s0 L k)
    | false => setS us s0 L k
structure View (α : Type) where
  f : VS → α
  act : Upd → α → α
  touch : Upd → Prop
  on : ∀ u s, f (u.on s) = act u (f s)
  idle : ∀ u x, ¬ touch u → act u x = x
section
variable {α : Type} (v : View α) {us : Nat → Upd} {s0 : VS} {L L' : Nat → Bool}
theorem View.agree : ∀ {m : Nat}, (∀ k, k < m → v.touch (us k) → L k = L' k) → v.f (setS us s0 L m) = v.f (setS us s0 L' m)
  | 0, _ => rfl
  | m + 1, h => by
    have ih := View.agree (m := m) fun k hk => h k (by omega)
    simp only [setS]
    by_cases ht : v.touch (us m)
    · rw [h m (by omega) ht]
      split
      · rw [v.on, v.on, ih]
      · exact ih
    · split <;> split
      · rw [v.on, v.on, ih]
      · rw [v.on, v.idle _ _ ht, ih]
      · rw [v.on, v.idle _ _ ht, ih]
      · exact ih
theorem View.tail {i : Nat} : ∀ {m : Nat}, i ≤ m → (∀ k, i ≤ k → k < m → L k = true → ¬ v.touch (us k)) → v.f (setS us s0 L m) = v.f (setS us s0 L i)
  | 0, hi, _ => by rw [show i = 0 by omega]
  | m + 1, hi, h => by
    rcases Nat.lt_or_ge i (m + 1) with hi' | hi'
    · have ih := View.tail (i := i) (m := m) (by omega) fun k h1 h2 => h k h1 (by omega)
      rw [← ih]
      simp only [setS]
      split
      · rename_i hL
        rw [v.on, v.idle _ _ (h m (by omega) (by omega) hL)]
      · rfl
    · rw [show i = m + 1 by omega]
def more (L : Nat → Bool) (i k : Nat) : Bool := bif k == i then true else L k
theorem more_self (i : Nat) : more L i i = true := by simp [more]
theorem more_ne {i k : Nat} (h : k ≠ i) : more L i k = L k := by simp [more, h]
theorem View.step {i n : Nat} (hi : i < n) (hL : L i = false) (h : v.touch (us i) → ∀ k, i < k → k < n → L k = true → ¬ v.touch (us k)) : v.f ((us i).on (setS us s0 L n)) = v.f (setS us s0 (more L i) n) := by
  rw [v.on]
  by_cases ht : v.touch (us i)
  · have h := h ht
    rw [v.tail (i := i + 1) (by omega) fun k h1 h2 h3 => h k (by omega) h2 h3]
    rw [v.tail (L := more L i) (i := i + 1) (by omega) fun k h1 h2 h3 => h k (by omega) h2 (by rwa [more_ne (by omega)] at h3)]
    simp only [setS, hL, more_self]
    rw [v.on]
    rw [v.agree (L := L) (L' := more L i) fun k hk _ => (more_ne (by omega)).symm]
  · rw [v.idle _ _ ht]
    exact v.agree fun k hk hk' => by
      rw [more_ne]
      intro e; subst e; exact ht hk'
end
theorem setS_trunc {us : Nat → Upd} {s0 : VS} {L : Nat → Bool} {i : Nat} : ∀ {n : Nat}, i ≤ n → setS us s0 (fun k => L k && decide (k < i)) n = setS us s0 L i
  | 0, h => by rw [show i = 0 by omega]; rfl
  | n + 1, h => by
    rcases Nat.lt_or_ge n i with hn | hn
    · have hi : i = n + 1 := by omega
      subst hi
      have : ∀ m, m ≤ n + 1 → setS us s0 (fun k => L k && decide (k < n + 1)) m = setS us s0 L m := by
        intro m
        induction m with
        | zero => intro _; rfl
        | succ m ih =>
          intro hm
          simp only [setS]
          rw [ih (by omega), show (L m && decide (m < n + 1)) = L m by simp [show m < n + 1 by omega]]
      exact this _ (Nat.le_refl _)
    · simp only [setS]
      rw [show (L n && decide (n < i)) = false by simp [show ¬ n < i by omega]]
      exact setS_trunc hn
theorem lookF_cons (k : Tmp) (d : D) (c : Cond) (sl : Slots) (t : Tmp) : lookF ((k, d, c) :: sl) t = (Bool.rec (lookF sl t) (some d) (Nat.beq k t) : Option D) := rfl
def Upd.at (u : Upd) (t : Tmp) : Option D := match u.dst with
  | some t' => match u.val with
    | some d => match Nat.beq t' t with
      | true => some d
      | false => none
    | none => none
  | none => none
noncomputable def slotV (t : Tmp) : View (Option D) where
  f s := lookF s.sl t
  act u x := match u.at t with
    | some d => some d
    | none => x
  touch u := u.at t ≠ none
  on u s := by
    unfold Upd.on putU Upd.at
    cases u.dst with
    | none => rfl
    | some t' =>
      cases u.val with
      | none => rfl
      | some d =>
        simp only [lookF_cons]
        cases Nat.beq t' t <;> rfl
  idle u x h := by
    cases hq : u.at t with
    | none => rfl
    | some d => exact (h (by rw [hq]; simp)).elim
theorem Upd.at_dst {u : Upd} {t : Tmp} (h : u.at t ≠ none) : u.dst = some t := by
  unfold Upd.at at h
  split at h
  · rename_i t' ht
    split at h
    · split at h
      · rename_i hb; rw [ht, of_beq hb]
      · simp at h
    · simp at h
  · simp at h
def actW (q : Nat) : List (Nat × Root) → Option Root → Option Root
  | [], x => x
  | p :: ws, x => actW q ws (match Nat.beq p.1 q with
    | true => match x with
      | some _ => some p.2
      | none => none
    | false => x)
theorem writes_nth (q : Nat) : ∀ (ws : List (Nat × Root)) (rs : List Root), nthF (writes ws rs) q = actW q ws (nthF rs q)
  | [], rs => rfl
  | p :: ws, rs => by
    show nthF (writes ws (setAt rs p.1 p.2)) q = _
    rw [writes_nth q ws]
    simp only [actW]
    congr 1
    rw [nthF_get, nthF_get, setAt_eq, List.getElem?_set]
    cases hb : Nat.beq p.1 q with
    | true =>
      have := of_beq hb
      rw [if_pos this, ← this]
      by_cases hl : p.1 < rs.length
      · simp [hl]
      · simp [hl]
    | false =>
      rw [if_neg]
      intro e
      rw [e, Nat.beq_refl] at hb
      simp at hb
theorem actW_idle {q : Nat} : ∀ {ws : List (Nat × Root)} {x : Option Root}, q ∉ ws.map (·.1) → actW q ws x = x
  | [], x, _ => rfl
  | p :: ws, x, h => by
    simp only [List.map_cons, List.mem_cons, not_or] at h
    simp only [actW]
    have : Nat.beq p.1 q = false := by
      cases hb : Nat.beq p.1 q with
      | true => exact (h.1 (of_beq hb).symm).elim
      | false => rfl
    rw [this]
    exact actW_idle h.2
noncomputable def rootV (q : Nat) : View (Option Root) where
  f s := nthF s.rs q
  act u x := actW q u.ws (match u.al with
    | some rs => nthF rs q
    | none => x)
  touch u := u.al ≠ none ∨ q ∈ u.ws.map (·.1)
  on u s := by
    have : (u.on s).rs = writes u.ws (allR u.al s.rs) := by
      unfold Upd.on putU
      cases u.dst with
      | none => rfl
      | some t => cases u.val <;> rfl
    rw [this, writes_nth]
    congr 1
    unfold allR
    cases u.al <;> rfl
  idle u x h := by
    simp only [not_or] at h
    rw [actW_idle h.2]
    cases ha : u.al with
    | none => rfl
    | some rs => exact (h.1 (by rw [ha]; simp)).elim
end
end Go.V
