/- Every operation that only computes does what V says. -/
import Derived.Test.YtkbgcnppkmkkiaaDoorVm3
set_option linter.unusedVariables false
namespace Go.V
open Go.RowKit
section
variable {P : Program} {T : Tab} {N : Nat} {av0 : Nat → Prop} {w0 : World} {sp : List (D × Value)} {s : VS} {a : Act} {w : World} {E : Env}

theorem offsOf_nth {P : Program} : ∀ {fs : List Field} {l : List (Nat × Nat)} {k : Nat} {o sz : Nat}, offsOf P fs = some l → l[k]? = some (o, sz) → ∃ f, fs[k]? = some f ∧ f.offset = o ∧ (P.info? f.type).map (·.size) = some sz
  | [], l, k, o, sz, h, hk => by simp [offsOf] at h; subst h; simp at hk
  | f :: fs, l, k, o, sz, h, hk => by
    simp only [offsOf] at h
    split at h
    · rename_i i l' hi hl
      simp only [Option.some.injEq] at h
      subst h
      cases k with
      | zero => simp at hk; exact ⟨f, rfl, hk.1, by simp [hi, hk.2]⟩
      | succ k => simp at hk; obtain ⟨g, h1, h2⟩ := offsOf_nth hl hk; exact ⟨g, by simpa using h1, h2⟩
    · simp at h

theorem fieldAddr_sound (hty : TyOK P T) (h : R T N av0 w0 sp s a w E) {g : Cond} (hg : CondsHold a g) {t : TypeId} {x : Operand} {f : Nat} {p : Option Prop} {d : D} (e : pureOp T s g (.fieldAddr t x f) = some (p, d)) (hp : need p) :
    ∃ v, (∀ w', (Instr.fieldAt t (a.eval x) f).run P w' = .ok v w') ∧ DRel E (AV av0 s.rs E) w d v := by
  simp only [pureOp] at e
  split at e
  case h_2 => simp at e
  rename_i sz0 by0 z0 fs hy
  have hy := hty.ty _ _ hy
  obtain ⟨gs, hu, ho⟩ := hy.struct rfl
  split at e
  case h_2 => simp at e
  rename_i o sz hk
  rw [nth_eq] at hk
  obtain ⟨fl, hf1, hf2, hf3⟩ := offsOf_nth ho hk
  split at e
  case h_2 => simp at e
  rename_i hpos
  have hpos := toNat_of_blt hpos
  have run : ∀ (ad : Addr) (w' : World), (Instr.fieldAt t (.pointer (some ad)) f).run P w' = .ok (.pointer (some (ad.add o))) w' := by
    intro ad w'
    have hf1' : gs[f]? = some fl := by simpa using hf1
    simp [Instr.fieldAt, run_underlying hu, hf1', Instr.sureAddr, fieldPlace, run_sizeOf hf3, hf2, show ¬ sz = 0 by omega]
  split at e
  case h_3 => simp at e
  · rename_i r i j hx
    obtain ⟨b, sz', hr, hv⟩ := h.ev hg hx
    simp only [Option.some.injEq, Prod.mk.injEq] at e
    obtain ⟨rfl, rfl⟩ := e
    rw [hv]
    exact ⟨_, run _, b, sz', hr, by rw [Addr.add_mid, Nat.add_assoc]⟩
  · rename_i n get hx
    obtain ⟨ad, hv, hs, h1, h2, hc⟩ := h.ev hg hx
    split at e
    case h_2 => simp at e
    rename_i hle
    have hle := of_ble hle
    simp only [Option.some.injEq, Prod.mk.injEq] at e
    obtain ⟨rfl, rfl⟩ := e
    rw [hv]
    refine ⟨_, run _, ad.add o, rfl, add_spot _ hs _, by rw [block_add]; exact h1, by rw [block_add]; exact h2, fun j hj => ?_⟩
    rw [add_add _ hs]
    exact hc (o + j) (by omega)

theorem indexAddr_sound (hty : TyOK P T) (h : R T N av0 w0 sp s a w E) {g : Cond} (hg : CondsHold a g) {t : TypeId} {x ix : Operand} {p : Option Prop} {d : D} (e : pureOp T s g (.indexAddr t x ix) = some (p, d)) (hp : need p) :
    ∃ v, (∀ w', (Instr.indexAt t (a.eval x) (a.eval ix)).run P w' = .ok v w') ∧ DRel E (AV av0 s.rs E) w d v := by
  simp only [pureOp] at e
  split at e
  case h_2 => simp at e
  rename_i sz0 by0 z0 el hy
  have hy := (hty.ty _ _ hy).slice rfl
  split at e
  case h_2 => simp at e
  rename_i y hye
  have hye := hty.ty _ _ hye
  split at e
  case h_2 => simp at e
  rename_i i hi
  have hi := (h.ev hg hi).1
  have run : ∀ (ad : Addr) (len cap : Nat), 0 ≤ i ∧ i < (len : Int) → ∀ w', (Instr.indexAt t (.slice (some ad) len cap) (.int .i64 i)).run P w' = .ok (.pointer (some (ad.add (i.toNat * y.size)))) w' := by
    intro ad len cap hb w'
    simp [Instr.indexAt, run_underlying hy, asIntOf, hb, run_sizeOf hye.sz]
  rw [hi]
  split at e
  case h_3 => simp at e
  · rename_i sz n get hx
    obtain ⟨ao, cap, hv, hn, hm, hc⟩ := h.ev hg hx
    split at e
    case h_2 => simp at e
    rename_i hsz
    have hsz := of_beq hsz
    simp only [Option.some.injEq, Prod.mk.injEq] at e
    obtain ⟨rfl, rfl⟩ := e
    simp only [need] at hp
    obtain ⟨ad, rfl, hs, h1, h2, hc⟩ := hc (by omega)
    rw [hv]
    refine ⟨_, run ad n cap hp, ad.add (i.toNat * y.size), rfl, add_spot _ hs _, by rw [block_add]; exact h1, by rw [block_add]; exact h2, fun j hj => ?_⟩
    rw [add_add _ hs, ← hsz]
    exact hc i.toNat (by omega) j hj
  · rename_i r m hx
    obtain ⟨e', ao, n, cap, h1, h2, h3, hv⟩ := h.ev hg hx
    split at e
    · rename_i el' sz n' get hl
      rw [nth_eq] at hl
      split at e
      case h_2 => simp at e
      rename_i hsz
      have hsz := of_beq hsz
      simp only [Option.some.injEq, Prod.mk.injEq] at e
      obtain ⟨rfl, rfl⟩ := e
      simp only [need] at hp
      obtain ⟨q1, q2, xs, ⟨_, q3⟩, q4⟩ := h.roots r _ _ hl h1
      rcases q3 with ⟨q3, _⟩ | ⟨g', cap', cur, q3, _⟩
      · rw [h2] at q3
        simp at q3
        omega
      · rw [h2] at q3
        simp only [Value.slice.injEq] at q3
        obtain ⟨rfl, _, _⟩ := q3
        rw [hv]
        refine ⟨_, run _ m cap hp, g', sz, ⟨e'.2.1, ?_⟩, ?_⟩
        · rw [h1]
          obtain ⟨e1, e2, e3⟩ := e'
          simp only at q1 q2 h2
          subst q1
          rw [h2] at q2
          simp only [Value.ownBlock] at q2
          rw [q2]
        · rw [Addr.add_mid, hsz]; simp
    · rename_i el' sz n' l' hl
      rw [nth_eq] at hl
      split at e
      case h_2 => simp at e
      rename_i hsz
      have hsz := of_beq hsz
      simp only [Option.some.injEq, Prod.mk.injEq] at e
      obtain ⟨rfl, rfl⟩ := e
      simp only [need] at hp
      obtain ⟨q1, q2, xs, ⟨_, q3⟩, q4⟩ := h.roots r _ _ hl h1
      rcases q3 with ⟨q3, _⟩ | ⟨g', cap', cur, q3, _⟩
      · rw [h2] at q3
        simp at q3
        omega
      · rw [h2] at q3
        simp only [Value.slice.injEq] at q3
        obtain ⟨rfl, _, _⟩ := q3
        rw [hv]
        refine ⟨_, run _ m cap hp, g', sz, ⟨e'.2.1, ?_⟩, ?_⟩
        · rw [h1]
          obtain ⟨e1, e2, e3⟩ := e'
          simp only at q1 q2 h2
          subst q1
          rw [h2] at q2
          simp only [Value.ownBlock] at q2
          rw [q2]
        · rw [Addr.add_mid, hsz]; simp
    · simp at e

theorem evs_rel (h : R T N av0 w0 sp s a w E) {g : Cond} (hg : CondsHold a g) : ∀ {xs : List Operand} {ds : List D}, evs s g xs = some ds → All2 (DRel E (AV av0 s.rs E) w) ds (xs.map a.eval)
  | [], ds, e => by simp [evs] at e; subst e; exact .nil
  | x :: xs, ds, e => by
    simp only [evs] at e
    split at e
    · rename_i d r h1 h2
      simp only [Option.some.injEq] at e
      subst e
      exact .cons (h.ev hg h1) (evs_rel h hg h2)
    · simp at e

theorem run_mapM_pair {P : Program} {w : World} : ∀ {fs : List Field} {l : List (Nat × Nat)}, offsOf P fs = some l →
    (fs.mapM fun (f : Field) => (do pure (f.offset, ← sizeOf f.type) : Sem (Nat × Nat))).run P w = .ok l w
  | [], l, h => by simp [offsOf] at h; subst h; simp
  | f :: fs, l, h => by
    simp only [offsOf] at h
    split at h
    · rename_i i l' hi hl
      simp only [Option.some.injEq] at h
      subst h
      have ih := run_mapM_pair (w := w) hl
      rw [List.mapM_cons]
      simp only [Sem.run_bind, run_sizeOf (P := P) (t := f.type) (n := i.size) (by simp [hi]), Result.andThen_ok, Sem.run_pure, ih]
    · simp at h

theorem build_sound (hty : TyOK P T) (h : R T N av0 w0 sp s a w E) {g : Cond} (hg : CondsHold a g) {t : TypeId} {parts : Array (Nat × Operand)} {p : Option Prop} {d : D} (e : pureOp T s g (.build t parts) = some (p, d)) (hp : need p) :
    ∃ v, (∀ w', (Instr.build t (parts.map fun (i, x) => (i, a.eval x))).run P w' = .ok v w') ∧ DRel E (AV av0 s.rs E) w d v := by
  simp only [pureOp] at e
  split at e
  case h_2 => simp at e
  rename_i y hy
  have hy := hty.ty _ _ hy
  split at e
  case h_2 => simp at e
  rename_i fs hkd
  obtain ⟨gs, hu, ho⟩ := hy.struct hkd
  split at e
  case h_2 => simp at e
  rename_i z hz
  split at e
  case h_2 => simp at e
  rename_i l hl
  simp only [Option.some.injEq, Prod.mk.injEq] at e
  obtain ⟨rfl, rfl⟩ := e
  obtain ⟨inf, hi, _, _, hzero⟩ := hy.full
  obtain ⟨cs', h1, h2⟩ := fill_rel h hg (flds := fs) (place := fun i => fs.toArray[i]?) (fun i x hx => by simpa using hx) (cs := y.zero.cells) hl (oneV_rel hz)
  refine ⟨.agg cs', fun w' => ?_, _, rfl, h2⟩
  have hm : (gs.mapM fun (f : Field) => (do pure (f.offset, ← sizeOf f.type) : Sem (Nat × Nat))).run P w' = .ok fs.toArray w' := by
    have hgs : gs = gs.toList.toArray := rfl
    rw [hgs, List.mapM_toArray]
    simp only [Sem.run_map, run_mapM_pair ho, Result.andThen_ok]
  have hparts : (parts.map fun (i, x) => (i, a.eval x)).toList = parts.toList.map fun x => (x.1, a.eval x.2) := by simp
  have hz0 : (zeroValue t).run P w' = .ok y.zero w' := by simp [zeroValue, typeInfo, hi, hzero]
  rw [← hparts] at h1
  simp only [Instr.build, Sem.run_bind, hz0, Result.andThen_ok, run_underlying hu, hm]
  have h1' : Instr.fill (fun x => fs.toArray[x]?) y.zero.cells (Array.map (fun (x : Nat × Operand) => (x.fst, a.eval x.snd)) parts).toList = some cs' := h1
  rw [h1']
  rfl

theorem caps_rel {av : Nat → Prop} {r : Nat} {v : Value} (hv : CRel E av w (.rt r 0 0) v) : ∃ b sz, atRoot E r b sz ∧ v = .pointer (some ⟨b, 0, none⟩) := by
  obtain ⟨b, sz, h1, h2⟩ := hv
  exact ⟨b, sz, h1, by simpa using h2⟩

theorem builtin_sound (hty : TyOK P T) (h : R T N av0 w0 sp s a w E) {g : Cond} (hg : CondsHold a g) {b : Builtin} {argTypes : Array TypeId} {args : Array Operand} {p : Option Prop} {d : D} (type : TypeId) (consts : Array Bool) (e : builtinD T b argTypes.toList (evs s g args.toList) = some (p, d)) (hp : need p) :
    ∃ v, (∀ w', (builtin b argTypes type consts (args.map a.eval)).run P w' = .ok (.value v) w') ∧ DRel E (AV av0 s.rs E) w d v := by
  have one : ∀ {d : D}, evs s g args.toList = some [d] → ∃ v, args.map a.eval = #[v] ∧ DRel E (AV av0 s.rs E) w d v := by
    intro d hx
    have hx := evs_rel h hg hx
    have : args.map a.eval = (List.map a.eval args.toList).toArray := by rw [← Array.toList_map]
    rw [this]
    revert hx
    generalize List.map a.eval args.toList = vs
    intro hx
    cases hx with
    | cons q1 q2 => cases q2; exact ⟨_, rfl, q1⟩
  have two : ∀ {d d' : D}, evs s g args.toList = some [d, d'] → ∃ v v', args.map a.eval = #[v, v'] ∧ DRel E (AV av0 s.rs E) w d v ∧ DRel E (AV av0 s.rs E) w d' v' := by
    intro d d' hx
    have hx := evs_rel h hg hx
    have : args.map a.eval = (List.map a.eval args.toList).toArray := by rw [← Array.toList_map]
    rw [this]
    revert hx
    generalize List.map a.eval args.toList = vs
    intro hx
    cases hx with
    | cons q1 q2 => cases q2 with
      | cons q3 q4 => cases q4; exact ⟨_, _, rfl, q1, q3⟩
  cases b
  case len =>
    simp only [builtinD] at e
    split at e
    case h_2 => simp at e
    rename_i t d' ht hx
    obtain ⟨v, hv, hd⟩ := one hx
    have ht : argTypes = #[t] := by
      have : argTypes = argTypes.toList.toArray := rfl
      rw [this, ht]
    subst ht
    rw [hv]
    split at e
    case h_2 => simp at e
    rename_i y hy
    have hy := hty.ty _ _ hy
    have run : ∀ (v : Value) (n : Int), (∀ w', (Builtin.len_ #[t] type #[v]).run P w' = .ok (goInt n) w') → ∀ w', (builtin .len #[t] type consts #[v]).run P w' = .ok (.value (.int .i64 n)) w' := by
      intro v n hr w'
      simp only [builtin]
      simp [hr, goInt]
    split at e
    · rename_i el sz n get hk
      obtain ⟨ao, cap, rfl, _⟩ := hd
      simp only [Option.some.injEq, Prod.mk.injEq] at e
      obtain ⟨rfl, rfl⟩ := e
      exact ⟨_, run _ n (fun w' => by simp [Builtin.len_, run_underlying (hy.slice hk)]), rfl, rfl⟩
    · rename_i el r m hk
      obtain ⟨e', ao, n, cap, _, _, _, rfl⟩ := hd
      simp only [Option.some.injEq, Prod.mk.injEq] at e
      obtain ⟨rfl, rfl⟩ := e
      exact ⟨_, run _ m (fun w' => by simp [Builtin.len_, run_underlying (hy.slice hk)]), rfl, rfl⟩
    · rename_i el ad n c hk
      obtain ⟨rfl, _⟩ := hd
      simp only [Option.some.injEq, Prod.mk.injEq] at e
      obtain ⟨rfl, rfl⟩ := e
      exact ⟨_, run _ n (fun w' => by simp [Builtin.len_, run_underlying (hy.slice hk)]), rfl, rfl⟩
    · rename_i b hk
      obtain ⟨rfl, _⟩ := hd
      simp only [Option.some.injEq, Prod.mk.injEq] at e
      obtain ⟨rfl, rfl⟩ := e
      exact ⟨_, run _ b.size (fun w' => by simp [Builtin.len_, run_underlying (hy.strs hk)]), rfl, rfl⟩
    · simp at e
  case max =>
    simp only [builtinD] at e
    split at e
    case h_2 => simp at e
    rename_i x y hx
    obtain ⟨v, v', hv, ⟨rfl, _⟩, ⟨rfl, _⟩⟩ := two hx
    simp only [Option.some.injEq, Prod.mk.injEq] at e
    obtain ⟨rfl, rfl⟩ := e
    rw [hv]
    exact ⟨_, fun w' => by simp [builtin, Builtin.max_, Builtin.max2], rfl, rfl⟩
  case min =>
    simp only [builtinD] at e
    split at e
    case h_2 => simp at e
    rename_i x y hx
    obtain ⟨v, v', hv, ⟨rfl, _⟩, ⟨rfl, _⟩⟩ := two hx
    simp only [Option.some.injEq, Prod.mk.injEq] at e
    obtain ⟨rfl, rfl⟩ := e
    rw [hv]
    exact ⟨_, fun w' => by simp [builtin, Builtin.min_, Builtin.min2], rfl, rfl⟩
  all_goals simp [builtinD] at e

theorem findNow_set (n : Int) : ∀ {l : List Int} {es : List MapEntry}, All2 (fun n (x : MapEntry) => x.key = .int .i64 n ∧ x.val = .bool true) l es → ∀ i,
    (elemI n l = true ∧ ∃ k e, Instr.findNow (.int .i64) (.int .i64 n) es i = some (some (i + k, .bool true)) ∧ es[k]? = some e ∧ e.key = .int .i64 n) ∨ (elemI n l = false ∧ Instr.findNow (.int .i64) (.int .i64 n) es i = some none)
  | _, _, .nil, i => .inr ⟨rfl, rfl⟩
  | x :: l, e :: es, .cons h1 h2, i => by
    simp only [elemI, Instr.findNow, h1.1, Instr.sameNow, if_true]
    cases hx : n == x with
    | true =>
      have : n = x := by simpa using hx
      exact .inl ⟨rfl, 0, e, by simp [h1.2], rfl, by rw [h1.1, this]⟩
    | false =>
      rcases findNow_set n h2 (i + 1) with ⟨q1, k, e', q2, q3, q4⟩ | ⟨q1, q2⟩
      · exact .inl ⟨q1, k + 1, e', by simp only [q2]; congr 2; simp only [Prod.mk.injEq, and_true]; omega, by simpa using q3, q4⟩
      · exact .inr ⟨q1, q2⟩

theorem TyFact.map {P : Program} {t : TypeId} {y : Ty} (h : TyFact P t y) {k e : Nat} (hk : y.kd = .map k e) : P.underlying t = some (.map k e) := by
  have := h.kd
  rw [hk] at this
  unfold kdOf at this
  split at this <;> (try split at this) <;> simp_all
theorem TyFact.int {P : Program} {t : TypeId} {y : Ty} (h : TyFact P t y) (hk : y.kd = .int) : P.underlying t = some (.int .i64) := by
  have := h.kd
  rw [hk] at this
  unfold kdOf at this
  split at this <;> (try split at this) <;> simp_all

theorem checkKey_int {P : Program} {k : TypeId} (hk : P.underlying k = some (.int .i64)) (em : Bool) (n : Int) (w : World) : (Instr.checkKey em 10000 k (.int .i64 n)).run P w = .ok () w := by
  unfold Instr.checkKey
  simp [Go.underlying, Go.program, Sem.run, hk]
theorem lookup_sound (hty : TyOK P T) (h : R T N av0 w0 sp s a w E) {g : Cond} (hg : CondsHold a g) {t : TypeId} {x i : Operand} {ok : Bool} {p : Option Prop} {d : D} (e : pureOp T s g (.lookup t x i ok) = some (p, d)) :
    ∃ v, (∀ w', Below w.heap.size w w' → (Instr.lookup t (a.eval x) (a.eval i) ok).run P w' = .ok v w') ∧ DRel E (AV av0 s.rs E) w d v := by
  cases ok with
  | true => simp [pureOp] at e
  | false =>
    simp only [pureOp] at e
    split at e
    case h_2 => simp at e
    rename_i s1 b1 z1 k el hyt
    have hyt := (hty.ty _ _ hyt).map rfl
    split at e
    case h_2 => simp at e
    rename_i s2 b2 z2 s3 b3 kd3 hyk hye
    have hyk := (hty.ty _ _ hyk).int rfl
    have hye := hty.ty _ _ hye
    obtain ⟨inf, hin, _, _, hz⟩ := hye.full
    have run : ∀ {b : Nat} {es : Array MapEntry} {clock : Nat} {l : List Int} {n : Int}, w.heap[b]? = some (.map es clock) → All2 (fun n (x : MapEntry) => x.key = .int .i64 n ∧ x.val = .bool true) l es.toList → a.eval x = .map (some b) → a.eval i = .int .i64 n →
        ∀ w', Below w.heap.size w w' → (Instr.lookup t (a.eval x) (a.eval i) false).run P w' = .ok (.bool (elemI n l)) w' := by
      intro b es clock l n h2 h3 hx hi w' hb
      have hlt : b < w.heap.size := (Array.getElem?_eq_some_iff.1 h2).1
      have hb2 : w'.heap[b]? = some (.map es clock) := (hb.block b hlt).trans h2
      have hu : (Go.underlying t).run P w' = .ok (.map k el) w' := by simp [Go.underlying, Go.program, Sem.run, hyt]
      have huk : (Go.underlying k).run P w' = .ok (.int .i64) w' := by simp [Go.underlying, Go.program, Sem.run, hyk]
      have hg' : (getObj b).run P w' = .ok (.map es clock) w' := by simp [getObj, Sem.run, hb2]
      have hz0 : (zeroValue el).run P w' = .ok (.bool false) w' := by simp [zeroValue, typeInfo, hin, hz]
      have hf : (Instr.findKey k (.int .i64 n) es.toList).run P w' = .ok (match Instr.findNow (.int .i64) (.int .i64 n) es.toList 0 with | some r => r | none => none) w' := by
        rcases findNow_set n h3 0 with ⟨q1, k', e', q2, q3, q4⟩ | ⟨q1, q2⟩ <;> simp [Instr.findKey, huk, q2]
      unfold Instr.lookup
      simp only [hx, hi, Sem.run_bind, hu, hg', Result.andThen_ok, checkKey_int hyk, hf, Sem.run_pure]
      rcases findNow_set n h3 0 with ⟨q1, k', e', q2, q3, q4⟩ | ⟨q1, q2⟩
      · simp [q2, q1]
      · simp [q2, q1, hz0]
    split at e
    · rename_i r n hx hi
      obtain ⟨b, sz, hat, hx⟩ := h.ev hg hx
      have hi := (h.ev hg hi).1
      split at e
      case h_2 => simp at e
      rename_i l hl
      simp only [Option.some.injEq, Prod.mk.injEq] at e
      obtain ⟨rfl, rfl⟩ := e
      rw [nth_eq] at hl
      obtain ⟨hh, hE⟩ := hat
      obtain ⟨b', es, clock, h1, h2, h3⟩ := h.roots r _ _ hl hE
      have h1 : some b = some b' := h1
      simp only [Option.some.injEq] at h1
      subst h1
      exact ⟨.bool (elemI n l), run h2 h3 hx hi, rfl, rfl⟩
    · rename_i l n hx hi
      obtain ⟨b, es, clock, hx, _, h2, h3⟩ := h.ev hg hx
      have hi := (h.ev hg hi).1
      simp only [Option.some.injEq, Prod.mk.injEq] at e
      obtain ⟨rfl, rfl⟩ := e
      exact ⟨.bool (elemI n l), run h2 h3 hx hi, rfl, rfl⟩
    · simp at e

theorem run_slice_to (hty : TyOK P T) {t : TypeId} {el : TypeId} {y : Ty} (hy : T.ty el = some y) (hyt : P.underlying t = some (.slice el)) (ad : Option Addr) (n cap : Nat) (h : Int) (h0 : 0 ≤ h) (h1 : h ≤ (cap : Int)) (w' : World) :
    (Instr.sliceAt t (.slice ad n cap) none (some (.int .i64 h)) none).run P w' = .ok (.slice ad h.toNat cap) w' := by
  have he : P.elem t = el := by simp [Program.elem, hyt]
  have ht : P.underlying t = some (.slice (P.elem t)) := by rw [he]; exact hyt
  rw [run_sliceAt_slice w' t _ _ _ _ ht, run_slice_h w' t ad n cap ht .i64 h h0 h1, he, run_sizeOf (hty.ty _ _ hy).sz, Result.andThen_ok]
  simp only [sliced, Nat.zero_mul, Nat.sub_zero]
  congr 2
  split
  · rfl
  · cases ad <;> simp [Addr.add]
theorem slice_sound (hty : TyOK P T) (h : R T N av0 w0 sp s a w E) {g : Cond} (hg : CondsHold a g) {t : TypeId} {x hi : Operand} {p : Option Prop} {d : D} (e : pureOp T s g (.slice t x none (some hi) none) = some (p, d)) (hp : need p) :
    ∃ v, (∀ w', (Instr.sliceAt t (a.eval x) none (some (a.eval hi)) none).run P w' = .ok v w') ∧ DRel E (AV av0 s.rs E) w d v := by
  simp only [pureOp] at e
  split at e
  case h_2 => simp at e
  rename_i s1 b1 z1 el hyt'
  have hyt := (hty.ty _ _ hyt').slice rfl
  split at e
  case h_2 => simp at e
  rename_i yel hyel
  split at e
  · rename_i sz n get ih hx hi
    obtain ⟨ad, cap, hx, q1, q2, q3⟩ := h.ev hg hx
    have hi := (h.ev hg hi).1
    simp only [Option.some.injEq, Prod.mk.injEq] at e
    obtain ⟨rfl, rfl⟩ := e
    obtain ⟨p1, p2⟩ := hp
    refine ⟨.slice ad ih.toNat cap, fun w' => ?_, ad, cap, rfl, by omega, by omega, fun h0 => ?_⟩
    · rw [hx, hi]
      exact run_slice_to hty hyel hyt ad n cap ih p1 (by omega) w'
    · obtain ⟨a1, r1, r2, r3, r4, r5⟩ := q3 (by omega)
      exact ⟨a1, r1, r2, r3, r4, fun i hi' j hj => r5 i (by omega) j hj⟩
  · rename_i r m ih hx hi
    obtain ⟨e0, ad, n, cap, hE, hv, hm, hx⟩ := h.ev hg hx
    have hi := (h.ev hg hi).1
    split at e
    · rename_i el' sz' n' get' hr
      simp only [Option.some.injEq, Prod.mk.injEq] at e
      obtain ⟨rfl, rfl⟩ := e
      obtain ⟨p1, p2⟩ := hp
      rw [nth_eq] at hr
      obtain ⟨_, _, xs, hown, _⟩ := h.roots r _ _ hr hE
      have hcap : n ≤ cap := by
        rw [hv] at hown
        rcases hown.2 with ⟨h1, _⟩ | ⟨g, c, cur, h1, _, _, h2, _⟩
        · simp only [Value.slice.injEq] at h1; omega
        · simp only [Value.slice.injEq] at h1; omega
      refine ⟨.slice ad ih.toNat cap, fun w' => ?_, e0, ad, n, cap, hE, hv, by omega, rfl⟩
      rw [hx, hi]
      exact run_slice_to hty hyel hyt ad m cap ih p1 (by omega) w'
    · rename_i el' sz' n' l' hr
      simp only [Option.some.injEq, Prod.mk.injEq] at e
      obtain ⟨rfl, rfl⟩ := e
      obtain ⟨p1, p2⟩ := hp
      rw [nth_eq] at hr
      obtain ⟨_, _, xs, hown, _⟩ := h.roots r _ _ hr hE
      have hcap : n ≤ cap := by
        rw [hv] at hown
        rcases hown.2 with ⟨h1, _⟩ | ⟨g, c, cur, h1, _, _, h2, _⟩
        · simp only [Value.slice.injEq] at h1; omega
        · simp only [Value.slice.injEq] at h1; omega
      refine ⟨.slice ad ih.toNat cap, fun w' => ?_, e0, ad, n, cap, hE, hv, by omega, rfl⟩
      rw [hx, hi]
      exact run_slice_to hty hyel hyt ad m cap ih p1 (by omega) w'
    · simp at e
  · rename_i ih hx hi
    have hx := (h.ev hg hx).1
    have hi := (h.ev hg hi).1
    simp only [Option.some.injEq, Prod.mk.injEq] at e
    obtain ⟨rfl, rfl⟩ := e
    have hp : ih = 0 := hp
    subst hp
    refine ⟨.slice none 0 0, fun w' => ?_, rfl, rfl⟩
    rw [hx, hi]
    exact run_slice_to hty hyel hyt none 0 0 0 (by omega) (by omega) w'
  · simp at e

theorem pureOp_sound (hty : TyOK P T) (h : R T N av0 w0 sp s a w E) {g : Cond} (hg : CondsHold a g) {o : Oper} {p : Option Prop} {d : D} (e : pureOp T s g o.op = some (p, d)) (hp : need p) :
    ∃ v, (∀ w', Below w.heap.size w w' → (execOp a.eval o).run P w' = .ok (.value v) w') ∧ DRel E (AV av0 s.rs E) w d v := by
  obtain ⟨dst, op, type, pos, after, guard⟩ := o
  simp only at e
  cases op
  case load t x =>
    obtain ⟨v, h1, h2⟩ := load_sound hty h hg e hp
    exact ⟨v, fun w' hb => run_value (h1 w' hb), h2⟩
  case fieldAddr t x f =>
    obtain ⟨v, h1, h2⟩ := fieldAddr_sound hty h hg e hp
    exact ⟨v, fun w' _ => run_value (h1 w'), h2⟩
  case indexAddr t x ix =>
    obtain ⟨v, h1, h2⟩ := indexAddr_sound hty h hg e hp
    exact ⟨v, fun w' _ => run_value (h1 w'), h2⟩
  case build t parts =>
    obtain ⟨v, h1, h2⟩ := build_sound hty h hg e hp
    exact ⟨v, fun w' _ => run_value (h1 w'), h2⟩
  case move x =>
    simp only [pureOp] at e
    split at e
    · rename_i d' hx
      simp only [Option.some.injEq, Prod.mk.injEq] at e
      obtain ⟨rfl, rfl⟩ := e
      exact ⟨_, fun _ _ => rfl, h.ev hg hx⟩
    · simp at e
  case assign x =>
    simp only [pureOp] at e
    split at e
    · rename_i d' hx
      simp only [Option.some.injEq, Prod.mk.injEq] at e
      obtain ⟨rfl, rfl⟩ := e
      exact ⟨_, fun _ _ => rfl, h.ev hg hx⟩
    · simp at e
  case pick c x y =>
    cases c
    case tmp t =>
      simp only [pureOp] at e
      split at e
      case h_2 => simp at e
      rename_i b hb
      have hb := (h.ev hg hb).1
      split at e
      case h_2 => simp at e
      rename_i bx bY hx hy
      simp only [Option.some.injEq, Prod.mk.injEq] at e
      obtain ⟨rfl, rfl⟩ := e
      cases b with
      | true =>
        have hx := (h.ev (g := (t, true) :: g) (fun q hq => by
          cases hq with
          | head => exact hb
          | tail _ hq => exact hg q hq) hx).1
        refine ⟨.bool bx, fun w' _ => ?_, rfl, rfl⟩
        have hb' : a.eval (.tmp t) = .bool true := hb
        simp [execOp, hb', asBool, hx]
      | false =>
        have hy := (h.ev (g := (t, false) :: g) (fun q hq => by
          cases hq with
          | head => exact hb
          | tail _ hq => exact hg q hq) hy).1
        refine ⟨.bool bY, fun w' _ => ?_, rfl, rfl⟩
        have hb' : a.eval (.tmp t) = .bool false := hb
        simp [execOp, hb', asBool, hy]
    all_goals simp [pureOp] at e
  case binOp op t x y t2 =>
    simp only [pureOp] at e
    split at e
    · rename_i bx bY hx hy
      have hx := (h.ev hg hx).1
      have hy := (h.ev hg hy).1
      split at e
      case h_2 => simp at e
      rename_i hyt
      have hyt := hty.ty _ _ hyt
      split at e
      · simp only [Option.some.injEq, Prod.mk.injEq] at e
        obtain ⟨rfl, rfl⟩ := e
        exact ⟨_, fun w' _ => by simp only [execOp, hx, hy]; exact run_value (boolEq_run hyt rfl bx bY x y).1, rfl, rfl⟩
      · simp only [Option.some.injEq, Prod.mk.injEq] at e
        obtain ⟨rfl, rfl⟩ := e
        exact ⟨_, fun w' _ => by simp only [execOp, hx, hy]; exact run_value (boolEq_run hyt rfl bx bY x y).2, rfl, rfl⟩
      · simp at e
    · rename_i vx vy _ hx hy
      have hx := (h.ev hg hx).1
      have hy := (h.ev hg hy).1
      split at e
      · rename_i z hz
        simp only [Option.some.injEq, Prod.mk.injEq] at e
        obtain ⟨rfl, rfl⟩ := e
        exact ⟨_, fun w' _ => by simp only [execOp, hx, hy]; exact run_value (binV_run hz t x y), rfl, binV_one hz⟩
      · split at e
        · rename_i q z hz
          simp only [Option.some.injEq, Prod.mk.injEq] at e
          obtain ⟨rfl, rfl⟩ := e
          exact ⟨_, fun w' _ => by simp only [execOp, hx, hy]; exact run_value (divV_run hz hp t x y), rfl, divV_one hz⟩
        · simp at e
    · rename_i l m hx hy
      obtain ⟨cs, hx, hl⟩ := h.ev hg hx
      obtain ⟨ds, hy, hm⟩ := h.ev hg hy
      split at e
      case h_2 => simp at e
      rename_i ks hks
      split at e
      · rename_i b hb
        simp only [Option.some.injEq, Prod.mk.injEq] at e
        obtain ⟨rfl, rfl⟩ := e
        exact ⟨_, fun w' hb' => by simp only [execOp, hx, hy]; exact run_value (hty.eqs t ks hks l m b hb E _ w' cs ds (hl.mono fun _ _ q => CRel.mono (Env.le_refl E) (Keeps.of_below hb') (fun _ _ q => q) q) (hm.mono fun _ _ q => CRel.mono (Env.le_refl E) (Keeps.of_below hb') (fun _ _ q => q) q) x y).1, rfl, rfl⟩
      · rename_i b hb
        simp only [Option.some.injEq, Prod.mk.injEq] at e
        obtain ⟨rfl, rfl⟩ := e
        exact ⟨_, fun w' hb' => by simp only [execOp, hx, hy]; exact run_value (hty.eqs t ks hks l m b hb E _ w' cs ds (hl.mono fun _ _ q => CRel.mono (Env.le_refl E) (Keeps.of_below hb') (fun _ _ q => q) q) (hm.mono fun _ _ q => CRel.mono (Env.le_refl E) (Keeps.of_below hb') (fun _ _ q => q) q) x y).2, rfl, rfl⟩
      · simp at e
    · simp at e
  case slice t x lo hi mx =>
    cases lo with
    | some _ => simp [pureOp] at e
    | none => cases hi with
      | none => simp [pureOp] at e
      | some hi => cases mx with
        | some _ => simp [pureOp] at e
        | none =>
          obtain ⟨v, h1, h2⟩ := slice_sound hty h hg e hp
          exact ⟨v, fun w' _ => run_value (h1 w'), h2⟩
  case lookup t x i ok =>
    obtain ⟨v, h1, h2⟩ := lookup_sound hty h hg e
    exact ⟨v, fun w' hb => run_value (h1 w' hb), h2⟩
  case unOp op t x =>
    cases op
    case not =>
      simp only [pureOp] at e
      split at e
      · rename_i b hx
        have hx := (h.ev hg hx).1
        simp only [Option.some.injEq, Prod.mk.injEq] at e
        obtain ⟨rfl, rfl⟩ := e
        exact ⟨.bool (!b), fun w' _ => by simp only [execOp, hx]; simp [Op.unary], rfl, rfl⟩
      · simp at e
    case neg =>
      simp only [pureOp] at e
      split at e
      · rename_i n hx
        have hx := (h.ev hg hx).1
        simp only [Option.some.injEq, Prod.mk.injEq] at e
        obtain ⟨rfl, rfl⟩ := e
        exact ⟨.int .i64 (IntKind.i64.wrap (0 - n)), fun w' _ => by simp only [execOp, hx]; simp [Op.unary, Op.intArith], rfl, rfl⟩
      · simp at e
    all_goals simp [pureOp] at e
  case nilCheck x =>
    simp only [pureOp] at e
    split at e
    · rename_i r i j hx
      obtain ⟨b, sz, h1, hv⟩ := h.ev hg hx
      simp only [Option.some.injEq, Prod.mk.injEq] at e
      obtain ⟨rfl, rfl⟩ := e
      exact ⟨_, fun w' _ => by simp only [execOp, hv]; rfl, b, sz, h1, rfl⟩
    · rename_i n get hx
      have hx := h.ev hg hx
      obtain ⟨ad, hv, hr⟩ := hx
      simp only [Option.some.injEq, Prod.mk.injEq] at e
      obtain ⟨rfl, rfl⟩ := e
      exact ⟨_, fun w' _ => by simp only [execOp, hv]; rfl, ad, rfl, hr⟩
    · rename_i f caps hx
      obtain ⟨vs, hv, hr⟩ := h.ev hg hx
      simp only [Option.some.injEq, Prod.mk.injEq] at e
      obtain ⟨rfl, rfl⟩ := e
      exact ⟨_, fun w' _ => by simp only [execOp, hv]; rfl, vs, rfl, hr⟩
    · rename_i f n cap hx
      obtain ⟨vs, hv, hr⟩ := h.ev hg hx
      simp only [Option.some.injEq, Prod.mk.injEq] at e
      obtain ⟨rfl, rfl⟩ := e
      exact ⟨_, fun w' _ => by simp only [execOp, hv]; rfl, vs, rfl, hr⟩
    · simp at e
  case extract x k =>
    simp only [pureOp] at e
    split at e
    case h_2 => simp at e
    rename_i l hx
    obtain ⟨vs, hv, hl⟩ := h.ev hg hx
    split at e
    · rename_i cs hk
      obtain ⟨v, h1, h2⟩ := hl.nth hk
      simp only [Option.some.injEq, Prod.mk.injEq] at e
      obtain ⟨rfl, rfl⟩ := e
      refine ⟨v, fun w' _ => ?_, h2⟩
      have h1' : vs[k]? = some v := by simpa using h1
      simp [execOp, hv, Instr.extract, h1']
    · rename_i c hk
      obtain ⟨v, h1, c', h2, h3⟩ := hl.nth hk
      simp only [Option.some.injEq, Prod.mk.injEq] at e
      obtain ⟨rfl, rfl⟩ := e
      simp only [List.cons.injEq, and_true] at h2
      subst h2
      refine ⟨v, fun w' _ => ?_, h3⟩
      have h1' : vs[k]? = some v := by simpa using h1
      simp [execOp, hv, Instr.extract, h1']
    · simp at e
  case makeFunc fn first caps =>
    simp only [pureOp] at e
    have run : ∀ f, fn = .func f → first.toList = [] → ∀ w', Below w.heap.size w w' → (execOp a.eval { dst := dst, op := .makeFunc fn first caps, type := type, pos := pos, after := after, guard := guard }).run P w' = .ok (.value (.func (.func f) #[] (caps.map a.eval))) w' := by
      intro f hf h0 w' _
      have : first = #[] := by rw [← Array.toList_eq_nil_iff]; exact h0
      subst this
      subst hf
      simp [execOp, Instr.makeFunc]
    split at e
    · rename_i f h0 hx
      have hx := evs_rel h hg hx
      simp only [Option.some.injEq, Prod.mk.injEq] at e
      obtain ⟨rfl, rfl⟩ := e
      refine ⟨_, run _ rfl h0, _, rfl, ?_⟩
      have : (caps.map a.eval).toList = [] := by rw [Array.toList_map]; cases hc : List.map a.eval caps.toList with
        | nil => rfl
        | cons y ys => rw [hc] at hx; cases hx
      rw [this]
      exact .nil
    · rename_i f r h0 hx
      have hx := evs_rel h hg hx
      simp only [Option.some.injEq, Prod.mk.injEq] at e
      obtain ⟨rfl, rfl⟩ := e
      refine ⟨_, run _ rfl h0, _, rfl, ?_⟩
      rw [Array.toList_map]
      revert hx
      generalize List.map a.eval caps.toList = vs
      intro hx
      cases hx with
      | cons q1 q2 =>
        cases q2
        exact .cons (caps_rel (av := AV av0 s.rs E) (w := w) q1) .nil
    · rename_i f r r' h0 hx
      have hx := evs_rel h hg hx
      simp only [Option.some.injEq, Prod.mk.injEq] at e
      obtain ⟨rfl, rfl⟩ := e
      refine ⟨_, run _ rfl h0, _, rfl, ?_⟩
      rw [Array.toList_map]
      revert hx
      generalize List.map a.eval caps.toList = vs
      intro hx
      cases hx with
      | cons q1 q2 =>
        cases q2 with
        | cons q3 q4 =>
          cases q4
          exact .cons (caps_rel (av := AV av0 s.rs E) (w := w) q1) (.cons (caps_rel (av := AV av0 s.rs E) (w := w) q3) .nil)
    · rename_i f r r' r'' h0 hx
      have hx := evs_rel h hg hx
      simp only [Option.some.injEq, Prod.mk.injEq] at e
      obtain ⟨rfl, rfl⟩ := e
      refine ⟨_, run _ rfl h0, _, rfl, ?_⟩
      rw [Array.toList_map]
      revert hx
      generalize List.map a.eval caps.toList = vs
      intro hx
      cases hx with
      | cons q1 q2 =>
        cases q2 with
        | cons q3 q4 =>
          cases q4 with
          | cons q5 q6 =>
            cases q6
            exact .cons (caps_rel (av := AV av0 s.rs E) (w := w) q1) (.cons (caps_rel (av := AV av0 s.rs E) (w := w) q3) (.cons (caps_rel (av := AV av0 s.rs E) (w := w) q5) .nil))
    · simp at e
  case call c =>
    obtain ⟨callee, args, argTypes⟩ := c
    simp only [pureOp] at e
    split at e
    case h_2 => simp at e
    rename_i b
    have run : ∀ v w', (builtin b argTypes type (args.map fun | .const _ => true | _ => false) (args.map a.eval)).run P w' = .ok (.value v) w' →
        (execOp a.eval { dst := dst, op := .call { callee := .builtin b, args := args, argTypes := argTypes }, type := type, pos := pos, after := after, guard := guard }).run P w' = .ok (.value v) w' := by
      intro v w' hr
      simp only [execOp, resolve, Sem.run_bind, Sem.run_pure, Result.andThen_ok, invoke]
      exact hr
    obtain ⟨v, h1, h2⟩ := builtin_sound hty h hg type (args.map fun | .const _ => true | _ => false) e hp
    exact ⟨v, fun w' _ => run v w' (h1 w'), h2⟩
  all_goals simp [pureOp] at e
end
end Go.V
