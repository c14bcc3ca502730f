/- Calls by contract; one operation; the operations of a statement. -/
import Derived.Test.YtkbgcnppkmkkiaaDoorVm9
import Derived.RangeFuncNested
import Derived.MapKept
set_option linter.unusedVariables false
namespace Go.V
open Go.RowKit

def Enters (P : Program) (f : FuncId) : Prop := ∃ fn, P.funcs[f]? = some fn ∧ (fn.name == "runtime.NumGoroutine") = false ∧ fn.body.isNone = false

/-- What a function that only looks, and makes memory of its own, comes to. -/
def Pure1 (T : Tab) (P : Program) (f : FuncId) (ds : List D) (d : D) : Prop := ∀ (av : Nat → Prop) (w : World) (vs : List Value), (∀ b, av b → b < w.heap.size) → Globs T av w → All2 (DRel [] av w) ds vs →
  Go.Calls P f vs.toArray w fun e w' => ∃ v, e = .returned v ∧ DRel [] av w' d v ∧ Below w.heap.size w w'

/-- A round of a loop over a function, from its frame to the value that yield hands back. -/
def RoundS (P : Program) (l : Nat) (f : FuncId) (tm : Array Value) (as bd : Code) (w : World) (Rr : Value → World → Prop) : Prop :=
  ∀ (c : Frame) (cs : List Frame), ∃ v w', Rr v w' ∧ Steps P (lone (Frame.round l f tm as bd .normal) (c :: cs) w) (lone (c.finish v) cs w')

/-- What one operation does. -/
inductive Op1 (P : Program) (Y : Bool) (o : Oper) (a : Act) (w : World) (next : Act → World → Prop) : Prop
  | value (v : Value) (w' : World) (hd : ∀ c, o.op ≠ .defer c) (hr : (execOp a.eval o).run P w = .ok (.value v) w') (hn : next (a.put o.dst v) w')
  | skip (w' : World) (hd : ∀ c, o.op ≠ .defer c) (hr : (execOp a.eval o).run P w = .ok .skip w') (hn : next (a.put o.dst undef) w')
  | enter (f : FuncId) (args : Array Value) (w' : World) (hd : ∀ c, o.op ≠ .defer c) (hr : (execOp a.eval o).run P w = .ok (.enter f args) w')
      (hc : Go.Calls P f args w' fun e w'' => ∃ v, e = .returned v ∧ next (a.put o.dst v) w'')
  | round (hY : Y = true) (l : Nat) (f : FuncId) (tm : Array Value) (as bd : Code) (w' : World) (hd : ∀ c, o.op ≠ .defer c) (hr : (execOp a.eval o).run P w = .ok (.round l f tm as bd) w')
      (hc : RoundS P l f tm as bd w' fun v w'' => next (a.put o.dst v) w'')

structure CalOK (T : Tab) (P : Program) (cal : Cal) : Prop where
  pur : ∀ f ds p d, cal.pur f ds = some (p, d) → Enters P f ∧ (need p → Pure1 T P f ds d)
  eff : ∀ f ds rs p d rs', cal.eff f ds rs = some (p, d, rs') → Enters P f ∧ (need p → ∀ (N : Nat) (av0 : Nat → Prop) (w0 : World) (sp : List (D × Value)) (sl : Slots) (df : List Nat) (a : Act) (w : World) (E : Env) (vs : List Value), R T N av0 w0 sp ⟨sl, rs, df⟩ a w E → All2 (DRel E (AV av0 rs E) w) ds vs →
    Go.Calls P f vs.toArray w fun e w' => ∃ v E', e = .returned v ∧ R T N av0 w0 sp ⟨sl, rs', df⟩ a w' E' ∧ DRel E' (AV av0 rs' E') w' d v)
  yld : ∀ r ds rs p d rs', cal.yld r ds rs = some (p, d, rs') → need p → ∀ (N : Nat) (av0 : Nat → Prop) (w0 : World) (sp : List (D × Value)) (sl : Slots) (df : List Nat) (a : Act) (w : World) (E : Env) (vs : List Value), R T N av0 w0 sp ⟨sl, rs, df⟩ a w E → All2 (DRel E (AV av0 rs E) w) ds vs →
    ∃ b sz f tm as bd, atRoot E r b sz ∧ (Instr.yield b vs.toArray).run P w = .ok (.round b f tm as bd) w ∧
      RoundS P b f tm as bd w fun v w' => ∃ E', R T N av0 w0 sp ⟨sl, rs', df⟩ a w' E' ∧ DRel E' (AV av0 rs' E') w' d v


section
variable {P : Program} {T : Tab} {cal : Cal} {N : Nat} {av0 : Nat → Prop} {w0 : World} {sp : List (D × Value)} {s : VS} {a : Act} {w : World} {E : Env}

theorem run_enter {f : FuncId} (h : Enters P f) (args : Array Value) (w : World) : (callFunc f args).run P w = .ok (.enter f args) w := by
  obtain ⟨fn, h1, h2, h3⟩ := h
  have h2' : ¬ fn.name = "runtime.NumGoroutine" := by simpa using h2
  have h3' : ¬ fn.body = none := by intro q; simp [q] at h3
  simp [callFunc, program, Sem.run, h1, h2', h3']

theorem putK_sound {dst : Option Tmp} {d : D} {g : Cond} {K : VS → Prop} (e : putK N s dst d g K) (h : R T N av0 w0 sp s a w E) {v : Value}
    (h1 : CondsHold a g → DRel E (AV av0 s.rs E) w d v) (h2 : ¬ CondsHold a g → v = undef) {next : Act → World → Prop} (hn : ∀ s' a' w' E', K s' → R T N av0 w0 sp s' a' w' E' → next a' w') : next (a.put dst v) w := by
  unfold putK at e
  split at e
  · exact hn _ _ _ _ e h
  · rename_i t
    split at e
    · rename_i hok
      exact hn _ _ _ _ e (h.put hok h1 h2)
    · exact e.elim

/-- A pure callee, met by its contract. -/
theorem pur_call (hc : CalOK T P cal) (h : R T N av0 w0 sp s a w E) {f : FuncId} {ds is : List D} {p : Option Prop} {d : D} (hi : reifyDs s.rs ds = some is) (hp : cal.pur f is = some (p, d)) (hok : need p)
    (hs : (pureDs ds || plainD d) = true) (hd : pureD d = true) {vs : List Value} (hv : All2 (DRel E (AV av0 s.rs E) w) ds vs) :
    Go.Calls P f vs.toArray w fun e w' => ∃ v, e = .returned v ∧ Below w.heap.size w w' ∧ DRel E (AV av0 s.rs E) w' d v := by
  have avlt : ∀ b, AV av0 s.rs E b → b < w.heap.size := by
    rintro b (q | ⟨r, x, sz, h1, h2, h3⟩)
    · have := h.outer b q; have := h.size_le; omega
    · exact (h.blk r x b sz h1 h2 h3).2
  by_cases hpd : plainD d = true
  · refine ((hc.pur f is p d hp).2 hok (fun _ => False) w vs (fun _ q => q.elim) (h.glob.mono (Keeps.refl _ w) (fun _ _ q => q.elim)) (reifyDs_rel h (Spare.none av0 s E) hi hv)).mono ?_
    rintro e w' ⟨v, rfl, h1, h2⟩
    exact ⟨v, rfl, h2, plainD_rel hpd h1⟩
  · have hpu : pureDs ds = true := by simpa [hpd] using hs
    refine ((hc.pur f is p d hp).2 hok (AV av0 s.rs E) w vs avlt h.glob (pure_reifyDs hpu hi hv)).mono ?_
    rintro e w' ⟨v, rfl, h1, h2⟩
    exact ⟨v, rfl, h2, pureD_rel hd h1⟩

/-- The world has grown. -/
theorem R.grown (h : R T N av0 w0 sp s a w E) {w' : World} (hb : Below w.heap.size w w') : R T N av0 w0 sp s a w' E := by
  have hk : Keeps (AV av0 s.rs E) w w' := Keeps.of_below hb
  have := h.upd (rs' := s.rs) (E' := E) (w' := w') (Env.le_refl E) hk ⟨hb.os.trans h.below.os, hb.tape.trans h.below.tape, hb.output.trans h.below.output, by have := hb.size; have := h.below.size; omega, fun k hk' => (hb.block k (by have := h.below.size; omega)).trans (h.below.block k hk')⟩ (fun _ _ q => q) h.len
    (fun r x e h1 h2 => RootRel.mono (Env.le_refl E) hk (fun _ _ q => q) (fun hl b hb' => by
      obtain ⟨e1, e2, e3⟩ := e
      have hb' : e1 = some b := hb'
      subst hb'
      exact hb.block b (h.blk r x b e3 h1 hl ⟨e2, h2⟩).2) (h.roots r x e h1 h2))
    (fun r x b sz h1 h2 h3 => by have := h.blk r x b sz h1 h2 h3; have := hb.size; omega) h.inj
  exact this

theorem calleeD_rel (h : R T N av0 w0 sp s a w E) {fd : D} {f : FuncId} {caps : List D} (e : calleeD fd = some (f, caps)) {fv : Value} (hf : DRel E (AV av0 s.rs E) w fd fv) :
    ∃ cs : Array Value, fv = .func (.func f) #[] cs ∧ All2 (DRel E (AV av0 s.rs E) w) caps cs.toList := by
  unfold calleeD at e
  split at e
  · rename_i f' caps'
    simp only [Option.some.injEq, Prod.mk.injEq] at e
    obtain ⟨rfl, rfl⟩ := e
    obtain ⟨vs, rfl, h1⟩ := hf
    refine ⟨vs, rfl, ?_⟩
    revert h1
    generalize vs.toList = ws
    intro h1
    induction h1 with
    | nil => exact .nil
    | cons q _ ih =>
      obtain ⟨b, sz, h2, h3⟩ := q
      exact .cons ⟨b, sz, h2, by simpa using h3⟩ ih
  · rename_i f' n cap
    simp only [Option.some.injEq, Prod.mk.injEq] at e
    obtain ⟨rfl, rfl⟩ := e
    obtain ⟨vs, rfl, h1, h2⟩ := hf
    refine ⟨vs, rfl, ?_⟩
    obtain ⟨g, hg⟩ := pick_cells h2
    have := cellsFrom_rel (E := E) (av := AV av0 s.rs E) (w := w) (get := cap) (f := g) (n := n) (o := 0) (fun j _ hj => (hg j (by omega)).2)
    have hvs : vs.toList = (List.range n).map fun j => g (0 + j) := by
      apply List.ext_getElem?
      intro j
      rcases Nat.lt_or_ge j n with hj | hj
      · have := (hg j hj).1
        simp [hj]
        simpa using this
      · rw [List.getElem?_eq_none (by simp [h1]; exact hj), List.getElem?_eq_none (by simp; exact hj)]
    rw [hvs]
    have conv : ∀ {l : List C} {ws : List Value}, All2 (CRel E (AV av0 s.rs E) w) l ws → All2 (DRel E (AV av0 s.rs E) w) (l.map .c) ws := by
      intro l ws hl
      induction hl with
      | nil => exact .nil
      | cons q _ ih => exact .cons q ih
    exact conv this
  · simp at e

theorem callK_sound (hc : CalOK T P cal) (h : R T N av0 w0 sp s a w E) {g : Cond} (hg : CondsHold a g) {f : FuncId} {ds : List D} {dst : Option Tmp} {K : VS → Prop} (e : callK cal N s g f ds dst K)
    {vs : List Value} (hv : All2 (DRel E (AV av0 s.rs E) w) ds vs) {next : Act → World → Prop} (hn : ∀ s' a' w' E', K s' → R T N av0 w0 sp s' a' w' E' → next a' w') :
    Enters P f ∧ Go.Calls P f vs.toArray w fun e w' => ∃ v, e = .returned v ∧ next (a.put dst v) w' := by
  have eff : callK.effK cal N s g f ds dst K → Enters P f ∧ Go.Calls P f vs.toArray w fun e w' => ∃ v, e = .returned v ∧ next (a.put dst v) w' := by
    intro e2
    clear e
    unfold callK.effK at e2
    split at e2
    · rename_i p d rs he
      obtain ⟨hp, e2⟩ := andK_out h hg e2
      obtain ⟨h1, h2⟩ := hc.eff f ds s.rs _ _ _ he
      refine ⟨h1, (h2 hp N av0 w0 sp s.sl s.df a w E vs h hv).mono ?_⟩
      rintro e' w' ⟨v, E', rfl, h3, h4⟩
      exact ⟨v, rfl, putK_sound e2 h3 (fun _ => h4) (fun q => (q (fun p hp => by cases hp)).elim) hn⟩
    · exact e2.elim
  unfold callK at e
  split at e
  · rename_i is hi
    split at e
    · rename_i p d hp
      split at e
      · rename_i hs
        split at e
        · rename_i hd
          obtain ⟨hok, e⟩ := andK_out h hg e
          refine ⟨(hc.pur f is p d hp).1, (pur_call hc h hi hp hok hs hd hv).mono ?_⟩
          rintro e' w' ⟨v, rfl, h2, h3⟩
          exact ⟨v, rfl, putK_sound e (h.grown h2) (fun _ => h3) (fun q => (q hg).elim) hn⟩
        · exact e.elim
      · exact e.elim
    · exact eff e
  · exact eff e

theorem run_callee {o : Oper} {c : Call} {f : Operand} (ho : o.op = .call c) (hc : c.callee = .value f) {fid : FuncId} {cs : Array Value} (hf : a.eval f = .func (.func fid) #[] cs) (he : Enters P fid) :
    (execOp a.eval o).run P w = .ok (.enter fid (c.args.map a.eval ++ cs)) w := by
  simp only [execOp, ho, resolve, hc, hf, Deferred.ofValue, Sem.run_bind, Sem.run_pure, Result.andThen_ok, invoke]
  rw [run_enter he]
  simp

theorem not_holds_nil : ¬ ¬ CondsHold a [] := fun q => q fun p hp => by cases hp

theorem set_sound (h : R T N av0 w0 sp s a w E) {r b sz : Nat} {hd : Value} {l : List Int} (hl : s.rs[r]? = some (.set l)) (hE : E[r]? = some (some b, hd, sz)) {t kt el : TypeId} (hyt : P.underlying t = some (.map kt el)) (hyk : P.underlying kt = some (.int .i64)) {n : Int} :
    ∃ w', (Instr.mapUpdate t (.map (some b)) (.int .i64 n) (.bool true)).run P w = .ok () w' ∧ R T N av0 w0 sp { s with rs := s.rs.set r (.set (addI n l)) } a w' E := by
  obtain ⟨b', es, clock, h1, h2, h3⟩ := h.roots r _ _ hl hE
  have h1 : some b = some b' := h1
  simp only [Option.some.injEq] at h1
  subst h1
  have hlt : b < w.heap.size := (Array.getElem?_eq_some_iff.1 h2).1
  have hu : (Go.underlying t).run P w = .ok (.map kt el) w := by simp [Go.underlying, Go.program, Sem.run, hyt]
  have huk : (Go.underlying kt).run P w = .ok (.int .i64) w := by simp [Go.underlying, Go.program, Sem.run, hyk]
  have hg' : (getObj b).run P w = .ok (.map es clock) w := by simp [getObj, Sem.run, h2]
  rcases findNow_set n h3 0 with ⟨q1, k', e', q2, q3, q4⟩ | ⟨q1, q2⟩
  · refine ⟨w.putObj b (.map (es.modify k' fun e => { e with key := .int .i64 n, val := .bool true }) clock), ?_, ?_⟩
    · unfold Instr.mapUpdate
      simp only [Sem.run_bind, hu, hg', Result.andThen_ok, checkKey_int hyk, Instr.findKey, huk, q2, Nat.zero_add, Sem.run_pure]
      have hk' : ((es[k']?).map (·.key)).getD (.int .i64 n) = .int .i64 n := by
        have : es[k']? = some e' := by simpa using q3
        simp [this, q4]
      simp only [hk', Instr.keyThatStays]
      simp [Instr.sameBits, MapKept.run_setObj_map _ h2]
      rfl
    · refine h.turn hl trivial hE (by simp) (fun k hk => World.putObj_heap_other hk) ⟨rfl, rfl, rfl⟩ ⟨b, _, clock, rfl, World.putObj_heap_same hlt, ?_⟩
      rw [addI, q1]
      simp only [Array.toList_modify]
      clear q2 h2 hg' hlt
      generalize es.toList = l2 at h3 q3
      clear q1 hl h hu huk
      induction h3 generalizing k' with
      | nil => simp at q3
      | cons p1 p2 ih =>
        cases k' with
        | zero => simp at q3; subst q3; refine .cons ⟨?_, rfl⟩ p2; rw [← q4]; exact p1.1
        | succ k' => exact .cons p1 (ih k' (by simpa using q3))
  · refine ⟨w.putObj b (.map (es.push { key := .int .i64 n, val := .bool true, born := clock }) (clock + 1)), ?_, ?_⟩
    · unfold Instr.mapUpdate
      simp only [Sem.run_bind, hu, hg', Result.andThen_ok, checkKey_int hyk, Instr.findKey, huk, q2, Sem.run_pure]
      rw [MapKept.run_setObj_map _ h2]
      rfl
    · refine h.turn hl trivial hE (by simp) (fun k hk => World.putObj_heap_other hk) ⟨rfl, rfl, rfl⟩ ⟨b, _, clock + 1, rfl, World.putObj_heap_same hlt, ?_⟩
      rw [addI, q1]
      simp only [Array.toList_push]
      exact h3.append (.cons ⟨rfl, rfl⟩ .nil)
theorem memK_sound (hty : TyOK P T) (hc : CalOK T P cal) {Y : Bool} (hY : Y = true ∨ cal.yld = fun _ _ _ => none) (h : R T N av0 w0 sp s a w E) {g : Cond} (hg : CondsHold a g) {o : Oper} {K : VS → Prop} (e : memK T cal N s g o.op o.dst K)
    {next : Act → World → Prop} (hn : ∀ s' a' w' E', K s' → R T N av0 w0 sp s' a' w' E' → next a' w') : Op1 P Y o a w next := by
  obtain ⟨dst, op, type, pos, after, guard⟩ := o
  simp only at e
  cases op
  case box t x =>
    simp only [memK] at e
    split at e
    case h_2 => exact e.elim
    rename_i d hx
    split at e
    case h_2 => exact e.elim
    rename_i l hl
    have hv := h.ev hg hx
    have hR := h.box (cells_rel hv hl) t
    refine .value (.pointer (some ⟨w.heap.size, 0, none⟩)) (w.alloc (.cells (a.eval x).cells t)) (fun _ => Op.noConfusion) rfl ?_
    refine putK_sound e hR (fun _ => ⟨w.heap.size, l.length, ?_, by simp⟩) (fun q => (not_holds_nil q).elim) hn
    rw [← h.len]
    exact atRoot_last E _ _ _
  case alloc t =>
    simp only [memK] at e
    split at e
    case h_2 => exact e.elim
    rename_i y hy
    have hy := hty.ty _ _ hy
    split at e
    case h_2 => exact e.elim
    rename_i l hl
    obtain ⟨i, hi, _, _, hz⟩ := hy.full
    have hR := h.box (cs := y.zero.cells) (oneV_rel hl) t
    refine .value (.pointer (some ⟨w.heap.size, 0, none⟩)) (w.alloc (.cells y.zero.cells t)) (fun _ => Op.noConfusion) ?_ ?_
    · have hz0 : (zeroValue t).run P w = .ok y.zero w := by simp [zeroValue, typeInfo, hi, hz]
      simp only [execOp, Instr.alloc, Sem.run_bind, hz0, Result.andThen_ok]
      rfl
    · refine putK_sound e hR (fun _ => ⟨w.heap.size, l.length, ?_, by simp⟩) (fun q => (not_holds_nil q).elim) hn
      rw [← h.len]
      exact atRoot_last E _ _ _
  case store t x v =>
    simp only [memK] at e
    split at e
    case h_2 => exact e.elim
    rename_i pd d hp hd
    obtain ⟨s', w', h1, h2, h3⟩ := store_sound hty h (h.ev hg hp) (h.ev hg hd) e
    refine .skip w' (fun _ => Op.noConfusion) ?_ (hn _ _ _ _ h3 h2)
    simp only [execOp]
    simp [h1]
  case buildSlice t n parts =>
    simp only [memK] at e
    split at e
    case h_2 => exact e.elim
    rename_i size0 bytes0 zero0 el hy0
    have hy0 := hty.ty _ _ hy0
    split at e
    case h_2 => exact e.elim
    rename_i y hy
    have hy := hty.ty _ _ hy
    split at e
    case h_2 => exact e.elim
    rename_i z hz
    split at e
    case h_2 => exact e.elim
    rename_i l hl
    split at e
    case h_2 => exact e.elim
    rename_i is his
    split at e
    case h_2 => exact e.elim
    rename_i hb
    simp only [Bool.and_eq_true] at hb
    have hpos := toNat_of_blt hb.1
    have hbig := of_ble hb.2
    have hzl : z.length = y.size := by
      have := (oneV_rel (E := E) (av := AV av0 s.rs E) (w := w) hz).length
      rw [this]
      simpa using hy.zs
    obtain ⟨cs, h1, h2, h3⟩ := run_buildSlice hty h hg hy0 rfl hy hz hl hzl hpos hbig
    have hm : n ≤ maxLen := by
      have : n ≤ n * y.size := Nat.le_mul_of_pos_right _ hpos
      simp only [maxLen]; omega
    have hown := World.ownsRow_lit (e := el) (size := y.size) (base := w0.heap.size) w cs n h.size_le hm (by rw [← h3, h2.length]; simp)
    have him := imm_eq his
    subst him
    have hi2 := lift_to h2
    have hR := h.row (dead := none) (row := none) (n := n) (get := flat y.size is) (World.grownBy_alloc w _ none) hown (fun k hk => by cases hk) (fun k hk => by simp [Value.ownBlock] at hk; right; omega) (by
      intro i hi j hj
      have hlt : i * y.size + j < is.length := by
        have := hi2.length
        have h4 := h2.length
        rw [h3] at h4
        have := Nat.mul_le_mul_right y.size (show i + 1 ≤ n by omega)
        rw [Nat.add_mul, Nat.one_mul] at this
        omega
      exact getL_rel hi2 hlt)
    refine .value (.slice (some ⟨w.heap.size, 0, none⟩) n n) (w.alloc (.cells cs el)) (fun _ => Op.noConfusion) ?_ ?_
    · exact run_value h1
    · refine putK_sound e hR (fun _ => ⟨_, _, n, n, by rw [← h.len]; exact List.getElem?_concat_length, rfl, Nat.le_refl _, rfl⟩) (fun q => (not_holds_nil q).elim) hn
  case call c =>
    simp only [memK] at e
    split at e
    · rename_i hcal
      split at e
      case h_2 => exact e.elim
      rename_i t t' d src hts hds
      split at e
      case h_2 => exact e.elim
      rename_i ht
      have ht := of_beq ht
      subst ht
      have hds := evs_rel h hg hds
      have hargs : ∃ v1 v2, c.args.map a.eval = #[v1, v2] ∧ DRel E (AV av0 s.rs E) w d v1 ∧ DRel E (AV av0 s.rs E) w src v2 := by
        have : c.args.map a.eval = (List.map a.eval c.args.toList).toArray := by rw [← Array.toList_map]
        rw [this]
        revert hds
        generalize List.map a.eval c.args.toList = ws
        intro hds
        cases hds with
        | cons q1 q2 => cases q2 with
          | cons q3 q4 => cases q4; exact ⟨_, _, rfl, q1, q3⟩
      obtain ⟨v1, v2, hargs, q1, q2⟩ := hargs
      obtain ⟨rs', E', w', v, d', h1, h2, h3, h4⟩ := append_sound hty h q1 q2 e type
      refine .value v w' (fun _ => Op.noConfusion) ?_ (putK_sound h4 h2 (fun _ => h3) (fun q => (not_holds_nil q).elim) hn)
      have hts' : c.argTypes = #[t, t] := by
        have : c.argTypes = c.argTypes.toList.toArray := rfl
        rw [this, hts]
      simp only [execOp, resolve, hcal, Sem.run_bind, Sem.run_pure, Result.andThen_ok, invoke, builtin, hargs, hts']
      simp [h1]
    · rename_i f hcal
      split at e
      · rename_i r ds hf hds
        unfold yldK at e
        split at e
        case h_2 => exact e.elim
        rename_i p d rs' hy
        have hds := evs_rel h hg hds
        obtain ⟨b, sz, hat, hf⟩ := h.ev hg hf
        obtain ⟨hp, e⟩ := andK_out h (g := []) (fun p hp => by cases hp) e
        rcases hY with hY | hY
        · obtain ⟨b', sz', fr, tm, as, bd, hat', h1, h2⟩ := hc.yld _ _ _ _ _ _ hy hp N av0 w0 sp s.sl s.df a w E _ h hds
          obtain ⟨q1, q2⟩ := hat
          obtain ⟨q3, q4⟩ := hat'
          rw [q2] at q4
          simp only [Option.some.injEq, Prod.mk.injEq] at q4
          obtain ⟨rfl, rfl, rfl⟩ := q4
          refine .round hY b fr tm as bd w (fun _ => Op.noConfusion) ?_ fun c cs => ?_
          · have hargs : (List.map a.eval c.args.toList).toArray = c.args.map a.eval := by apply Array.ext'; simp
            rw [hargs] at h1
            simp only [execOp, resolve, hcal, hf, Deferred.ofValue, Sem.run_bind, Sem.run_pure, Result.andThen_ok, invoke]
            simpa using h1
          · obtain ⟨v, w', ⟨E', h3, h4⟩, h5⟩ := h2 c cs
            exact ⟨v, w', putK_sound e h3 (fun _ => h4) (fun q => (q (fun p hp => by cases hp)).elim) hn, h5⟩
        · rw [hY] at hy; simp at hy
      · rename_i fd ds _ hf hds
        split at e
        case h_2 => exact e.elim
        rename_i fid caps hcl
        obtain ⟨cs, hfv, hcs⟩ := calleeD_rel h hcl (h.ev hg hf)
        have hds := evs_rel h hg hds
        have hall := hds.append hcs
        obtain ⟨he, hcall⟩ := callK_sound hc h hg e hall hn
        have hvs : (List.map a.eval c.args.toList ++ cs.toList).toArray = c.args.map a.eval ++ cs := by
          apply Array.ext'
          simp
        refine .enter fid (List.map a.eval c.args.toList ++ cs.toList).toArray w (fun _ => Op.noConfusion) ?_ hcall
        rw [hvs]
        exact run_callee rfl hcal hfv he
      · exact e.elim
    · exact e.elim
  case makeMap t r =>
    cases r with
    | some _ => exact (show False from e).elim
    | none =>
      simp only [memK] at e
      split at e
      case h_2 => exact e.elim
      have hR := h.new (x := .set []) (e := (some w.heap.size, undef, 0)) (w' := w.alloc (.map #[] 0)) (by simp) (fun b hb => Below.heap_alloc w _ b hb) (below_alloc w _) rfl ⟨w.heap.size, #[], 0, rfl, heap_alloc_new w _, .nil⟩
      refine .value (.map (some w.heap.size)) (w.alloc (.map #[] 0)) (fun _ => Op.noConfusion) rfl ?_
      refine putK_sound e hR (fun _ => ⟨w.heap.size, 0, ?_, rfl⟩) (fun q => (not_holds_nil q).elim) hn
      rw [← h.len]
      exact atRoot_last E _ _ _
  case mapUpdate t m k v =>
    simp only [memK] at e
    split at e
    case h_2 => exact e.elim
    split at e
    case h_2 => exact e.elim
    rename_i s1 b1 z1 kt el hyt
    have hyt := (hty.ty _ _ hyt).map rfl
    split at e
    case h_2 => exact e.elim
    rename_i s2 b2 z2 hyk
    have hyk := (hty.ty _ _ hyk).int rfl
    split at e
    case h_2 => exact e.elim
    rename_i r n hm hk hv
    obtain ⟨b, sz, ⟨hh, hE⟩, hm⟩ := h.ev hg hm
    have hk := (h.ev hg hk).1
    have hv := (h.ev hg hv).1
    split at e
    case h_2 => exact e.elim
    rename_i l hl
    rw [nth_eq] at hl
    obtain ⟨w', h1, h2⟩ := set_sound h hl hE hyt hyk
    rw [setAt_eq] at e
    refine .skip w' (fun _ => Op.noConfusion) ?_ (hn _ _ _ _ e h2)
    simp only [execOp, hm, hk, hv]
    simp [h1]
  all_goals exact (show False from e).elim
end
end Go.V
