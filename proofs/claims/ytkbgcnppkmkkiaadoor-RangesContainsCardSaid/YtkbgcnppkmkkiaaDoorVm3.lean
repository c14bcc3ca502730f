/- Operations that only compute: the machine does what V says. -/
import Derived.Test.YtkbgcnppkmkkiaaDoorVm2
import Derived.Deep.MidRow
set_option linter.unusedVariables false
namespace Go.V
open Go.RowKit

def offsOf (P : Program) : List Field → Option (List (Nat × Nat))
  | [] => some []
  | f :: r => match P.info? f.type, offsOf P r with
    | some i, some l => some ((f.offset, i.size) :: l)
    | _, _ => none
def kdOf (P : Program) (t : TypeId) : Option Kd := match P.underlying t with
  | some (.struct fs) => match offsOf P fs.toList with
    | some l => some (.struct l)
    | none => none
  | some (.slice e) => some (.slice e)
  | some (.array n e) => some (.array n e)
  | some .string => some .str
  | some .bool => some .bool
  | some (.int .i64) => some .int
  | some (.map k e) => some (.map k e)
  | some (.pointer e) => some (.ptr e)
  | some _ => some .other
  | none => none

structure TyFact (P : Program) (t : TypeId) (y : Ty) : Prop where
  kd : kdOf P t = some y.kd
  info : (P.info? t).map (fun i => (i.size, i.bytes, i.zero)) = some (y.size, y.bytes, some y.zero)
  zs : y.zero.cells.size = y.size

structure TyOK (P : Program) (T : Tab) : Prop where
  ty : ∀ t y, T.ty t = some y → TyFact P t y
  eqs : ∀ t ks, T.eqs t = some ks → ∀ (l m : List C) (b : Bool), eqK ks l m = some b → ∀ (E : Env) (av : Nat → Prop) (w : World) (cs ds : Array Value), All2 (CRel E av w) l cs.toList → All2 (CRel E av w) m ds.toList → ∀ (x y : Operand),
    (do eqGuard .eql t x y (.agg cs) (.agg ds); binOp .eql t (.agg cs) (.agg ds)).run P w = .ok (.bool b) w ∧
    (do eqGuard .neq t x y (.agg cs) (.agg ds); binOp .neq t (.agg cs) (.agg ds)).run P w = .ok (.bool (!b)) w

theorem TyFact.slice {P : Program} {t : TypeId} {y : Ty} (h : TyFact P t y) {e : Nat} (hk : y.kd = .slice e) : P.underlying t = some (.slice e) := by
  have := h.kd
  rw [hk] at this
  unfold kdOf at this
  split at this
  case h_1 => split at this <;> simp_all
  all_goals simp_all
theorem TyFact.strs {P : Program} {t : TypeId} {y : Ty} (h : TyFact P t y) (hk : y.kd = .str) : P.underlying t = some .string := by
  have := h.kd
  rw [hk] at this
  unfold kdOf at this
  split at this
  case h_1 => split at this <;> simp_all
  all_goals simp_all
theorem TyFact.struct {P : Program} {t : TypeId} {y : Ty} (h : TyFact P t y) {fs : List (Nat × Nat)} (hk : y.kd = .struct fs) : ∃ gs : Array Field, P.underlying t = some (.struct gs) ∧ offsOf P gs.toList = some fs := by
  have := h.kd
  rw [hk] at this
  unfold kdOf at this
  split at this
  case h_1 => split at this <;> simp_all
  all_goals simp_all
theorem TyFact.sz {P : Program} {t : TypeId} {y : Ty} (h : TyFact P t y) : (P.info? t).map (·.size) = some y.size := by
  have := h.info
  cases hq : P.info? t with
  | none => simp [hq] at this
  | some i => simp [hq] at this ⊢; exact this.1
theorem TyFact.full {P : Program} {t : TypeId} {y : Ty} (h : TyFact P t y) : ∃ i, P.info? t = some i ∧ i.size = y.size ∧ i.bytes = y.bytes ∧ i.zero = some y.zero := by
  have := h.info
  cases hq : P.info? t with
  | none => simp [hq] at this
  | some i => simp [hq] at this; exact ⟨i, rfl, this.1, this.2.1, this.2.2⟩
theorem TyFact.und {P : Program} {t : TypeId} {y : Ty} (h : TyFact P t y) : ∃ d, P.underlying t = some d ∧ TypeDesc.isRow d = y.kd.agg := by
  have := h.kd
  unfold kdOf at this
  split at this
  case h_1 => split at this <;> simp_all [Kd.agg, TypeDesc.isRow] <;> (try (rw [← this]))
  all_goals (simp_all [Kd.agg, TypeDesc.isRow] <;> (try (rw [← this])))

theorem run_sizeOf {P : Program} {t : TypeId} {n : Nat} (h : (P.info? t).map (·.size) = some n) (w : World) : (sizeOf t).run P w = .ok n w := by
  cases hq : P.info? t with
  | none => simp [hq] at h
  | some i => simp [hq] at h; simp [sizeOf, typeInfo, hq, h]
theorem run_isAgg {P : Program} {t : TypeId} {d : TypeDesc} (h : P.underlying t = some d) (w : World) : (isAgg t).run P w = .ok (TypeDesc.isRow d) w := by
  unfold isAgg
  rw [Sem.run_bind, run_underlying h w]
  cases d <;> simp [TypeDesc.isRow]

theorem toNat_of_blt {a b : Nat} (h : Nat.blt a b = true) : a < b := by simpa [Nat.blt_eq] using h
theorem of_ble {a b : Nat} (h : Nat.ble a b = true) : a ≤ b := Nat.le_of_ble_eq_true h
theorem of_beq {a b : Nat} (h : Nat.beq a b = true) : a = b := Nat.eq_of_beq_eq_true h

theorem add_add (ad : Addr) (hs : ad.spot = none) (i j : Nat) : (ad.add i).add j = ad.add (i + j) := by
  unfold Addr.add
  cases ad with
  | mk b o sp =>
    simp only at hs
    subst hs
    by_cases hi : i = 0 <;> by_cases hj : j = 0 <;> simp_all [Nat.add_assoc]
theorem add_spot (ad : Addr) (hs : ad.spot = none) (i : Nat) : (ad.add i).spot = none := by
  unfold Addr.add; split <;> simp_all

theorem getElem?_lit {b o : Nat} {w : World} {cs : Array Value} {T : TypeId} {f : Nat × Nat} (h : w.heap[b]? = some (.cells cs T f)) : w.cell? ⟨b, o, none⟩ = cs[o]? := by
  simp [World.cell?, h]

theorem cell_grown {w w' : World} (hb : Below w.heap.size w w') {ad : Addr} {v : Value} (h : w.cell? ad = some v) : w'.cell? ad = some v := (hb.cell (World.block_lt_of_cell? w ad h)).trans h

section
variable {P : Program} {T : Tab} {N : Nat} {av0 : Nat → Prop} {w0 : World} {sp : List (D × Value)} {s : VS} {a : Act} {w : World} {E : Env}

/-- loading the cells behind an address -/
theorem run_load_cells {t : TypeId} {y : Ty} (hy : TyFact P t y) {ad : Addr} {cs : List Value} (hl : cs.length = y.size) (ha : y.kd.agg = true) (h : ∀ j v, cs[j]? = some v → w.cell? (ad.add j) = some v) :
    ∀ w', Below w.heap.size w w' → (Instr.loadAt t (.pointer (some ad))).run P w' = .ok (.agg cs.toArray) w' := by
  intro w' hb
  obtain ⟨d, hd, hr⟩ := hy.und
  have h1 := run_loadCells_list (P := P) w' ad cs (fun j v hv => cell_grown hb (h j v hv))
  rw [hl] at h1
  simp [Instr.loadAt, Instr.sureAddr, loadVar, run_isAgg hd, hr, ha, run_sizeOf hy.sz, h1]
theorem run_load_one {t : TypeId} {y : Ty} (hy : TyFact P t y) {ad : Addr} {v : Value} (ha : y.kd.agg = false) (h : w.cell? ad = some v) :
    ∀ w', Below w.heap.size w w' → (Instr.loadAt t (.pointer (some ad))).run P w' = .ok v w' := by
  intro w' hb
  obtain ⟨d, hd, hr⟩ := hy.und
  simp [Instr.loadAt, Instr.sureAddr, loadVar, run_isAgg hd, hr, ha, cell_grown hb h]

theorem cellsFrom_rel {E : Env} {av : Nat → Prop} {w : World} {get : Nat → I} {f : Nat → Value} : ∀ {n o : Nat}, (∀ j, o ≤ j → j < o + n → IRel av w (get j) (f j)) →
    All2 (CRel E av w) (cellsFrom get o n) ((List.range n).map fun j => f (o + j))
  | 0, o, _ => .nil
  | n + 1, o, h => by
    rw [List.range_succ_eq_map, List.map_cons, List.map_map]
    refine .cons (h o (Nat.le_refl _) (by omega)) ?_
    have := cellsFrom_rel (E := E) (n := n) (o := o + 1) (f := f) (fun j h1 h2 => h j (by omega) (by omega))
    have he : ((fun j => f (o + j)) ∘ Nat.succ) = fun j => f (o + 1 + j) := by funext j; simp [Nat.succ_eq_add_one]; congr 1; omega
    rw [he]
    exact this

/-- many cells at once -/
theorem pick_cells {Q : Nat → Value → Prop} {n : Nat} (h : ∀ j, j < n → ∃ x, Q j x) : ∃ f : Nat → Value, ∀ j, j < n → Q j (f j) :=
  ⟨fun j => if hj : j < n then (h j hj).choose else undef, fun j hj => by simp only [dif_pos hj]; exact (h j hj).choose_spec⟩

theorem load_sound (hty : TyOK P T) (h : R T N av0 w0 sp s a w E) {g : Cond} (hg : CondsHold a g) {t : TypeId} {x : Operand} {p : Option Prop} {d : D} (e : pureOp T s g (.load t x) = some (p, d)) (hp : need p) :
    ∃ v, (∀ w', Below w.heap.size w w' → (Instr.loadAt t (a.eval x)).run P w' = .ok v w') ∧ DRel E (AV av0 s.rs E) w d v := by
  simp only [pureOp] at e
  split at e
  case h_2 => simp at e
  rename_i y hy
  have hy := hty.ty _ _ hy
  split at e
  case h_4 => simp at e
  · -- a root
    rename_i r i j hx
    obtain ⟨b, sz, hr, hv⟩ := h.ev hg hx
    rw [hv]
    split at e
    · -- a box
      rename_i l hl
      rw [nth_eq] at hl
      obtain ⟨hh, hE⟩ := hr
      obtain ⟨b', cs, T, q1, q2, q3, q4⟩ := h.roots r _ _ hl hE
      simp only [Option.some.injEq] at q1
      subst q1
      split at e
      case h_2 => simp at e
      simp only [Nat.zero_mul, Nat.zero_add]
      split at e
      · rename_i hagg
        split at e
        case h_2 => simp at e
        rename_i ks hks
        simp only [Option.some.injEq, Prod.mk.injEq] at e
        obtain ⟨rfl, rfl⟩ := e
        obtain ⟨rfl, hlen⟩ := takeN_eq _ _ _ hks
        rw [dropN_eq] at hlen ⊢
        have ha := (q4.drop j).take y.size
        refine ⟨.agg ((cs.toList.drop j).take y.size).toArray, run_load_cells hy ?_ hagg ?_, _, rfl, by simpa using ha⟩
        · have := ha.length
          rw [List.length_take, Nat.min_eq_left hlen] at this
          exact this.symm
        · intro k v hk
          rw [Addr.add_mid, getElem?_lit q3]
          rw [List.getElem?_take] at hk
          split at hk
          · simpa using hk
          · simp at hk
      · rename_i hagg
        split at e
        case h_2 => simp at e
        rename_i c hc
        simp only [Option.some.injEq, Prod.mk.injEq] at e
        obtain ⟨rfl, rfl⟩ := e
        obtain ⟨v, hv1, hv2⟩ := q4.nth hc
        exact ⟨v, run_load_one hy hagg (by rw [getElem?_lit q3]; simpa using hv1), hv2⟩
    · -- an array
      rename_i el asz n get hl
      rw [nth_eq] at hl
      obtain ⟨hh, hE⟩ := hr
      obtain ⟨q1, q2, xs, q3, q4⟩ := h.roots r _ _ hl hE
      have q1 : sz = asz := q1
      have q2 : some b = hh.ownBlock := q2
      subst q1
      have cellAt : ∀ k, k < n * sz → w.cell? ⟨b, k, none⟩ = xs[k]? := by
        intro k hk
        obtain ⟨q5, q6⟩ := q3
        rcases q6 with ⟨q6, _⟩ | ⟨g', cap, cur, q6, _, q7, q8, _, q9, q10⟩
        · have q6 : hh = _ := q6
          rw [q6] at q2
          simp [Value.ownBlock] at q2
        · have q6 : hh = _ := q6
          rw [q6] at q2
          simp only [Value.ownBlock, Option.some.injEq] at q2
          subst q2
          rw [getElem?_lit q7, ← q10, List.getElem?_take, if_pos hk]
          simp
      have bnd : ∀ {j k : Nat}, i < n → j + k ≤ sz → i * sz + (j + k) ≤ n * sz := by
        intro j k hi hjk
        have := Nat.mul_le_mul_right sz (show i + 1 ≤ n by omega)
        rw [Nat.add_mul, Nat.one_mul] at this
        omega
      split at e
      · rename_i hagg
        split at e
        case h_2 => simp at e
        rename_i hle
        have hle := of_ble hle
        simp only [Option.some.injEq, Prod.mk.injEq] at e
        obtain ⟨rfl, rfl⟩ := e
        obtain ⟨f, hf⟩ := pick_cells (Q := fun k x => xs[i * sz + k]? = some x ∧ IRel (AV av0 s.rs E) w (get i k) x) (fun k hk => q4 i hp k hk)
        refine ⟨.agg ((List.range y.size).map fun k => f (j + k)).toArray, run_load_cells hy (by simp) hagg ?_, _, rfl, ?_⟩
        · intro k v hk
          rw [Addr.add_mid]
          have hk' : k < y.size := by
            have := (List.getElem?_eq_some_iff.1 hk).1
            simpa using this
          have hv : v = f (j + k) := by simpa [hk'] using hk.symm
          have b1 := bnd (j := j) (k := k + 1) hp (by omega)
          rw [cellAt _ (by omega), hv]
          have := (hf (j + k) (by omega)).1
          rwa [show i * sz + (j + k) = i * sz + j + k by omega] at this
        · have := cellsFrom_rel (E := E) (av := AV av0 s.rs E) (w := w) (get := get i) (f := f) (n := y.size) (o := j) (fun k h1 h2 => (hf k (by omega)).2)
          simpa using this
      · rename_i hagg
        split at e
        case h_2 => simp at e
        rename_i hlt
        have hlt := toNat_of_blt hlt
        simp only [Option.some.injEq, Prod.mk.injEq] at e
        obtain ⟨rfl, rfl⟩ := e
        obtain ⟨v, h1, h2⟩ := q4 i hp j hlt
        have b1 := bnd (j := j) (k := 1) hp (by omega)
        exact ⟨v, run_load_one hy hagg (by rw [cellAt _ (by omega)]; exact h1), h2⟩
    · -- a row
      rename_i el asz n l hl
      rw [nth_eq] at hl
      obtain ⟨hh, hE⟩ := hr
      obtain ⟨q1, q2, xs, q3, q4⟩ := h.roots r _ _ hl hE
      have q1 : sz = asz := q1
      have q2 : some b = hh.ownBlock := q2
      subst q1
      have cellAt : ∀ k v, xs[k]? = some v → w.cell? ⟨b, k, none⟩ = some v := by
        intro k v hkv
        have hk : k < n * sz := by rw [← q3.1]; exact (List.getElem?_eq_some_iff.1 hkv).1
        obtain ⟨q5, q6⟩ := q3
        rcases q6 with ⟨q6, _⟩ | ⟨g', cap, cur, q6, _, q7, q8, _, q9, q10⟩
        · have q6 : hh = _ := q6
          rw [q6] at q2
          simp [Value.ownBlock] at q2
        · have q6 : hh = _ := q6
          rw [q6] at q2
          simp only [Value.ownBlock, Option.some.injEq] at q2
          subst q2
          rw [← q10, List.getElem?_take, if_pos hk] at hkv
          rw [getElem?_lit q7]
          simpa using hkv
      split at e
      · rename_i hagg
        split at e
        case h_2 => simp at e
        rename_i ks hks
        simp only [Option.some.injEq, Prod.mk.injEq] at e
        obtain ⟨rfl, rfl⟩ := e
        obtain ⟨rfl, hlen⟩ := takeN_eq _ _ _ hks
        rw [dropN_eq] at hlen ⊢
        have ha := (q4.drop (i * sz + j)).take y.size
        refine ⟨.agg ((xs.drop (i * sz + j)).take y.size).toArray, run_load_cells hy ?_ hagg ?_, _, rfl, by simpa using ha⟩
        · have := ha.length
          rw [List.length_take, Nat.min_eq_left hlen] at this
          exact this.symm
        · intro k v hk
          rw [Addr.add_mid]
          rw [List.getElem?_take] at hk
          split at hk
          · exact cellAt _ _ (by simpa using hk)
          · simp at hk
      · rename_i hagg
        split at e
        case h_2 => simp at e
        rename_i c hc
        simp only [Option.some.injEq, Prod.mk.injEq] at e
        obtain ⟨rfl, rfl⟩ := e
        obtain ⟨v, hv1, hv2⟩ := q4.nth hc
        exact ⟨v, run_load_one hy hagg (cellAt _ _ hv1), hv2⟩
    · simp at e
  · -- a pointer to what stays
    rename_i n get hx
    obtain ⟨ad, hv, hs, _, _, hc⟩ := h.ev hg hx
    rw [hv]
    split at e
    · rename_i hagg
      split at e
      case h_2 => simp at e
      rename_i hle
      have hle := of_ble hle
      simp only [Option.some.injEq, Prod.mk.injEq] at e
      obtain ⟨rfl, rfl⟩ := e
      obtain ⟨f, hf⟩ := pick_cells hc
      refine ⟨.agg ((List.range y.size).map fun k => f (0 + k)).toArray, run_load_cells hy (by simp) hagg ?_, _, rfl, ?_⟩
      · intro k v hk
        have hk' : k < y.size := by
          have := (List.getElem?_eq_some_iff.1 hk).1
          simpa using this
        have hv : v = f k := by simpa [hk'] using hk.symm
        rw [hv]
        exact (hf k (by omega)).1
      · have := cellsFrom_rel (E := E) (av := AV av0 s.rs E) (w := w) (get := get) (f := f) (n := y.size) (o := 0) (fun k h1 h2 => (hf k (by omega)).2)
        simpa using this
    · rename_i hagg
      split at e
      case h_2 => simp at e
      rename_i hlt
      have hlt := toNat_of_blt hlt
      simp only [Option.some.injEq, Prod.mk.injEq] at e
      obtain ⟨rfl, rfl⟩ := e
      obtain ⟨v, h1, h2⟩ := hc 0 hlt
      exact ⟨v, run_load_one hy hagg (by simpa [Addr.add] using h1), h2⟩
  · -- a package's variable
    rename_i q hx
    have hv : a.eval x = .pointer (some ⟨q, 0, none⟩) := h.ev hg hx
    rw [hv]
    split at e
    case h_2 => simp at e
    rename_i z hz
    split at e
    · simp at e
    · rename_i hagg
      simp only [Option.some.injEq, Prod.mk.injEq] at e
      obtain ⟨rfl, rfl⟩ := e
      obtain ⟨ad, h1, h2, h3, h4, h5⟩ := h.glob q z hz
      simp only [Value.pointer.injEq, Option.some.injEq] at h1
      subst h1
      obtain ⟨v, h6, h7⟩ := h5 0 (by omega)
      exact ⟨v, run_load_one hy hagg (by simpa [Addr.add] using h6), h7⟩

theorem run_value {x : Sem Value} {v : Value} {w' : World} (h : x.run P w = .ok v w') : (do pure (Next.value (← x)) : Sem Next).run P w = .ok (.value v) w' := by
  simp [h]

theorem binV_run {op : BinOp} {x y z : Value} (e : binV op x y = some z) (t : TypeId) (p q : Operand) : (do eqGuard op t p q x y; binOp op t x y).run P w = .ok z w := by
  unfold binV at e
  split at e
  · split at e
    all_goals first
      | (simp at e; done)
      | (simp only [Option.some.injEq] at e; subst e; simp [eqGuard, binOp, Op.intArith, Op.intCmp]; done)
      | (simp only [Option.some.injEq] at e; subst e; simp only [eqGuard, Sem.run_bind]; rfl)
  · split at e <;> simp at e <;> subst e <;> simp [eqGuard, binOp, Op.intCmp]
  · split at e <;> simp at e <;> subst e <;> simp [eqGuard, binOp, Op.stringOp]
  · simp at e
theorem divV_run {op : BinOp} {x y z : Value} {c : Prop} (e : divV op x y = some (c, z)) (hc : c) (t : TypeId) (p q : Operand) : (do eqGuard op t p q x y; binOp op t x y).run P w = .ok z w := by
  unfold divV at e
  split at e
  · split at e
    · simp only [Option.some.injEq, Prod.mk.injEq] at e
      obtain ⟨rfl, rfl⟩ := e
      simp [eqGuard, binOp, Op.intDiv, hc]
    · simp only [Option.some.injEq, Prod.mk.injEq] at e
      obtain ⟨rfl, rfl⟩ := e
      simp [eqGuard, binOp, Op.intDiv, hc]
    · simp only [Option.some.injEq, Prod.mk.injEq] at e
      obtain ⟨rfl, rfl⟩ := e
      simp [eqGuard, binOp, Op.shift, show ¬ _ < (0 : Int) from Int.not_lt.2 hc, IntKind.bits]
    · simp only [Option.some.injEq, Prod.mk.injEq] at e
      obtain ⟨rfl, rfl⟩ := e
      simp [eqGuard, binOp, Op.shift, show ¬ _ < (0 : Int) from Int.not_lt.2 hc, IntKind.bits]
    · simp at e
  · simp at e
theorem binV_one {op : BinOp} {x y z : Value} (e : binV op x y = some z) : z.oneCell' = true := by
  unfold binV at e
  split at e
  · split at e <;> simp at e <;> subst e <;> rfl
  · split at e <;> simp at e <;> subst e <;> rfl
  · split at e <;> simp at e <;> subst e <;> rfl
  · simp at e
theorem divV_one {op : BinOp} {x y z : Value} {c : Prop} (e : divV op x y = some (c, z)) : z.oneCell' = true := by
  unfold divV at e
  split at e
  · split at e
    · simp only [Option.some.injEq, Prod.mk.injEq] at e
      obtain ⟨rfl, rfl⟩ := e
      rfl
    · simp only [Option.some.injEq, Prod.mk.injEq] at e
      obtain ⟨rfl, rfl⟩ := e
      rfl
    · simp only [Option.some.injEq, Prod.mk.injEq] at e
      obtain ⟨rfl, rfl⟩ := e
      rfl
    · simp only [Option.some.injEq, Prod.mk.injEq] at e
      obtain ⟨rfl, rfl⟩ := e
      rfl
    · simp at e
  · simp at e
theorem boolEq_run {t : TypeId} {y : Ty} (hy : TyFact P t y) (hk : y.kd = .bool) (b c : Bool) (p q : Operand) :
    (do eqGuard .eql t p q (.bool b) (.bool c); binOp .eql t (.bool b) (.bool c)).run P w = .ok (.bool (b == c)) w ∧
    (do eqGuard .neq t p q (.bool b) (.bool c); binOp .neq t (.bool b) (.bool c)).run P w = .ok (.bool (!(b == c))) w := by
  have hu : P.underlying t = some .bool := by
    have := hy.kd
    rw [hk] at this
    unfold kdOf at this
    split at this
    case h_1 => split at this <;> simp_all
    all_goals simp_all
  have he : ∀ d, (Op.equalIn (d + 1) t (.bool b) (.bool c)).run P w = .ok (b == c) w := fun d => by
    unfold Op.equalIn
    simp [run_underlying hu]
  have h0 : (Op.equal t (.bool b) (.bool c)).run P w = .ok (b == c) w := he 9999
  constructor
  · show ((do eqGuard .eql t p q (.bool b) (.bool c); (do pure (.bool (← Op.equal t (.bool b) (.bool c)))) : Sem Value)).run P w = _
    rw [Sem.run_bind]
    simp only [eqGuard, Bool.not_true]
    simp [h0]
  · show ((do eqGuard .neq t p q (.bool b) (.bool c); (do pure (.bool (!(← Op.equal t (.bool b) (.bool c))))) : Sem Value)).run P w = _
    rw [Sem.run_bind]
    simp only [eqGuard]
    simp [h0]

theorem Dv_rel {av : Nat → Prop} {x : Value} (h : x.oneCell' = true) : DRel E av w (.v x) x := ⟨rfl, h⟩

theorem put_some {l : List C} : ∀ {ys : List C} {o : Nat} {r : List C}, put l o ys = some r → o + ys.length ≤ l.length + 0 ∨ ys = [] := by
  intro ys
  induction ys generalizing l with
  | nil => intro o r h; exact .inr rfl
  | cons y ys ih =>
    intro o r h
    simp only [put] at h
    split at h
    · rename_i z hz
      rw [nth_eq] at hz
      have ho := (List.getElem?_eq_some_iff.1 hz).1
      rcases ih h with h1 | h1
      · left
        rw [setAt_eq, List.length_set] at h1
        simp; omega
      · left; subst h1; simp; omega
    · simp at h
theorem put_rel {av : Nat → Prop} {Ro : C → Value → Prop} : ∀ {ys : List C} {l : List C} {o : Nat} {r : List C} {vs cs : List Value}, put l o ys = some r → All2 Ro l cs → All2 Ro ys vs →
    All2 Ro r ((vs.zipIdx).foldl (fun (c : List Value) (x : Value × Nat) => c.set (o + x.2) x.1) cs)
  | [], l, o, r, vs, cs, h, h1, h2 => by
    cases h2
    simp only [put, Option.some.injEq] at h
    subst h
    simpa using h1
  | y :: ys, l, o, r, vs, cs, h, h1, h2 => by
    cases h2 with
    | cons a b =>
      rename_i v m
      simp only [put] at h
      split at h
      · have := put_rel (av := av) h (by rw [setAt_eq]; exact h1.set o a) b
        rw [List.zipIdx_cons, List.foldl_cons]
        simp only [Nat.add_zero]
        rw [List.zipIdx_eq_map_add]
        rw [List.foldl_map]
        simpa [Nat.add_assoc, Nat.add_comm 1] using this
      · simp at h

theorem foldl_set (off : Nat) : ∀ (vs : List Value) (k : Nat) (cs : Array Value),
    ((vs.zipIdx k).foldl (fun (cs : Array Value) (x : Value × Nat) => cs.setIfInBounds (off + x.2) x.1) cs).toList = (vs.zipIdx k).foldl (fun (c : List Value) (x : Value × Nat) => c.set (off + x.2) x.1) cs.toList
  | [], _, _ => rfl
  | v :: vs, k, cs => by
    simp only [List.zipIdx_cons, List.foldl_cons]
    rw [foldl_set off vs (k + 1)]
    simp

theorem cells_rel {av : Nat → Prop} {d : D} {v : Value} (h : DRel E av w d v) {cs : List C} (hc : d.cells = some cs) : All2 (CRel E av w) cs v.cells.toList := by
  cases d with
  | c x =>
    simp only [D.cells, Option.some.injEq] at hc
    subst hc
    have h1 := CRel.one h
    have : v.cells = #[v] := by cases v <;> simp_all [Value.cells, Value.oneCell']
    rw [this]
    exact .cons h .nil
  | a l =>
    simp only [D.cells, Option.some.injEq] at hc
    subst hc
    obtain ⟨cs, rfl, h2⟩ := h
    exact h2
  | t l => simp [D.cells] at hc

theorem fill_rel (h : R T N av0 w0 sp s a w E) {g : Cond} (hg : CondsHold a g) {flds : List (Nat × Nat)} {place : Nat → Option (Nat × Nat)} (hpl : ∀ i x, flds[i]? = some x → place i = some x) :
    ∀ {parts : List (Nat × Operand)} {l r : List C} {cs : Array Value}, fillD flds s g parts l = some r → All2 (CRel E (AV av0 s.rs E) w) l cs.toList →
    ∃ cs', Instr.fill place cs (parts.map fun x => (x.1, a.eval x.2)) = some cs' ∧ All2 (CRel E (AV av0 s.rs E) w) r cs'.toList
  | [], l, r, cs, e, hl => by
    simp only [fillD, Option.some.injEq] at e
    subst e
    exact ⟨cs, rfl, hl⟩
  | (k, x) :: parts, l, r, cs, e, hl => by
    simp only [fillD] at e
    split at e
    case h_2 => simp at e
    rename_i o sz d hk hx
    rw [nth_eq] at hk
    split at e
    case h_2 => simp at e
    rename_i ks hks
    split at e
    case h_2 => simp at e
    rename_i hsz
    simp only [Bool.and_eq_true] at hsz
    obtain ⟨hsz, hpos⟩ := hsz
    have hsz := of_beq hsz
    have hpos := toNat_of_blt hpos
    split at e
    case h_2 => simp at e
    rename_i l' hl'
    have hv := cells_rel (h.ev hg hx) hks
    have hlen := hv.length
    have hfit := put_some hl'
    have hcl := hl.length
    have hp := put_rel (av := AV av0 s.rs E) hl' hl hv
    obtain ⟨cs', h1, h2⟩ := fill_rel h hg hpl (cs := ((a.eval x).cells.zipIdx.foldl (fun cs (y : Value × Nat) => cs.setIfInBounds (o + y.2) y.1) cs)) e (by
      have := foldl_set o (a.eval x).cells.toList 0 cs
      rw [← Array.foldl_toList, Array.toList_zipIdx, this]
      exact hp)
    refine ⟨cs', ?_, h2⟩
    simp only [List.map_cons, Instr.fill, hpl _ _ hk]
    have h3 : (a.eval x).cells.size = sz := by rw [← hsz, hlen]; simp
    have h4 : ¬ (o + sz > cs.size) := by
      rw [hsz] at hfit
      have : cs.size = l.length := by rw [hcl]; simp
      rcases hfit with hfit | hfit
      · omega
      · subst hfit
        simp at hsz
        omega
    rw [if_neg (by simp [h3]; omega)]
    exact h1
end
end Go.V
