/- What a state of V says of the machine's frame and memory. -/
import Derived.Test.YtkbgcnppkmkkiaaDoorVm1
set_option linter.unusedVariables false
namespace Go.V
open Go.RowKit

inductive All2 {α β : Type} (R : α → β → Prop) : List α → List β → Prop
  | nil : All2 R [] []
  | cons {x y l m} : R x y → All2 R l m → All2 R (x :: l) (y :: m)

theorem All2.mono {α β : Type} {R S : α → β → Prop} (h : ∀ x y, R x y → S x y) {l : List α} {m : List β} (k : All2 R l m) : All2 S l m := by
  induction k with
  | nil => exact .nil
  | cons a _ ih => exact .cons (h _ _ a) ih
theorem All2.length {α β : Type} {R : α → β → Prop} {l : List α} {m : List β} (k : All2 R l m) : l.length = m.length := by
  induction k with
  | nil => rfl
  | cons _ _ ih => simp [ih]
theorem All2.nth {α β : Type} {R : α → β → Prop} {l : List α} {m : List β} (k : All2 R l m) : ∀ {i x}, V.nth l i = some x → ∃ y, m[i]? = some y ∧ R x y := by
  induction k with
  | nil => intro i x h; simp [V.nth] at h
  | cons a b ih =>
    intro i x h
    cases i with
    | zero => simp only [V.nth, Option.some.injEq] at h; subst h; exact ⟨_, rfl, a⟩
    | succ i => simp only [V.nth] at h; obtain ⟨y, h1, h2⟩ := ih h; exact ⟨y, by simpa using h1, h2⟩
theorem nth_eq {α : Type} : ∀ (l : List α) (i : Nat), nth l i = l[i]?
  | [], _ => rfl
  | _ :: _, 0 => rfl
  | _ :: l, i + 1 => by simp only [nth]; rw [nth_eq l i]; simp
theorem setAt_eq {α : Type} : ∀ (l : List α) (i : Nat) (x : α), setAt l i x = l.set i x
  | [], _, _ => rfl
  | _ :: _, 0, _ => rfl
  | _ :: l, i + 1, x => by simp only [setAt]; rw [setAt_eq l i]; simp
theorem All2.set {α β : Type} {R : α → β → Prop} {l : List α} {m : List β} (k : All2 R l m) : ∀ (i : Nat) {x : α} {y : β}, R x y → All2 R (l.set i x) (m.set i y) := by
  induction k with
  | nil => intro i x y _; exact .nil
  | cons a b ih =>
    intro i x y h
    cases i with
    | zero => exact .cons h b
    | succ i => exact .cons a (ih i h)
theorem All2.append {α β : Type} {R : α → β → Prop} {l l' : List α} {m m' : List β} (k : All2 R l m) (k' : All2 R l' m') : All2 R (l ++ l') (m ++ m') := by
  induction k with
  | nil => exact k'
  | cons a _ ih => exact .cons a ih
theorem takeN_eq : ∀ (n : Nat) (l r : List C), takeN n l = some r → r = l.take n ∧ n ≤ l.length
  | 0, l, r, h => by simp [takeN] at h; simp [h]
  | n + 1, [], r, h => by simp [takeN] at h
  | n + 1, x :: l, r, h => by
    simp only [takeN] at h
    split at h
    · rename_i q hq
      obtain ⟨h1, h2⟩ := takeN_eq n l q hq
      simp only [Option.some.injEq] at h
      subst h
      simp [h1]; omega
    · simp at h
theorem dropN_eq : ∀ (n : Nat) (l : List C), dropN n l = l.drop n
  | 0, _ => rfl
  | _ + 1, [] => rfl
  | n + 1, _ :: l => by simp only [dropN]; rw [dropN_eq n l]; rfl
theorem All2.drop {α β : Type} {R : α → β → Prop} {l : List α} {m : List β} (k : All2 R l m) : ∀ n, All2 R (l.drop n) (m.drop n) := by
  induction k with
  | nil => intro n; simp; exact .nil
  | cons a b ih =>
    intro n
    cases n with
    | zero => exact .cons a b
    | succ n => simpa using ih n
theorem All2.take {α β : Type} {R : α → β → Prop} {l : List α} {m : List β} (k : All2 R l m) : ∀ n, All2 R (l.take n) (m.take n) := by
  induction k with
  | nil => intro n; simp; exact .nil
  | cons a b ih =>
    intro n
    cases n with
    | zero => simp; exact .nil
    | succ n => simpa using .cons a (ih n)

/-- av: the blocks that may still turn. -/
def IRel (av : Nat → Prop) (w : World) : I → Value → Prop
  | .v x, v => v = x ∧ x.oneCell' = true
  | .sl sz n get, v => ∃ a cap, v = .slice a n cap ∧ n ≤ cap ∧ n ≤ maxLen ∧ (0 < n → ∃ ad : Addr, a = some ad ∧ ad.spot = none ∧ ¬ av ad.block ∧ ad.block < w.heap.size ∧
      ∀ i, i < n → ∀ j, j < sz → ∃ x, w.cell? (ad.add (i * sz + j)) = some x ∧ IRel av w (get i j) x)
  | .pt sz get, v => ∃ ad : Addr, v = .pointer (some ad) ∧ ad.spot = none ∧ ¬ av ad.block ∧ ad.block < w.heap.size ∧ ∀ j, j < sz → ∃ x, w.cell? (ad.add j) = some x ∧ IRel av w (get j) x
  | .fn f n cap, v => ∃ vs : Array Value, v = .func (.func f) #[] vs ∧ vs.size = n ∧ ∀ j, j < n → ∃ x, vs[j]? = some x ∧ IRel av w (cap j) x
  | .st l, v => ∃ b es clock, v = .map (some b) ∧ ¬ av b ∧ w.heap[b]? = some (.map es clock) ∧ All2 (fun n (x : MapEntry) => x.key = .int .i64 n ∧ x.val = .bool true) l es.toList
  | .gp g, v => v = .pointer (some ⟨g, 0, none⟩)
  | .fm l, v => ∃ b es clock, v = .map (some b) ∧ ¬ av b ∧ w.heap[b]? = some (.map es clock) ∧ ∀ n : Int, Instr.findNow (.int .i64) (.int .i64 n) es.toList 0 = some none ∧ findI n l = none ∨ ∃ k f, Instr.findNow (.int .i64) (.int .i64 n) es.toList 0 = some (some (k, .func (.func f) #[] #[])) ∧ findI n l = some f
  | .tx s, v => v = .string s ∧ s.size ≤ maxLen

theorem IRel.one {av : Nat → Prop} {w : World} {x : I} {v : Value} (h : IRel av w x v) : v.oneCell' = true := by
  cases x with
  | v x => obtain ⟨rfl, h⟩ := h; exact h
  | sl sz n get => obtain ⟨a, cap, rfl, _⟩ := h; rfl
  | pt sz get => obtain ⟨ad, rfl, _⟩ := h; rfl
  | fn f n cap => obtain ⟨vs, rfl, _⟩ := h; rfl
  | st l => obtain ⟨b, es, clock, rfl, _⟩ := h; rfl
  | gp g => obtain rfl := h; rfl
  | fm l => obtain ⟨b, es, clock, rfl, _⟩ := h; rfl
  | tx s => obtain ⟨rfl, _⟩ := h; rfl

theorem block_add (a : Addr) (n : Nat) : (a.add n).block = a.block := by unfold Addr.add; split <;> rfl
theorem cell_same {w w' : World} {a : Addr} (h : w'.heap[a.block]? = w.heap[a.block]?) : w'.cell? a = w.cell? a := World.cell?_of_block (w := w) h

/-- Memory that is not to turn has not turned. -/
structure Keeps (av : Nat → Prop) (w w' : World) : Prop where
  size : w.heap.size ≤ w'.heap.size
  same : ∀ b, b < w.heap.size → ¬ av b → w'.heap[b]? = w.heap[b]?
theorem Keeps.refl (av : Nat → Prop) (w : World) : Keeps av w w := ⟨Nat.le_refl _, fun _ _ _ => rfl⟩
theorem Keeps.of_below {av : Nat → Prop} {w w' : World} (h : Below w.heap.size w w') : Keeps av w w' := ⟨h.size, fun b hb _ => h.block b hb⟩

theorem IRel.mono {av av' : Nat → Prop} {w w' : World} (hk : Keeps av w w') (ha : ∀ b, b < w.heap.size → av' b → av b) : ∀ {x : I} {v : Value}, IRel av w x v → IRel av' w' x v := by
  intro x
  induction x with
  | v x => intro v h; exact h
  | sl sz n get ih =>
    rintro v ⟨a, cap, rfl, hn, hm, h⟩
    refine ⟨a, cap, rfl, hn, hm, fun h0 => ?_⟩
    obtain ⟨ad, h1, h2, h3, h4, h5⟩ := h h0
    refine ⟨ad, h1, h2, fun q => h3 (ha _ h4 q), Nat.lt_of_lt_of_le h4 hk.size, fun i hi j hj => ?_⟩
    obtain ⟨x, q1, q2⟩ := h5 i hi j hj
    exact ⟨x, by rw [cell_same (w := w) (by rw [block_add]; exact hk.same _ h4 h3)]; exact q1, ih i j q2⟩
  | pt sz get ih =>
    rintro v ⟨ad, rfl, h2, h3, h4, h5⟩
    refine ⟨ad, rfl, h2, fun q => h3 (ha _ h4 q), Nat.lt_of_lt_of_le h4 hk.size, fun j hj => ?_⟩
    obtain ⟨x, q1, q2⟩ := h5 j hj
    exact ⟨x, by rw [cell_same (w := w) (by rw [block_add]; exact hk.same _ h4 h3)]; exact q1, ih j q2⟩
  | fn f n cap ih =>
    rintro v ⟨vs, rfl, h1, h2⟩
    refine ⟨vs, rfl, h1, fun j hj => ?_⟩
    obtain ⟨x, q1, q2⟩ := h2 j hj
    exact ⟨x, q1, ih j q2⟩
  | st l =>
    rintro v ⟨b, es, clock, rfl, h1, h2, h3⟩
    have hlt : b < w.heap.size := (Array.getElem?_eq_some_iff.1 h2).1
    exact ⟨b, es, clock, rfl, fun q => h1 (ha _ hlt q), (hk.same _ hlt h1).trans h2, h3⟩
  | gp g => intro v h; exact h
  | tx s => intro v h; exact h
  | fm l =>
    rintro v ⟨b, es, clock, rfl, h1, h2, h3⟩
    have hlt : b < w.heap.size := (Array.getElem?_eq_some_iff.1 h2).1
    exact ⟨b, es, clock, rfl, fun q => h1 (ha _ hlt q), (hk.same _ hlt h1).trans h2, h3⟩

/-- For each root its block, its slice's header, the cells of an element. -/
abbrev Env := List (Option Nat × Value × Nat)

def atRoot (E : Env) (r b sz : Nat) : Prop := ∃ h, E[r]? = some (some b, h, sz)

def CRel (E : Env) (av : Nat → Prop) (w : World) : C → Value → Prop
  | .im x, v => IRel av w x v
  | .rt r i j, v => ∃ b sz, atRoot E r b sz ∧ v = .pointer (some ⟨b, i * sz + j, none⟩)
  | .sa r m, v => ∃ e a n cap, E[r]? = some e ∧ e.2.1 = .slice a n cap ∧ m ≤ n ∧ v = .slice a m cap
  | .mp r, v => ∃ b sz, atRoot E r b sz ∧ v = .map (some b)
  | .yl r, v => ∃ b sz, atRoot E r b sz ∧ v = .func (.yield b) #[] #[]
  | .clo f caps, v => ∃ vs : Array Value, v = .func (.func f) #[] vs ∧ All2 (fun r x => ∃ b sz, atRoot E r b sz ∧ x = .pointer (some ⟨b, 0, none⟩)) caps vs.toList

theorem CRel.one {E : Env} {av : Nat → Prop} {w : World} {x : C} {v : Value} (h : CRel E av w x v) : v.oneCell' = true := by
  cases x with
  | im x => exact IRel.one h
  | rt r i j => obtain ⟨_, _, _, rfl⟩ := h; rfl
  | sa r m => obtain ⟨_, _, _, _, _, _, _, rfl⟩ := h; rfl
  | mp r => obtain ⟨_, _, _, rfl⟩ := h; rfl
  | yl r => obtain ⟨_, _, _, rfl⟩ := h; rfl
  | clo f caps => obtain ⟨_, rfl, _⟩ := h; rfl

def DRel (E : Env) (av : Nat → Prop) (w : World) : D → Value → Prop
  | .c x, v => CRel E av w x v
  | .a l, v => ∃ cs : Array Value, v = .agg cs ∧ All2 (CRel E av w) l cs.toList
  | .t l, v => ∃ vs : Array Value, v = .tuple vs ∧ All2 (fun (x : Bool × List C) y => match x with
      | (true, l) => ∃ cs : Array Value, y = .agg cs ∧ All2 (CRel E av w) l cs.toList
      | (false, l) => ∃ c, l = [c] ∧ CRel E av w c y) l vs.toList

/-- The environment has only grown. -/
def hole : Option Nat × Value × Nat := (none, undef, 0)
def Env.le (E E' : Env) : Prop := ∀ (r : Nat) (e : Option Nat × Value × Nat), E[r]? = some e → e ≠ hole → E'[r]? = some e
theorem Env.le_refl (E : Env) : Env.le E E := fun _ _ h _ => h
theorem Env.le_append (E F : Env) : Env.le E (E ++ F) := fun r e h _ => by
  rw [List.getElem?_append_left]; exact h
  exact (List.getElem?_eq_some_iff.1 h).1
theorem Env.le.trans {E F G : Env} (h : Env.le E F) (k : Env.le F G) : Env.le E G := fun r e q n => k r e (h r e q n) n
theorem Env.le.at_ {E E' : Env} (hE : Env.le E E') {r b sz : Nat} : atRoot E r b sz → atRoot E' r b sz := fun ⟨h, q⟩ => ⟨h, hE _ _ q (by simp [hole])⟩
theorem Env.le_set {E : Env} {r : Nat} (e : Option Nat × Value × Nat) (h : E[r]? = some hole) : Env.le E (E.set r e) := fun q e' h1 hn => by
  rw [List.getElem?_set]
  split
  · rename_i hq; subst hq; rw [h] at h1; simp only [Option.some.injEq] at h1; exact (hn h1.symm).elim
  · exact h1

theorem CRel.mono {E E' : Env} {av av' : Nat → Prop} {w w' : World} (hE : Env.le E E') (hk : Keeps av w w') (ha : ∀ b, b < w.heap.size → av' b → av b) {x : C} {v : Value} (h : CRel E av w x v) : CRel E' av' w' x v := by
  cases x with
  | im x => exact IRel.mono hk ha h
  | rt r i j => obtain ⟨b, sz, h1, h2⟩ := h; exact ⟨b, sz, hE.at_ h1, h2⟩
  | sa r m => obtain ⟨e, a, n, cap, h1, h2, h3, h4⟩ := h; exact ⟨e, a, n, cap, hE _ _ h1 (by intro q; subst q; simp [hole, undef] at h2), h2, h3, h4⟩
  | mp r => obtain ⟨b, sz, h1, h2⟩ := h; exact ⟨b, sz, hE.at_ h1, h2⟩
  | yl r => obtain ⟨b, sz, h1, h2⟩ := h; exact ⟨b, sz, hE.at_ h1, h2⟩
  | clo f caps =>
    obtain ⟨vs, h1, h2⟩ := h
    exact ⟨vs, h1, h2.mono fun r x ⟨b, sz, q, q2⟩ => ⟨b, sz, hE.at_ q, q2⟩⟩
theorem DRel.mono {E E' : Env} {av av' : Nat → Prop} {w w' : World} (hE : Env.le E E') (hk : Keeps av w w') (ha : ∀ b, b < w.heap.size → av' b → av b) {x : D} {v : Value} (h : DRel E av w x v) : DRel E' av' w' x v := by
  cases x with
  | c x => exact CRel.mono hE hk ha h
  | a l => obtain ⟨cs, h1, h2⟩ := h; exact ⟨cs, h1, h2.mono fun _ _ q => CRel.mono hE hk ha q⟩
  | t l =>
    obtain ⟨vs, h1, h2⟩ := h
    refine ⟨vs, h1, h2.mono ?_⟩
    rintro ⟨b, l⟩ y q
    cases b with
    | true => obtain ⟨cs, q1, q2⟩ := q; exact ⟨cs, q1, q2.mono fun _ _ q => CRel.mono hE hk ha q⟩
    | false => obtain ⟨c, q1, q2⟩ := q; exact ⟨c, q1, CRel.mono hE hk ha q2⟩

def Root.live : Root → Prop
  | .dead => False
  | _ => True

/-- The blocks that may still turn: those that the callers keep, and the live roots'. -/
def AV (av0 : Nat → Prop) (rs : List Root) (E : Env) (b : Nat) : Prop := av0 b ∨ ∃ r x sz, rs[r]? = some x ∧ x.live ∧ atRoot E r b sz

/-- What is said of the slots. -/
def SlotsRel (E : Env) (av : Nat → Prop) (w : World) (N : Nat) (sl : Slots) (tm : Array Value) : Prop :=
  ∀ t d c, look sl t = some (d, c) → t < N ∧ ((∀ p ∈ c, tm.getD p.1 undef = .bool p.2) → DRel E av w d (tm.getD t undef)) ∧
    (¬ (∀ p ∈ c, tm.getD p.1 undef = .bool p.2) → tm.getD t undef = undef)

theorem SlotsRel.mono {E E' : Env} {av av' : Nat → Prop} {w w' : World} (hE : Env.le E E') (hk : Keeps av w w') (ha : ∀ b, b < w.heap.size → av' b → av b) {N : Nat} {sl : Slots} {tm : Array Value} (h : SlotsRel E av w N sl tm) : SlotsRel E' av' w' N sl tm := fun t d c hl => by
  obtain ⟨q1, q2, q3⟩ := h t d c hl
  exact ⟨q1, fun q => DRel.mono hE hk ha (q2 q), q3⟩

def RootRel (E : Env) (av : Nat → Prop) (base : Nat) (w : World) (e : Option Nat × Value × Nat) : Root → Prop
  | .dead => True
  | .box l => ∃ b cs T, e.1 = some b ∧ e.2.2 = l.length ∧ w.heap[b]? = some (.cells cs T (0, 0)) ∧ All2 (CRel E av w) l cs.toList
  | .arr el sz n get => e.2.2 = sz ∧ e.1 = e.2.1.ownBlock ∧ ∃ xs, w.ownsRow base el sz e.2.1 n xs ∧ ∀ i, i < n → ∀ j, j < sz → ∃ x, xs[i * sz + j]? = some x ∧ IRel av w (get i j) x
  | .row el sz n l => e.2.2 = sz ∧ e.1 = e.2.1.ownBlock ∧ ∃ xs, w.ownsRow base el sz e.2.1 n xs ∧ All2 (CRel E av w) l xs
  | .set l => ∃ b es clock, e.1 = some b ∧ w.heap[b]? = some (.map es clock) ∧ All2 (fun n (x : MapEntry) => x.key = .int .i64 n ∧ x.val = .bool true) l es.toList
  | .dfr => ∃ b, e.1 = some b ∧ w.heap[b]? = some (.deferred (some []))
  | .loop f N sl ps as bd st pend => ∃ b db tm, e.1 = some b ∧ w.heap[b]? = some (.loop { state := st, pending := pend, fn := f, tmps := tm, params := ps.toArray, assign := as, body := bd, defers := db }) ∧
      tm.size = N ∧ SlotsRel E av w N sl tm ∧ ∀ x ∈ sl, x.2.2 = []

/-- The package's variables hold what the table says. -/
def Globs (T : Tab) (av : Nat → Prop) (w : World) : Prop := ∀ g x, T.gl g = some x → IRel av w (.pt 1 fun _ => x) (.pointer (some ⟨g, 0, none⟩))
theorem Globs.mono {T : Tab} {av av' : Nat → Prop} {w w' : World} (hk : Keeps av w w') (ha : ∀ b, b < w.heap.size → av' b → av b) (h : Globs T av w) : Globs T av' w' := fun g x e => IRel.mono hk ha (h g x e)
structure R (T : Tab) (N : Nat) (av0 : Nat → Prop) (w0 : World) (sp : List (D × Value)) (s : VS) (a : Act) (w : World) (E : Env) : Prop where
  size : a.tmps.size = N
  defers : All2 (fun r (d : Deferred) => ∃ b sz, atRoot E r b sz ∧ d = { target := .collected b, args := #[] }) s.df a.defers
  spec : ∀ x ∈ sp, DRel E (AV av0 s.rs E) w x.1 x.2
  below : Below w0.heap.size w0 w
  len : E.length = s.rs.length
  outer : ∀ b, av0 b → b < w0.heap.size
  roots : ∀ (r : Nat) (x : Root) (e : Option Nat × Value × Nat), s.rs[r]? = some x → E[r]? = some e → RootRel E (AV av0 s.rs E) w0.heap.size w e x
  blk : ∀ (r : Nat) (x : Root) (b sz : Nat), s.rs[r]? = some x → x.live → atRoot E r b sz → w0.heap.size ≤ b ∧ b < w.heap.size
  inj : ∀ (r r' : Nat) (x x' : Root) (b sz sz' : Nat), s.rs[r]? = some x → s.rs[r']? = some x' → x.live → x'.live → atRoot E r b sz → atRoot E r' b sz' → r = r'
  slots : ∀ t d c, look s.sl t = some (d, c) → t < N ∧ ((∀ p ∈ c, a.tmps.getD p.1 undef = .bool p.2) → DRel E (AV av0 s.rs E) w d (a.tmps.getD t undef)) ∧
    (¬ (∀ p ∈ c, a.tmps.getD p.1 undef = .bool p.2) → a.tmps.getD t undef = undef)
  glob : Globs T (AV av0 s.rs E) w

def CondsHold (a : Act) (g : Cond) : Prop := ∀ p ∈ g, a.tmps.getD p.1 undef = .bool p.2

theorem beqB_eq {x y : Bool} (h : beqB x y = true) : x = y := by cases x <;> cases y <;> simp_all [beqB]
theorem condMem_mem : ∀ {m : Cond} {x : Tmp × Bool}, condMem x m = true → x ∈ m
  | [], _, h => by simp [condMem] at h
  | y :: m, x, h => by
    simp only [condMem] at h
    split at h
    · rename_i h1
      split at h
      · rename_i h2
        have e1 : x.1 = y.1 := Nat.eq_of_beq_eq_true h1
        have e2 := beqB_eq h2
        have : x = y := Prod.ext e1 e2
        simp [this]
      · exact List.mem_cons_of_mem _ (condMem_mem h)
    · exact List.mem_cons_of_mem _ (condMem_mem h)
theorem sub_hold {a : Act} {m : Cond} (hm : CondsHold a m) : ∀ {l : Cond}, sub l m = true → CondsHold a l
  | [], _ => fun p hp => by cases hp
  | x :: l, h => by
    simp only [sub] at h
    split at h
    · rename_i h1
      intro p hp
      cases hp with
      | head => exact hm _ (condMem_mem h1)
      | tail _ hp => exact sub_hold hm h p hp
    · simp at h

theorem oneV_rel {E : Env} {av : Nat → Prop} {w : World} : ∀ {l : List Value} {r : List C}, oneV l = some r → All2 (CRel E av w) r l
  | [], r, h => by simp [oneV] at h; subst h; exact .nil
  | x :: l, r, h => by
    simp only [oneV] at h
    split at h
    · rename_i q h1 h2
      simp only [Option.some.injEq] at h
      subst h
      exact .cons ⟨rfl, h1⟩ (oneV_rel h2)
    · simp at h
theorem constD_rel {E : Env} {av : Nat → Prop} {w : World} {v : Value} {d : D} (h : constD v = some d) : DRel E av w d v := by
  unfold constD at h
  split at h
  · split at h
    · rename_i l hl
      simp only [Option.some.injEq] at h
      subst h
      exact ⟨_, rfl, oneV_rel hl⟩
    · simp at h
  · split at h
    · rename_i h1
      simp only [Option.some.injEq] at h
      subst h
      exact ⟨rfl, h1⟩
    · simp at h

section
variable {T : Tab} {N : Nat} {av0 : Nat → Prop} {w0 : World} {sp : List (D × Value)} {s : VS} {a : Act} {w : World} {E : Env}

theorem R.ev (h : R T N av0 w0 sp s a w E) {g : Cond} (hg : CondsHold a g) {x : Operand} {d : D} (e : s.ev g x = some d) : DRel E (AV av0 s.rs E) w d (a.eval x) := by
  cases x with
  | tmp t =>
    simp only [VS.ev] at e
    split at e
    · rename_i d' c hl
      split at e
      · rename_i hs
        simp only [Option.some.injEq] at e
        subst e
        exact (h.slots t d' c hl).2.1 (sub_hold hg hs)
      · simp at e
    · simp at e
  | const v => exact constD_rel e
  | func f =>
    simp only [VS.ev, Option.some.injEq] at e
    subst e
    exact ⟨#[], rfl, rfl, fun j hj => by omega⟩
  | global g' =>
    simp only [VS.ev, Option.some.injEq] at e
    subst e
    rfl
end
end Go.V
