/- A statement whose order is open: who waits for whom; views of a state. -/
import Derived.Test.YtkbgcnppkmkkiaaDoorVxC
import Derived.Test.YtkbgcnppkmkkiaaDoorVxA
set_option linter.unusedVariables false
namespace Go.V
section

/-! Who waits for whom. -/
theorem nthF_get {α : Type} (l : List α) (i : Nat) : nthF l i = l[i]? := by rw [nthF_eq, nth_eq]

theorem depsM_spec {acc : List Nat} {j : Nat} : ∀ {l : List Edge} {m : Nat}, (depsM acc l m).testBit j = true ↔ (m.testBit j = true ∨ ∃ e ∈ l, Region.binds .any e = true ∧ (j = e.on ∨ ∃ x, acc[e.on]? = some x ∧ x.testBit j = true))
  | [], m => by simp [depsM]
  | e :: l, m => by
    have hun : depsM acc (e :: l) m = (Bool.rec (depsM acc l m) (depsM acc l (Nat.lor (Nat.lor (Nat.shiftLeft 1 e.on) m) (match nthF acc e.on with
      | some x => x
      | none => 0))) (Region.binds .any e) : Nat) := rfl
    rw [hun]
    cases hb : Region.binds .any e with
    | false =>
      show (depsM acc l m).testBit j = true ↔ _
      rw [depsM_spec]
      constructor
      · rintro (h | ⟨e', h1, h2⟩)
        · exact .inl h
        · exact .inr ⟨e', List.mem_cons_of_mem _ h1, h2⟩
      · rintro (h | ⟨e', h1, h2, h3⟩)
        · exact .inl h
        · rcases List.mem_cons.1 h1 with rfl | h1
          · rw [hb] at h2; simp at h2
          · exact .inr ⟨e', h1, h2, h3⟩
    | true =>
      show (depsM acc l (((1 <<< e.on) ||| m) ||| (match nthF acc e.on with
        | some x => x
        | none => 0))).testBit j = true ↔ _
      rw [depsM_spec, nthF_get]
      have h1 : (1 <<< e.on).testBit j = true ↔ j = e.on := by
        rw [Nat.one_shiftLeft, Nat.testBit_two_pow]
        simp only [decide_eq_true_eq]
        exact ⟨fun h => h.symm, fun h => h.symm⟩
      have h2 : (match acc[e.on]? with
        | some x => x
        | none => 0).testBit j = true ↔ ∃ x, acc[e.on]? = some x ∧ x.testBit j = true := by
        cases acc[e.on]? with
        | none => simp
        | some x => simp
      rw [Nat.testBit_or, Nat.testBit_or, Bool.or_eq_true, Bool.or_eq_true, h1, h2]
      constructor
      · rintro (((h | h) | h) | ⟨e', h3, h4⟩)
        · exact .inr ⟨e, List.mem_cons_self .., hb, .inl h⟩
        · exact .inl h
        · exact .inr ⟨e, List.mem_cons_self .., hb, .inr h⟩
        · exact .inr ⟨e', List.mem_cons_of_mem _ h3, h4⟩
      · rintro (h | ⟨e', h3, h4, h5⟩)
        · exact .inl (.inl (.inr h))
        · rcases List.mem_cons.1 h3 with rfl | h3
          · rcases h5 with h5 | h5
            · exact .inl (.inl (.inl h5))
            · exact .inl (.inr h5)
          · exact .inr ⟨e', h3, h4, h5⟩

theorem ancsM_spec : ∀ (l : List Oper) (acc : List Nat), ∃ rest, ancsM l acc = acc ++ rest ∧ rest.length = l.length ∧ ∀ i o, l[i]? = some o → rest[i]? = some (depsM (acc ++ rest.take i) o.after.toList 0)
  | [], acc => ⟨[], by simp [ancsM], rfl, fun i o h => by simp at h⟩
  | o :: l, acc => by
    obtain ⟨rest, h1, h2, h3⟩ := ancsM_spec l (acc ++ [depsM acc o.after.toList 0])
    refine ⟨depsM acc o.after.toList 0 :: rest, ?_, by simp [h2], fun i o' h => ?_⟩
    · show ancsM l (acc ++ [depsM acc o.after.toList 0]) = _
      rw [h1]; simp
    · cases i with
      | zero => simp at h; subst h; simp
      | succ i =>
        simp only [List.getElem?_cons_succ] at h ⊢
        rw [h3 i o' h]
        simp

/-- Whom operation i waits for. -/
structure Anc (ops : List Oper) (A : List Nat) : Prop where
  len : A.length = ops.length
  bits : ∀ i o m, ops[i]? = some o → A[i]? = some m → ∀ j, m.testBit j = true ↔ ∃ e ∈ o.after.toList, Region.binds .any e = true ∧ (j = e.on ∨ ∃ x, (A.take i)[e.on]? = some x ∧ x.testBit j = true)
theorem anc_of (ops : List Oper) : Anc ops (ancsM ops []) := by
  obtain ⟨rest, h1, h2, h3⟩ := ancsM_spec ops []
  rw [List.nil_append] at h1
  rw [h1]
  refine ⟨h2, fun i o m ho hm j => ?_⟩
  have := h3 i o ho
  rw [hm] at this
  simp only [Option.some.injEq] at this
  subst this
  rw [depsM_spec]
  simp

theorem belowB_spec : ∀ {l : List Nat} {k : Nat}, belowB l k = true → ∀ i m, l[i]? = some m → ∀ j, m.testBit j = true → j < k + i
  | [], k, h, i, m, hm, j, hj => by simp at hm
  | x :: l, k, h, i, m, hm, j, hj => by
    have h : (Bool.rec false (belowB l (k + 1)) (Nat.blt x (Nat.shiftLeft 1 k)) : Bool) = true := h
    have h1 : Nat.blt x (Nat.shiftLeft 1 k) = true ∧ belowB l (k + 1) = true := by
      cases hb : Nat.blt x (Nat.shiftLeft 1 k) with
      | true => rw [hb] at h; exact ⟨rfl, h⟩
      | false => rw [hb] at h; simp at h
    cases i with
    | zero =>
      simp at hm
      subst hm
      have hlt : x < 2 ^ k := by
        have := toNat_of_blt h1.1
        rwa [show Nat.shiftLeft 1 k = 1 <<< k from rfl, Nat.one_shiftLeft] at this
      rcases Nat.lt_or_ge j (k + 0) with hj' | hj'
      · exact hj'
      · have : x.testBit j = false := Nat.testBit_lt_two_pow (Nat.lt_of_lt_of_le hlt (Nat.pow_le_pow_right (by omega) (by omega)))
        rw [this] at hj; simp at hj
    | succ i =>
      simp only [List.getElem?_cons_succ] at hm
      have := belowB_spec h1.2 i m hm j hj
      omega

theorem Bool.rec_true {x b : Bool} (h : (Bool.rec false x b : Bool) = true) : b = true ∧ x = true := by
  cases b with
  | false => simp at h
  | true => exact ⟨rfl, h⟩

theorem dstAt_some {t : Tmp} : ∀ {l : List Oper} {k j : Nat}, dstAt t l k = some j → ∃ i o, j = k + i ∧ l[i]? = some o ∧ o.dst = some t
  | [], k, j, h => by simp [dstAt] at h
  | o :: l, k, j, h => by
    have h : (match o.dst with
      | some t' => (Bool.rec (dstAt t l (k + 1)) (some k) (Nat.beq t t') : Option Nat)
      | none => dstAt t l (k + 1)) = some j := h
    have go : dstAt t l (k + 1) = some j → ∃ i o', j = k + i ∧ (o :: l)[i]? = some o' ∧ o'.dst = some t := fun h => by
      obtain ⟨i, o', h1, h2, h3⟩ := dstAt_some h
      exact ⟨i + 1, o', by omega, by simpa using h2, h3⟩
    split at h
    · rename_i t' ht
      cases hb : Nat.beq t t' with
      | true =>
        rw [hb] at h
        simp only [Option.some.injEq] at h
        have := of_beq hb
        subst this
        exact ⟨0, o, by omega, rfl, ht⟩
      | false => rw [hb] at h; exact go h
    · exact go h
theorem dstAt_none {t : Tmp} : ∀ {l : List Oper} {k : Nat}, dstAt t l k = none → ∀ (i : Nat) (o : Oper), l[i]? = some o → o.dst ≠ some t
  | [], k, h, i, o', ho => by simp at ho
  | o :: l, k, h, i, o', ho => by
    have h : (match o.dst with
      | some t' => (Bool.rec (dstAt t l (k + 1)) (some k) (Nat.beq t t') : Option Nat)
      | none => dstAt t l (k + 1)) = none := h
    have both : o.dst ≠ some t ∧ dstAt t l (k + 1) = none := by
      split at h
      · rename_i t' ht
        cases hb : Nat.beq t t' with
        | true => rw [hb] at h; simp at h
        | false =>
          rw [hb] at h
          refine ⟨fun e => ?_, h⟩
          rw [ht] at e
          simp only [Option.some.injEq] at e
          subst e
          rw [Nat.beq_refl] at hb
          simp at hb
      · rename_i ht; exact ⟨by rw [ht]; simp, h⟩
    cases i with
    | zero => simp at ho; subst ho; exact both.1
    | succ i => exact dstAt_none both.2 i o' (by simpa using ho)
theorem distB_spec : ∀ {l : List Oper}, distB l = true → ∀ (i j : Nat) (o o' : Oper) (t : Tmp), l[i]? = some o → l[j]? = some o' → o.dst = some t → o'.dst = some t → i = j
  | [], h, i, j, o, o', t, h1, h2, h3, h4 => by simp at h1
  | x :: l, h, i, j, o, o', t, h1, h2, h3, h4 => by
    have h : (match x.dst with
      | some t => (Bool.rec false (distB l) (newDst t l) : Bool)
      | none => distB l) = true := h
    have both : distB l = true ∧ ∀ t, x.dst = some t → ∀ (i : Nat) (o : Oper), l[i]? = some o → o.dst ≠ some t := by
      split at h
      · rename_i t' ht
        obtain ⟨q1, q2⟩ := Bool.rec_true h
        refine ⟨q2, fun t ht' => ?_⟩
        rw [ht] at ht'
        simp only [Option.some.injEq] at ht'
        subst ht'
        unfold newDst at q1
        split at q1
        · simp at q1
        · rename_i hq; exact dstAt_none hq
      · rename_i ht; exact ⟨h, fun t ht' => by rw [ht] at ht'; simp at ht'⟩
    cases i with
    | zero =>
      cases j with
      | zero => rfl
      | succ j =>
        simp at h1; subst h1
        exact (both.2 t h3 j o' (by simpa using h2) h4).elim
    | succ i =>
      cases j with
      | zero =>
        simp at h2; subst h2
        exact (both.2 t h4 i o (by simpa using h1) h3).elim
      | succ j => rw [distB_spec both.1 i j o o' t (by simpa using h1) (by simpa using h2) h3 h4]

theorem readB_spec {ops : List Oper} {m : Nat} : ∀ {l : List Operand}, readB ops m l = true → ∀ t, .tmp t ∈ l → readT ops m t = true
  | [], h, t, ht => by simp at ht
  | x :: l, h, t, ht => by
    cases x with
    | tmp k =>
      have h : (Bool.rec false (readB ops m l) (readT ops m k) : Bool) = true := h
      rcases List.mem_cons.1 ht with e | ht
      · simp only [Operand.tmp.injEq] at e; subst e; exact (Bool.rec_true h).1
      · exact readB_spec (Bool.rec_true h).2 t ht
    | const v =>
      have h : readB ops m l = true := h
      rcases List.mem_cons.1 ht with e | ht
      · cases e
      · exact readB_spec h t ht
    | func f =>
      have h : readB ops m l = true := h
      rcases List.mem_cons.1 ht with e | ht
      · cases e
      · exact readB_spec h t ht
    | global g =>
      have h : readB ops m l = true := h
      rcases List.mem_cons.1 ht with e | ht
      · cases e
      · exact readB_spec h t ht
theorem orderB_spec {ops : List Oper} : ∀ {l : List Oper} {ms : List Nat}, orderB ops l ms = true → ∀ (i : Nat) (o : Oper) (m : Nat), l[i]? = some o → ms[i]? = some m → guardB m o.guard = true ∧ readB ops m o.op.operands.toList = true
  | [], ms, h, i, o, m, h1, h2 => by simp at h1
  | x :: l, [], h, i, o, m, h1, h2 => by simp at h2
  | x :: l, y :: ms, h, i, o, m, h1, h2 => by
    have h : (Bool.rec false (orderB ops l ms) (guardB y x.guard && readB ops y x.op.operands.toList) : Bool) = true := h
    obtain ⟨h3, h4⟩ := Bool.rec_true h
    cases i with
    | zero => simp at h1 h2; subst h1 h2; simpa using h3
    | succ i => exact orderB_spec h4 i o m (by simpa using h1) (by simpa using h2)

/-! Views. -/
/-- The state behind those of the first k updates that are listed, in the order of the text. -/
noncomputable def setS (us : Nat → Upd) (s0 : VS) (L : Nat → Bool) : Nat → VS
  | 0 => s0
  | k + 1 => match L k with
    | true => (us k).on (setS us s0 L k)
    | false => setS us s0 L k
structure View (α : Type) where
  f : VS → α
  act : Upd → α → α
  touch : Upd → Prop
  on : ∀ u s, f (u.on s) = act u (f s)
  idle : ∀ u x, ¬ touch u → act u x = x
section
variable {α : Type} (v : View α) {us : Nat → Upd} {s0 : VS} {L L' : Nat → Bool}
theorem View.agree : ∀ {m : Nat}, (∀ k, k < m → v.touch (us k) → L k = L' k) → v.f (setS us s0 L m) = v.f (setS us s0 L' m)
  | 0, _ => rfl
  | m + 1, h => by
    have ih := View.agree (m := m) fun k hk => h k (by omega)
    simp only [setS]
    by_cases ht : v.touch (us m)
    · rw [h m (by omega) ht]
      split
      · rw [v.on, v.on, ih]
      · exact ih
    · split <;> split
      · rw [v.on, v.on, ih]
      · rw [v.on, v.idle _ _ ht, ih]
      · rw [v.on, v.idle _ _ ht, ih]
      · exact ih
theorem View.tail {i : Nat} : ∀ {m : Nat}, i ≤ m → (∀ k, i ≤ k → k < m → L k = true → ¬ v.touch (us k)) → v.f (setS us s0 L m) = v.f (setS us s0 L i)
  | 0, hi, _ => by rw [show i = 0 by omega]
  | m + 1, hi, h => by
    rcases Nat.lt_or_ge i (m + 1) with hi' | hi'
    · have ih := View.tail (i := i) (m := m) (by omega) fun k h1 h2 => h k h1 (by omega)
      rw [← ih]
      simp only [setS]
      split
      · rename_i hL
        rw [v.on, v.idle _ _ (h m (by omega) (by omega) hL)]
      · rfl
    · rw [show i = m + 1 by omega]
/-- One more. -/
def more (L : Nat → Bool) (i k : Nat) : Bool := bif k == i then true else L k
theorem more_self (i : Nat) : more L i i = true := by simp [more]
theorem more_ne {i k : Nat} (h : k ≠ i) : more L i k = L k := by simp [more, h]
theorem View.step {i n : Nat} (hi : i < n) (hL : L i = false) (h : v.touch (us i) → ∀ k, i < k → k < n → L k = true → ¬ v.touch (us k)) : v.f ((us i).on (setS us s0 L n)) = v.f (setS us s0 (more L i) n) := by
  rw [v.on]
  by_cases ht : v.touch (us i)
  · have h := h ht
    rw [v.tail (i := i + 1) (by omega) fun k h1 h2 h3 => h k (by omega) h2 h3]
    rw [v.tail (L := more L i) (i := i + 1) (by omega) fun k h1 h2 h3 => h k (by omega) h2 (by rwa [more_ne (by omega)] at h3)]
    simp only [setS, hL, more_self]
    rw [v.on]
    rw [v.agree (L := L) (L' := more L i) fun k hk _ => (more_ne (by omega)).symm]
  · rw [v.idle _ _ ht]
    exact v.agree fun k hk hk' => by
      rw [more_ne]
      intro e; subst e; exact ht hk'
end
theorem setS_trunc {us : Nat → Upd} {s0 : VS} {L : Nat → Bool} {i : Nat} : ∀ {n : Nat}, i ≤ n → setS us s0 (fun k => L k && decide (k < i)) n = setS us s0 L i
  | 0, h => by rw [show i = 0 by omega]; rfl
  | n + 1, h => by
    rcases Nat.lt_or_ge n i with hn | hn
    · have hi : i = n + 1 := by omega
      subst hi
      have : ∀ m, m ≤ n + 1 → setS us s0 (fun k => L k && decide (k < n + 1)) m = setS us s0 L m := by
        intro m
        induction m with
        | zero => intro _; rfl
        | succ m ih =>
          intro hm
          simp only [setS]
          rw [ih (by omega), show (L m && decide (m < n + 1)) = L m by simp [show m < n + 1 by omega]]
      exact this _ (Nat.le_refl _)
    · simp only [setS]
      rw [show (L n && decide (n < i)) = false by simp [show ¬ n < i by omega]]
      exact setS_trunc hn

theorem lookF_cons (k : Tmp) (d : D) (c : Cond) (sl : Slots) (t : Tmp) : lookF ((k, d, c) :: sl) t = (Bool.rec (lookF sl t) (some d) (Nat.beq k t) : Option D) := rfl
def Upd.at (u : Upd) (t : Tmp) : Option D := match u.dst with
  | some t' => match u.val with
    | some d => match Nat.beq t' t with
      | true => some d
      | false => none
    | none => none
  | none => none
noncomputable def slotV (t : Tmp) : View (Option D) where
  f s := lookF s.sl t
  act u x := match u.at t with
    | some d => some d
    | none => x
  touch u := u.at t ≠ none
  on u s := by
    unfold Upd.on putU Upd.at
    cases u.dst with
    | none => rfl
    | some t' =>
      cases u.val with
      | none => rfl
      | some d =>
        simp only [lookF_cons]
        cases Nat.beq t' t <;> rfl
  idle u x h := by
    cases hq : u.at t with
    | none => rfl
    | some d => exact (h (by rw [hq]; simp)).elim
theorem Upd.at_dst {u : Upd} {t : Tmp} (h : u.at t ≠ none) : u.dst = some t := by
  unfold Upd.at at h
  split at h
  · rename_i t' ht
    split at h
    · split at h
      · rename_i hb; rw [ht, of_beq hb]
      · simp at h
    · simp at h
  · simp at h

def actW (q : Nat) : List (Nat × Root) → Option Root → Option Root
  | [], x => x
  | p :: ws, x => actW q ws (match Nat.beq p.1 q with
    | true => match x with
      | some _ => some p.2
      | none => none
    | false => x)
theorem writes_nth (q : Nat) : ∀ (ws : List (Nat × Root)) (rs : List Root), nthF (writes ws rs) q = actW q ws (nthF rs q)
  | [], rs => rfl
  | p :: ws, rs => by
    show nthF (writes ws (setAt rs p.1 p.2)) q = _
    rw [writes_nth q ws]
    simp only [actW]
    congr 1
    rw [nthF_get, nthF_get, setAt_eq, List.getElem?_set]
    cases hb : Nat.beq p.1 q with
    | true =>
      have := of_beq hb
      rw [if_pos this, ← this]
      by_cases hl : p.1 < rs.length
      · simp [hl]
      · simp [hl]
    | false =>
      rw [if_neg]
      intro e
      rw [e, Nat.beq_refl] at hb
      simp at hb
theorem actW_idle {q : Nat} : ∀ {ws : List (Nat × Root)} {x : Option Root}, q ∉ ws.map (·.1) → actW q ws x = x
  | [], x, _ => rfl
  | p :: ws, x, h => by
    simp only [List.map_cons, List.mem_cons, not_or] at h
    simp only [actW]
    have : Nat.beq p.1 q = false := by
      cases hb : Nat.beq p.1 q with
      | true => exact (h.1 (of_beq hb).symm).elim
      | false => rfl
    rw [this]
    exact actW_idle h.2
noncomputable def rootV (q : Nat) : View (Option Root) where
  f s := nthF s.rs q
  act u x := actW q u.ws (match u.al with
    | some rs => nthF rs q
    | none => x)
  touch u := u.al ≠ none ∨ q ∈ u.ws.map (·.1)
  on u s := by
    have : (u.on s).rs = writes u.ws (allR u.al s.rs) := by
      unfold Upd.on putU
      cases u.dst with
      | none => rfl
      | some t => cases u.val <;> rfl
    rw [this, writes_nth]
    congr 1
    unfold allR
    cases u.al <;> rfl
  idle u x h := by
    simp only [not_or] at h
    rw [actW_idle h.2]
    cases ha : u.al with
    | none => rfl
    | some rs => exact (h.1 (by rw [ha]; simp)).elim
end
end Go.V
