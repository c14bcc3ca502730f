/- A statement whose order is open: whatever the order, it comes to what the executor reckons. -/
import Derived.Test.YtkbgcnppkmkkiaaDoorVxD
import Derived.Test.YtkbgcnppkmkkiaaDoorVxT
import Derived.OrdersIn
set_option linter.unusedVariables false
namespace Go.V
open Go.RowKit
section
variable {P : Program} {T : Tab} {lo : Lo} {hi : Hint} {N : Nat} {av0 : Nat → Prop} {w0 : World} {sp : List (D × Value)} {s : VS} {a : Act} {w : World} {E : Env} {ρ : Option Nat}

theorem hid_eq (l : List Nat) (s : VS) : hid l s = ⟨s.sl, hides l s.rs, s.df⟩ := by cases l <;> rfl
theorem hides_nth : ∀ (l : List Nat) (rs : List Root) {q : Nat} {x : Root}, nthF (hides l rs) q = some x → x.live → q ∉ l ∧ nthF rs q = some x
  | [], rs, q, x, h, _ => ⟨by simp, h⟩
  | k :: l, rs, q, x, h, hx => by
    obtain ⟨h1, h2⟩ := hides_nth l (setAt rs k .dead) h hx
    rw [nthF_get, setAt_eq, List.getElem?_set] at h2
    split at h2
    · split at h2
      · simp only [Option.some.injEq] at h2; subst h2; exact hx.elim
      · simp at h2
    · rename_i hq
      refine ⟨?_, by rw [nthF_get]; exact h2⟩
      simp only [List.mem_cons, not_or]
      exact ⟨fun e => hq e.symm, h1⟩
theorem Upd.on_rs (u : Upd) (s : VS) : (u.on s).rs = writes u.ws (allR u.al s.rs) := by
  unfold Upd.on putU
  cases u.dst with
  | none => rfl
  | some t => cases u.val <;> rfl
theorem Upd.on_df (u : Upd) (s : VS) : (u.on s).df = s.df := by
  unfold Upd.on putU
  cases u.dst with
  | none => rfl
  | some t => cases u.val <;> rfl
theorem Upd.on_nil (u : Upd) {s : VS} (h : NilS s.sl) : NilS (u.on s).sl := by
  unfold Upd.on putU
  cases u.dst with
  | none => exact h
  | some t => cases u.val with
    | none => exact h
    | some d => exact h.cons _ _
theorem setS_df {us : Nat → Upd} {s0 : VS} {L : Nat → Bool} : ∀ n, (setS us s0 L n).df = s0.df
  | 0 => rfl
  | n + 1 => by
    simp only [setS]
    split
    · rw [Upd.on_df, setS_df n]
    · exact setS_df n
theorem setS_nil {us : Nat → Upd} {s0 : VS} {L : Nat → Bool} (h : NilS s0.sl) : ∀ n, NilS (setS us s0 L n).sl
  | 0 => h
  | n + 1 => by
    simp only [setS]
    split
    · exact Upd.on_nil _ (setS_nil h n)
    · exact setS_nil h n
theorem setS_congr {us : Nat → Upd} {s0 : VS} {L L' : Nat → Bool} : ∀ {n : Nat}, (∀ k, k < n → L k = L' k) → setS us s0 L n = setS us s0 L' n
  | 0, _ => rfl
  | n + 1, h => by
    simp only [setS]
    rw [h n (by omega), setS_congr (n := n) fun k hk => h k (by omega)]
theorem setS_shift {u : Upd} {us : Nat → Upd} {s : VS} : ∀ k, setS (fun | 0 => u | k + 1 => us k) s (fun _ => true) (k + 1) = setS us (u.on s) (fun _ => true) k
  | 0 => rfl
  | k + 1 => by
    rw [setS, setS_shift k]
    rfl

/-- What is reckoned for one operation. -/
structure SecAt (T : Tab) (lo : Lo) (hi : Hint) (N : Nat) (ops : List Oper) (ancs : List Nat) (W : List (Nat × List Nat)) (i b : Nat) (s : VS) (o : Oper) (m : Nat) (u : Upd) : Prop where
  ev : evalU T lo hi ancs i b ops (hid (freeR ancs i m W) s) o = some (.ok u)
  ok : okT N u.dst u.val = true
  sub : subN (u.ws.map (·.1)) (wroteF i W) = true
  apart : apartN (u.ws.map (·.1)) (freeR ancs i m W) = true
  ex : exB u.ex (freeR ancs i m W) = true
theorem secondF_spec {ops : List Oper} {ancs : List Nat} {W : List (Nat × List Nat)} : ∀ {l : List Oper} {ms : List Nat} {i b : Nat} {s sF : VS}, secondF T lo hi N ops ancs W l ms i b s = some sF →
    ∃ us : Nat → Upd, sF = setS us s (fun _ => true) l.length ∧ ∀ k o, l[k]? = some o → ∃ m, ms[k]? = some m ∧ SecAt T lo hi N ops ancs W (i + k) (b + holesN (l.take k)) (setS us s (fun _ => true) k) o m (us k)
  | [], ms, i, b, s, sF, h => by
    have h : some s = some sF := h
    simp only [Option.some.injEq] at h
    exact ⟨fun _ => ⟨none, none, [], none, false⟩, h.symm, fun k o hk => by simp at hk⟩
  | o :: l, [], i, b, s, sF, h => by
    have h : (none : Option VS) = some sF := h
    simp at h
  | o :: l, m :: ms, i, b, s, sF, h => by
    have h : (match evalU T lo hi ancs i b ops (hid (freeR ancs i m W) s) o with
      | some (.ok u) => (Bool.rec none (secondF T lo hi N ops ancs W l ms (i + 1) (b + makesN o.op) (u.on s)) (okT N u.dst u.val && (subN (u.ws.map (·.1)) (wroteF i W) && (apartN (u.ws.map (·.1)) (freeR ancs i m W) && exB u.ex (freeR ancs i m W)))) : Option VS)
      | _ => none) = some sF := h
    split at h
    case h_2 => simp at h
    rename_i u hu
    obtain ⟨h1, h2⟩ := Bool.rec_some h
    simp only [Bool.and_eq_true] at h1
    obtain ⟨us, h3, h4⟩ := secondF_spec h2
    refine ⟨fun | 0 => u | k + 1 => us k, ?_, fun k o' hk => ?_⟩
    · rw [List.length_cons, setS_shift]; exact h3
    · cases k with
      | zero =>
        simp at hk
        subst hk
        exact ⟨m, rfl, hu, h1.1, h1.2.1, h1.2.2.1, h1.2.2.2⟩
      | succ k =>
        obtain ⟨m', h5, h6⟩ := h4 k o' (by simpa using hk)
        refine ⟨m', by simpa using h5, ?_⟩
        rw [setS_shift]
        have e1 : i + (k + 1) = i + 1 + k := by omega
        have e2 : b + holesN (List.take (k + 1) (o :: l)) = b + makesN o.op + holesN (l.take k) := by
          show b + (makesN o.op + holesN (l.take k)) = _
          omega
        rw [e1, e2]
        exact h6
theorem firstF_second {ops : List Oper} {ancs : List Nat} : ∀ {l : List Oper} {k b : Nat} {W : List (Nat × List Nat)} {s s' : VS}, firstF T lo hi N ancs ops l k b W s = some (.ok [] s') →
    W = [] ∧ ∀ ms : List Nat, ms.length = l.length → secondF T lo hi N ops ancs [] l ms k b s = some s'
  | [], k, b, W, s, s', h => by
    have h : some (Run1.ok W s) = some (.ok [] s') := h
    simp only [Option.some.injEq, Run1.ok.injEq] at h
    obtain ⟨rfl, rfl⟩ := h
    exact ⟨rfl, fun ms _ => rfl⟩
  | o :: l, k, b, W, s, s', h => by
    have h : (match evalU T lo hi ancs k b ops s o with
      | some (.ok u) => (Bool.rec none (firstF T lo hi N ancs ops l (k + 1) (b + makesN o.op) (addW k u W) (u.on s)) (okT N u.dst u.val) : Option Run1)
      | some (.cold c) => some (.cold c)
      | none => none) = some (.ok [] s') := h
    split at h
    · rename_i u hu
      obtain ⟨h1, h2⟩ := Bool.rec_some h
      obtain ⟨h3, h4⟩ := firstF_second h2
      have h5 : u.ws = [] ∧ W = [] := by
        unfold addW at h3
        split at h3
        · rename_i hw; exact ⟨hw, h3⟩
        · simp at h3
      refine ⟨h5.2, fun ms hms => ?_⟩
      cases ms with
      | nil => simp at hms
      | cons m ms =>
        show (match evalU T lo hi ancs k b ops s o with
          | some (.ok u) => (Bool.rec none (secondF T lo hi N ops ancs [] l ms (k + 1) (b + makesN o.op) (u.on s)) (okT N u.dst u.val && (subN (u.ws.map (·.1)) (wroteF k []) && (apartN (u.ws.map (·.1)) (freeR ancs k m []) && exB u.ex (freeR ancs k m [])))) : Option VS)
          | _ => none) = some s'
        have hex : exB u.ex (freeR ancs k m []) = true := by
          show exB u.ex [] = true
          cases u.ex <;> rfl
        rw [hu]
        simp only [h1, h5.1, hex]
        exact h4 ms (by simpa using hms)
    · simp at h
    · simp at h
theorem firstF_keys {ops : List Oper} {ancs : List Nat} : ∀ {l : List Oper} {k b : Nat} {W W' : List (Nat × List Nat)} {s s' : VS}, firstF T lo hi N ancs ops l k b W s = some (.ok W' s') → (∀ x ∈ W, x.1 < k) → ∀ x ∈ W', x.1 < k + l.length
  | [], k, b, W, W', s, s', h, hk => by
    have h : some (Run1.ok W s) = some (.ok W' s') := h
    simp only [Option.some.injEq, Run1.ok.injEq] at h
    obtain ⟨rfl, rfl⟩ := h
    exact hk
  | o :: l, k, b, W, W', s, s', h, hk => by
    have h : (match evalU T lo hi ancs k b ops s o with
      | some (.ok u) => (Bool.rec none (firstF T lo hi N ancs ops l (k + 1) (b + makesN o.op) (addW k u W) (u.on s)) (okT N u.dst u.val) : Option Run1)
      | some (.cold c) => some (.cold c)
      | none => none) = some (.ok W' s') := h
    split at h
    · rename_i u hu
      obtain ⟨h1, h2⟩ := Bool.rec_some h
      intro x hx
      have := firstF_keys h2 (fun x hx => by
        unfold addW at hx
        split at hx
        · have := hk x hx; omega
        · rcases List.mem_append.1 hx with hx | hx
          · have := hk x hx; omega
          · simp at hx; subst hx; simp) x hx
      simp only [List.length_cons]
      omega
    · simp at h
    · simp at h

theorem memN_spec {n : Nat} : ∀ {l : List Nat}, memN n l = true ↔ n ∈ l
  | [] => by simp [memN]
  | x :: l => by
    have : memN n (x :: l) = (Bool.rec (memN n l) true (Nat.beq x n) : Bool) := rfl
    rw [this]
    cases hb : Nat.beq x n with
    | true => simp [of_beq hb]
    | false =>
      have : x ≠ n := fun e => by rw [e, Nat.beq_refl] at hb; simp at hb
      simp only [List.mem_cons]
      rw [memN_spec]
      exact ⟨.inr, fun h => h.elim (fun e => (this e.symm).elim) id⟩
theorem apartN_spec {m : List Nat} : ∀ {l : List Nat}, apartN l m = true → ∀ q ∈ l, q ∉ m
  | [], _, q, hq => by simp at hq
  | x :: l, h, q, hq => by
    have h : (Bool.rec (apartN l m) false (memN x m) : Bool) = true := h
    cases hb : memN x m with
    | true => rw [hb] at h; simp at h
    | false =>
      rw [hb] at h
      rcases List.mem_cons.1 hq with rfl | hq
      · intro hm; rw [memN_spec.2 hm] at hb; simp at hb
      · exact apartN_spec h q hq
theorem subN_spec {m : List Nat} : ∀ {l : List Nat}, subN l m = true → ∀ q ∈ l, q ∈ m
  | [], _, q, hq => by simp at hq
  | x :: l, h, q, hq => by
    obtain ⟨h1, h2⟩ := Bool.rec_true (show (Bool.rec false (subN l m) (memN x m) : Bool) = true from h)
    rcases List.mem_cons.1 hq with rfl | hq
    · exact memN_spec.1 h1
    · exact subN_spec h2 q hq
theorem findF_mem {α : Type} {k : Nat} {x : α} : ∀ {l : List (Nat × α)}, findF k l = some x → (k, x) ∈ l
  | [], h => by simp [findF] at h
  | y :: l, h => by
    have h : (Bool.rec (findF k l) (some y.2) (Nat.beq y.1 k) : Option α) = some x := h
    cases hb : Nat.beq y.1 k with
    | true =>
      rw [hb] at h
      simp only [Option.some.injEq] at h
      have hk := of_beq hb
      rw [← hk, ← h]
      exact List.mem_cons_self ..
    | false => rw [hb] at h; exact List.mem_cons_of_mem _ (findF_mem h)
theorem wroteF_mem {k q : Nat} {W : List (Nat × List Nat)} (h : q ∈ wroteF k W) : ∃ l, (k, l) ∈ W ∧ q ∈ l := by
  unfold wroteF at h
  split at h
  · rename_i l hl; exact ⟨l, findF_mem hl, h⟩
  · simp at h

/-- Neither waits for the other. -/
def Loose (A : List Nat) (i m j : Nat) : Prop := j ≠ i ∧ m.testBit j = false ∧ ∀ x, A[j]? = some x → x.testBit i = false
theorem freeR_cons {A : List Nat} {i m : Nat} {x : Nat × List Nat} {W : List (Nat × List Nat)} : freeR A i m (x :: W) = (Bool.rec (x.2 ++ freeR A i m W) (freeR A i m W) (Nat.beq x.1 i || (Nat.testBit m x.1 || (match nthF A x.1 with
    | some x => Nat.testBit x i
    | none => false))) : List Nat) := rfl
theorem freeR_mem {A : List Nat} {i m : Nat} {q : Nat} : ∀ {W : List (Nat × List Nat)} {x : Nat × List Nat}, x ∈ W → q ∈ x.2 → Loose A i m x.1 → q ∈ freeR A i m W
  | [], x, h, _, _ => by simp at h
  | y :: W, x, h, hq, hl => by
    rw [freeR_cons]
    rcases List.mem_cons.1 h with rfl | h
    · have h1 : Nat.beq x.1 i = false := by
        cases hb : Nat.beq x.1 i with
        | true => exact (hl.1 (of_beq hb)).elim
        | false => rfl
      have h2 : (match nthF A x.1 with
        | some x => Nat.testBit x i
        | none => false) = false := by
        rw [nthF_get]
        split
        · rename_i y hy; exact hl.2.2 y hy
        · rfl
      rw [h1, hl.2.1, h2]
      exact List.mem_append_left _ hq
    · have := freeR_mem h hq hl
      generalize (Nat.beq y.1 i || _) = b
      cases b with
      | true => exact this
      | false => exact List.mem_append_right _ this
theorem freeR_nil {A : List Nat} {i m : Nat} : ∀ {W : List (Nat × List Nat)}, (∀ x ∈ W, ¬ Loose A i m x.1) → freeR A i m W = []
  | [], _ => rfl
  | x :: W, h => by
    rw [freeR_cons]
    have ih := freeR_nil (A := A) (i := i) (m := m) (W := W) fun y hy => h y (List.mem_cons_of_mem _ hy)
    have hx := h x (List.mem_cons_self ..)
    cases hb : (Nat.beq x.1 i || (Nat.testBit m x.1 || (match nthF A x.1 with
      | some x => Nat.testBit x i
      | none => false))) with
    | true => exact ih
    | false =>
      simp only [Bool.or_eq_false_iff] at hb
      refine (hx ⟨fun e => ?_, hb.2.1, fun y hy => ?_⟩).elim
      · rw [e, Nat.beq_refl] at hb; simp at hb
      · have := hb.2.2
        rw [nthF_get, hy] at this
        exact this
theorem compB_spec {i m : Nat} : ∀ {l : List Nat} {k : Nat}, compB i m l k = true → ∀ j x, l[j]? = some x → k + j = i ∨ m.testBit (k + j) = true ∨ x.testBit i = true
  | [], k, _, j, x, hx => by simp at hx
  | y :: l, k, h, j, x, hx => by
    obtain ⟨h1, h2⟩ := Bool.rec_true (show (Bool.rec false (compB i m l (k + 1)) (Nat.beq k i || (Nat.testBit m k || Nat.testBit y i)) : Bool) = true from h)
    cases j with
    | zero =>
      simp at hx
      subst hx
      simp only [Bool.or_eq_true] at h1
      rcases h1 with h1 | h1 | h1
      · exact .inl (of_beq h1)
      · exact .inr (.inl h1)
      · exact .inr (.inr h1)
    | succ j =>
      have := compB_spec h2 j x (by simpa using hx)
      rwa [show k + 1 + j = k + (j + 1) by omega] at this
theorem barB_spec {A : List Nat} {i m : Nat} (hm : A[i]? = some m) (h : barB A i = true) {j x : Nat} (hx : A[j]? = some x) : ¬ Loose A i m j := by
  unfold barB at h
  rw [nthF_get, hm] at h
  simp only at h
  rintro ⟨h1, h2, h3⟩
  rcases compB_spec h j x hx with h4 | h4 | h4
  · omega
  · rw [Nat.zero_add] at h4; rw [h2] at h4; simp at h4
  · rw [h3 x hx] at h4; simp at h4

/-- What is reckoned, read backwards. -/
theorem evalU_inv {A : List Nat} {i b : Nat} {ops : List Oper} {s : VS} {o : Oper} {u : Upd} (h : evalU T lo hi A i b ops s o = some (.ok u)) :
    (wantF ops s.sl o.guard = some false ∧ u = ⟨o.dst, some (.t []), [], none, false⟩) ∨
    (wantF ops s.sl o.guard = some true ∧ ∃ e, effO T lo hi b s o.dst o.op = some e ∧ (∀ l, e ≠ .cold l) ∧ u.dst = o.dst ∧
      ((∃ d, e = .val d ∧ u.val = some d ∧ u.ws = [] ∧ u.al = none) ∨ (∃ d ws, e = .wr d ws ∧ u.val = d ∧ u.ws = ws ∧ u.al = none) ∨ (∃ d rs, e = .all d rs ∧ u.val = some d ∧ u.ws = [] ∧ u.al = some rs ∧ barB A i = true) ∨
        (∃ d rs, e = .all d rs ∧ u.val = some d ∧ diffW s.rs.length s.rs rs 0 = some u.ws ∧ u.al = none ∧ u.ex = true ∧ lowD s.rs.length d = true))) := by
  unfold evalU at h
  split at h
  · rename_i hw
    refine .inr ⟨hw, ?_⟩
    unfold updE at h
    split at h
    · rename_i d he
      simp only [Option.some.injEq, Fst.ok.injEq] at h
      subst h
      exact ⟨_, he, fun _ => Eff.noConfusion, rfl, .inl ⟨d, rfl, rfl, rfl, rfl⟩⟩
    · rename_i d ws he
      simp only [Option.some.injEq, Fst.ok.injEq] at h
      subst h
      exact ⟨_, he, fun _ => Eff.noConfusion, rfl, .inr (.inl ⟨d, ws, rfl, rfl, rfl, rfl⟩)⟩
    · simp at h
    · rename_i d rs he
      cases hb : barB A i with
      | false =>
        rw [hb] at h
        have h : allU o.dst d s.rs rs = some (.ok u) := h
        unfold allU at h
        split at h
        case h_2 => simp at h
        rename_i ws hws
        obtain ⟨h1, h⟩ := Bool.rec_some h
        simp only [Option.some.injEq, Fst.ok.injEq] at h
        subst h
        exact ⟨_, he, fun _ => Eff.noConfusion, rfl, .inr (.inr (.inr ⟨d, rs, rfl, rfl, hws, rfl, rfl, h1⟩))⟩
      | true =>
        rw [hb] at h
        simp only [Option.some.injEq, Fst.ok.injEq] at h
        subst h
        exact ⟨_, he, fun _ => Eff.noConfusion, rfl, .inr (.inr (.inl ⟨d, rs, rfl, rfl, rfl, rfl, rfl⟩))⟩
    · simp at h
  · rename_i hw
    simp only [Option.some.injEq, Fst.ok.injEq] at h
    exact .inl ⟨hw, h.symm⟩
  · simp at h
theorem evalU_dst {A : List Nat} {i b : Nat} {ops : List Oper} {s : VS} {o : Oper} {u : Upd} (h : evalU T lo hi A i b ops s o = some (.ok u)) : u.dst = o.dst := by
  rcases evalU_inv h with ⟨_, rfl⟩ | ⟨_, e, _, _, h, _⟩
  · rfl
  · exact h
theorem evalU_al {A : List Nat} {i b : Nat} {ops : List Oper} {s : VS} {o : Oper} {u : Upd} (h : evalU T lo hi A i b ops s o = some (.ok u)) (ha : u.al ≠ none) : barB A i = true := by
  rcases evalU_inv h with ⟨_, rfl⟩ | ⟨_, e, _, _, _, h | h | h | h⟩
  · exact (ha rfl).elim
  · obtain ⟨_, _, _, _, h⟩ := h; exact (ha h).elim
  · obtain ⟨_, _, _, _, _, h⟩ := h; exact (ha h).elim
  · obtain ⟨_, _, _, _, _, _, h⟩ := h; exact h
  · obtain ⟨_, _, _, _, _, h, _⟩ := h; exact (ha h).elim

/-- All that is checked of a statement whose order is open. -/
structure Open (T : Tab) (lo : Lo) (hi : Hint) (N : Nat) (ops : List Oper) (A : List Nat) (W : List (Nat × List Nat)) (us : Nat → Upd) (s0 : VS) (b0 : Nat) : Prop where
  anc : Anc ops A
  below : ∀ (i m : Nat), A[i]? = some m → ∀ j, m.testBit j = true → j < i
  order : ∀ (i : Nat) (o : Oper) (m : Nat), ops[i]? = some o → A[i]? = some m → guardB m o.guard = true ∧ readB ops m o.op.operands.toList = true
  dist : ∀ (i j : Nat) (o o' : Oper) (t : Tmp), ops[i]? = some o → ops[j]? = some o' → o.dst = some t → o'.dst = some t → i = j
  keys : ∀ x ∈ W, x.1 < ops.length
  sec : ∀ (k : Nat) (o : Oper), ops[k]? = some o → ∃ m, A[k]? = some m ∧ SecAt T lo hi N ops A W k (b0 + holesN (ops.take k)) (setS us s0 (fun _ => true) k) o m (us k)
def Closed (A : List Nat) (L : Nat → Bool) : Prop := ∀ (j m : Nat), A[j]? = some m → L j = true → ∀ k, m.testBit k = true → L k = true

section
variable {ops : List Oper} {A : List Nat} {W : List (Nat × List Nat)} {us : Nat → Upd} {s0 : VS} {b0 : Nat} {L : Nat → Bool} {i m : Nat} {o : Oper}

theorem Open.get (hO : Open T lo hi N ops A W us s0 b0) {k : Nat} (hk : k < ops.length) : ∃ o m, ops[k]? = some o ∧ A[k]? = some m ∧ SecAt T lo hi N ops A W k (b0 + holesN (ops.take k)) (setS us s0 (fun _ => true) k) o m (us k) := by
  obtain ⟨m, h1, h2⟩ := hO.sec k ops[k] (List.getElem?_eq_getElem hk)
  exact ⟨_, m, List.getElem?_eq_getElem hk, h1, h2⟩
theorem Open.dst (hO : Open T lo hi N ops A W us s0 b0) {k : Nat} {o : Oper} (ho : ops[k]? = some o) {t : Tmp} (h : (slotV t).touch (us k)) : o.dst = some t := by
  obtain ⟨m, _, h2⟩ := hO.sec k o ho
  rw [← evalU_dst h2.ev]
  exact Upd.at_dst h
/-- Who touches a root, and neither waits nor is waited for, is among those to be hidden. -/
theorem Open.loose (hO : Open T lo hi N ops A W us s0 b0) (hm : A[i]? = some m) {k q : Nat} (hk : k < ops.length) (hl : Loose A i m k) (ht : (rootV q).touch (us k)) : q ∈ freeR A i m W := by
  obtain ⟨o, x, h1, h2, h3⟩ := hO.get hk
  rcases ht with ht | ht
  · have hb := evalU_al h3.ev ht
    refine (barB_spec h2 hb hm ?_).elim
    exact ⟨fun e => hl.1 e.symm, hl.2.2 x h2, fun y hy => by
      rw [hm] at hy
      simp only [Option.some.injEq] at hy
      subst hy
      exact hl.2.1⟩
  · obtain ⟨l, h4, h5⟩ := wroteF_mem (subN_spec h3.sub q ht)
    exact freeR_mem h4 h5 hl
/-- What is listed, and what comes before in the text, is the same among those that wait or are waited for. -/
theorem Open.same (hO : Open T lo hi N ops A W us s0 b0) (hL : Closed A L) (hm : A[i]? = some m) (hi : L i = false) (hr : ∀ k, m.testBit k = true → L k = true) {k : Nat} (hk : k < ops.length) (hl : ¬ Loose A i m k) : ((fun _ => true) k && decide (k < i)) = L k := by
  obtain ⟨o, x, h1, h2, h3⟩ := hO.get hk
  by_cases e1 : k = i
  · subst e1; simp [hi]
  · cases h4 : m.testBit k with
    | true => simp [hO.below i m hm k h4, hr k h4]
    | false =>
      cases h5 : x.testBit i with
      | true =>
        have := hO.below k x h2 i h5
        have h6 : L k = false := by
          cases hLk : L k with
          | false => rfl
          | true => rw [hL k x h2 hLk i h5] at hi; simp at hi
        rw [h6]
        simp; omega
      | false => exact (hl ⟨e1, h4, fun y hy => by
          rw [h2] at hy
          simp only [Option.some.injEq] at hy
          subst hy
          exact h5⟩).elim
theorem Open.slot (hO : Open T lo hi N ops A W us s0 b0) (hL : Closed A L) (hm : A[i]? = some m) (hi' : i < ops.length) (hi : L i = false) (hr : ∀ k, m.testBit k = true → L k = true) {t : Tmp}
    (ht : ∀ k o, ops[k]? = some o → o.dst = some t → m.testBit k = true) : lookF (setS us s0 (fun _ => true) i).sl t = lookF (setS us s0 L ops.length).sl t := by
  rw [← setS_trunc (L := fun _ => true) (Nat.le_of_lt hi')]
  refine (slotV t).agree fun k hk htk => ?_
  obtain ⟨o, x, h1, h2, h3⟩ := hO.get hk
  have h4 := ht k o h1 (hO.dst h1 htk)
  exact hO.same hL hm hi hr hk fun hl => by rw [hl.2.1] at h4; simp at h4
theorem Open.root (hO : Open T lo hi N ops A W us s0 b0) (hL : Closed A L) (hm : A[i]? = some m) (hi' : i < ops.length) (hi : L i = false) (hr : ∀ k, m.testBit k = true → L k = true) {q : Nat}
    (hq : q ∉ freeR A i m W) : nthF (setS us s0 (fun _ => true) i).rs q = nthF (setS us s0 L ops.length).rs q := by
  rw [← setS_trunc (L := fun _ => true) (Nat.le_of_lt hi')]
  refine (rootV q).agree fun k hk htk => ?_
  exact hO.same hL hm hi hr hk fun hl => hq (hO.loose hm hk hl htk)
theorem ext_nthF {α : Type} {l l' : List α} (h : ∀ q, nthF l q = nthF l' q) : l = l' := List.ext_getElem? fun q => by rw [← nthF_get, ← nthF_get, h q]

/-- The state with one operation more. -/
theorem Open.more_rs (hO : Open T lo hi N ops A W us s0 b0) (hL : Closed A L) (ho : ops[i]? = some o) (hm : A[i]? = some m) (hi' : i < ops.length) (hi : L i = false) :
    (setS us s0 (more L i) ops.length).rs = ((us i).on (setS us s0 L ops.length)).rs ∧ ∀ t, lookF (setS us s0 (more L i) ops.length).sl t = lookF ((us i).on (setS us s0 L ops.length)).sl t := by
  refine ⟨ext_nthF fun q => ((rootV q).step hi' hi fun ht k h1 h2 h3 htk => ?_).symm, fun t => ((slotV t).step hi' hi fun ht k h1 h2 h3 htk => ?_).symm⟩
  · obtain ⟨o', x, h4, h5, h6⟩ := hO.get h2
    obtain ⟨m', h7, h8⟩ := hO.sec i o ho
    rw [hm] at h7
    simp only [Option.some.injEq] at h7
    subst h7
    have hl : Loose A i m k := by
      refine ⟨by omega, ?_, fun y hy => ?_⟩
      · cases hb : m.testBit k with
        | false => rfl
        | true => have := hO.below i m hm k hb; omega
      · cases hb : y.testBit i with
        | false => rfl
        | true => rw [hL k y hy h3 i hb] at hi; simp at hi
    rcases ht with ht | ht
    · exact barB_spec hm (evalU_al h8.ev ht) h5 hl
    · exact apartN_spec h8.apart q ht (hO.loose hm h2 hl htk)
  · obtain ⟨o', x, h4, h5, h6⟩ := hO.get h2
    have := hO.dist i k o o' t ho h4 (hO.dst ho ht) (hO.dst h4 htk)
    omega

theorem look_lookF : ∀ {sl : Slots} {t : Tmp} {d : D} {c : Cond}, look sl t = some (d, c) → lookF sl t = some d
  | [], t, d, c, h => by simp [look] at h
  | (k, x, c') :: sl, t, d, c, h => by
    rw [lookF_cons]
    simp only [look] at h
    split at h
    · rename_i hb
      simp only [Option.some.injEq, Prod.mk.injEq] at h
      rw [hb, h.1]
    · rename_i hb
      rw [hb]; exact look_lookF h
theorem look_nil : ∀ {sl : Slots} {t : Tmp} {d : D} {c : Cond}, NilS sl → look sl t = some (d, c) → c = []
  | [], t, d, c, _, h => by simp [look] at h
  | (k, x, c') :: sl, t, d, c, hn, h => by
    simp only [look] at h
    split at h
    · simp only [Option.some.injEq, Prod.mk.injEq] at h
      rw [← h.2]; exact hn _ (List.mem_cons_self ..)
    · exact look_nil (fun y hy => hn y (List.mem_cons_of_mem _ hy)) h
/-- Another list of the same slots. -/
theorem R.like (h : R T N av0 w0 sp s a w E) (hn : NilS s.sl) {s' : VS} (hn' : NilS s'.sl) (h1 : s'.rs = s.rs) (h2 : s'.df = s.df) (h3 : ∀ t, lookF s'.sl t = lookF s.sl t) : R T N av0 w0 sp s' a w E := by
  obtain ⟨sl', rs', df'⟩ := s'
  simp only at h1 h2
  subst h1 h2
  exact ⟨h.size, h.defers, h.spec, h.below, h.len, h.outer, h.roots, h.blk, h.inj, fun t d c hl => by
    have hc := look_nil hn' hl
    subst hc
    exact h.slots t d [] (lookF_look hn ((h3 t).symm.trans (look_lookF hl))), h.glob⟩

theorem wantF_cong {sl sl' : Slots} {g : Option (Nat × Bool)} (h : ∀ j b p t, g = some (j, b) → ops[j]? = some p → p.dst = some t → lookF sl t = lookF sl' t) : wantF ops sl g = wantF ops sl' g := by
  unfold wantF
  split
  · rfl
  · rename_i j b
    split
    · rename_i p hp
      rw [nthF_get] at hp
      split
      · rename_i t ht
        rw [h j b p t rfl hp ht]
      · rfl
    · rfl

theorem effR_writes {b : Nat} {rs : List Root} {d : Option D} {ws : List (Nat × Root)} (h : Shape b rs ws) (hb : b < rs.length) : effR (.wr d ws) rs = writes ws rs := by
  rcases h with ⟨x, rfl⟩ | ⟨q, x, rfl, hq⟩ | ⟨q, x, y, rfl⟩
  · show place b x rs = setAt rs b x
    rw [place_at x hb, setAt_eq]
  · show place q x rs = setAt rs q x
    rw [place_at x hq, setAt_eq]
  · show place b y (setAt rs q x) = setAt (setAt rs q x) b y
    rw [place_at y (by rw [setAt_eq]; simpa using hb), setAt_eq (setAt rs q x)]
theorem effR_all {rs : List Root} {d : Option D} {ws : List (Nat × Root)} (h : ∀ b, Shape b rs ws) : effR (.wr d ws) rs = writes ws rs := by
  have key : ∀ q x, ws = [(q, x)] → q < rs.length → effR (.wr d ws) rs = writes ws rs := fun q x e hq => by
    subst e
    show place q x rs = setAt rs q x
    rw [place_at x hq, setAt_eq]
  rcases h 0 with ⟨x, h0⟩ | ⟨q, x, h0, hq⟩ | ⟨q, x, y, h0⟩
  · rcases h 1 with ⟨x', h1⟩ | ⟨q', x', h1, hq⟩ | ⟨q', x', y', h1⟩
    · rw [h0] at h1; simp at h1
    · exact key _ _ h1 hq
    · rw [h0] at h1; simp at h1
  · exact key _ _ h0 hq
  · rcases h 1 with ⟨x', h1⟩ | ⟨q', x', h1, hq⟩ | ⟨q', x', y', h1⟩
    · rw [h0] at h1; simp at h1
    · exact key _ _ h1 hq
    · rw [h0] at h1; simp at h1

/-- A place that is a hole is dead. -/
theorem R.dead_of_hole (h : R T N av0 w0 sp s a w E) {r : Nat} (hE : E[r]? = some hole) : s.rs[r]? = some .dead := by
  have hr : r < s.rs.length := by rw [← h.len]; exact (List.getElem?_eq_some_iff.1 hE).1
  have hx := List.getElem?_eq_getElem hr
  rw [hx]
  have hrel := h.roots r _ _ hx hE
  generalize s.rs[r] = x at hrel
  cases x with
  | dead => rfl
  | box l => obtain ⟨b, _, _, h1, _⟩ := hrel; simp [hole] at h1
  | arr el sz n get =>
    obtain ⟨_, _, xs, h1, _⟩ := hrel
    rcases h1.2 with ⟨h2, _⟩ | ⟨g, cap, cur, h2, _⟩ <;> simp [hole, undef] at h2
  | row el sz n l =>
    obtain ⟨_, _, xs, h1, _⟩ := hrel
    rcases h1.2 with ⟨h2, _⟩ | ⟨g, cap, cur, h2, _⟩ <;> simp [hole, undef] at h2
  | set l => obtain ⟨b, _, _, h1, _⟩ := hrel; simp [hole] at h1
  | loop f M sl ps as bd st pend => obtain ⟨b, _, _, h1, _⟩ := hrel; simp [hole] at h1
  | dfr => obtain ⟨b, h1, _⟩ := hrel; simp [hole] at h1

/-- Of the places below b0 that are kept free all are still free. -/
structure KeptB (b0 : Nat) (E E' : Env) : Prop where
  le : Env.le E E'
  free : ∀ q : Nat, q < b0 → E[q]? = some hole → E'[q]? = some hole
theorem KeptB.trans {b0 : Nat} {E F G : Env} (h : KeptB b0 E F) (k : KeptB b0 F G) : KeptB b0 E G := ⟨h.le.trans k.le, fun q hq e => k.free q hq (h.free q hq e)⟩
theorem KeptB.refl (b0 : Nat) (E : Env) : KeptB b0 E E := ⟨Env.le_refl E, fun _ _ h => h⟩
/-- A call with the roots at hand doesn't mind the place of a row of its own. -/
theorem effO_all {b b' : Nat} {s : VS} {dst : Option Tmp} {op : Op} {d : D} {rs : List Root} (h : effO T lo hi b s dst op = some (.all d rs)) : effO T lo hi b' s dst op = some (.all d rs) := by
  by_cases hm : makesN op = 0
  · rw [effO_nomake hm (b' := b)]; exact h
  unfold effO at h ⊢
  split at h
  · simp at h
  · rename_i hl
    cases op with
    | call c =>
      have h : callO T lo hi b s c = _ := h
      show callO T lo hi b' s c = _
      unfold callO at h ⊢
      split at h
      · exfalso
        have fin : ∀ {el sz k : Nat} {l' : List C} {by' : Nat} {c : C}, apd el sz k l' by' b s.rs c ≠ some (.all d rs) := by
          intro el sz k l' by' c q
          unfold apd at q
          split at q
          · split at q
            · simp at q
            · replace q := (Bool.rec_some q).2; simp at q
          · split at q
            · replace q := (Bool.rec_some q).2
              replace q := (Bool.rec_some q).2
              simp at q
            · simp at q
          · simp at q
        unfold appF at h
        split at h
        case h_2 => simp at h
        replace h := (Bool.rec_some h).2
        split at h
        case h_2 => simp at h
        unfold apdF at h
        split at h
        case h_2 => simp at h
        split at h
        case h_2 => simp at h
        split at h
        case h_2 => simp at h
        split at h
        case h_2 => simp at h
        split at h
        · exact fin (Bool.rec_some h).2
        · exact fin (Bool.rec_some h).2
      · unfold valueF at h ⊢
        split at h
        case h_2 => simp at h
        split at h
        · exact h
        · split at h
          case h_2 => simp at h
          unfold callF at h ⊢
          split at h
          · exact h
          · exact h
          · exfalso
            unfold ocallF at h
            split at h
            · simp at h
            · revert h
              generalize plainC _ = p
              intro h
              cases p with
              | true => simp at h
              | false =>
                rcases coldF_some h with ⟨l, hl⟩ | ⟨hl, _⟩
                · cases hl
                · cases hl
            · simp at h
          · exact h
      · simp at h
    | box t x =>
      have h : boxF b s x = _ := h
      unfold boxF at h
      split at h <;> (try split at h) <;> simp at h
    | alloc t =>
      have h : allocF T b t = _ := h
      unfold allocF at h
      split at h <;> (try split at h) <;> simp at h
    | makeMap t r =>
      have h : mkmapF T b t r = _ := h
      unfold mkmapF at h
      split at h <;> simp at h
    | makeSlice t l c =>
      have h : mkslF T b s t l c = _ := h
      unfold mkslF at h
      split at h
      case h_2 => simp at h
      split at h
      case h_2 => simp at h
      split at h
      case h_2 => simp at h
      split at h
      case h_2 => simp at h
      replace h := (Bool.rec_some h).2
      simp at h
    | buildSlice t n ps =>
      have h : bsF T b s t n ps.toList = _ := h
      unfold bsF at h
      split at h
      case h_2 => simp at h
      split at h
      case h_2 => simp at h
      split at h
      case h_2 => simp at h
      split at h
      case h_2 => simp at h
      replace h := (Bool.rec_some h).2
      simp at h
    | _ => exact (hm rfl).elim
def Holes (ops : List Oper) (b0 : Nat) (L : Nat → Bool) (E : Env) : Prop := ∀ j o, ops[j]? = some o → L j = false → makesN o.op ≠ 0 → E[b0 + holesN (ops.take j)]? = some hole
theorem holesN_append (l m : List Oper) : holesN (l ++ m) = holesN l + holesN m := by
  induction l with
  | nil => show holesN m = 0 + holesN m; omega
  | cons o l ih =>
    show makesN o.op + holesN (l ++ m) = (makesN o.op + holesN l) + holesN m
    rw [ih]; omega
theorem holesN_take_succ {ops : List Oper} {j : Nat} {o : Oper} (h : ops[j]? = some o) : holesN (ops.take (j + 1)) = holesN (ops.take j) + makesN o.op := by
  rw [List.take_add_one, h, holesN_append]
  show holesN (ops.take j) + (makesN o.op + 0) = _
  omega
theorem holesN_take_le (ops : List Oper) {j k : Nat} (h : j ≤ k) : holesN (ops.take j) ≤ holesN (ops.take k) := by
  have h1 := List.take_append_drop j (ops.take k)
  rw [List.take_take, Nat.min_eq_left h] at h1
  rw [← h1, holesN_append]
  omega
theorem makesN_le (op : Op) : makesN op ≤ 1 := by
  cases op with
  | call c =>
    show makesC c.callee ≤ 1
    unfold makesC; split <;> omega
  | _ => simp [makesN]
theorem holesN_ne {j k : Nat} {o o' : Oper} (hj : ops[j]? = some o) (hk : ops[k]? = some o') (h1 : makesN o.op ≠ 0) (h2 : makesN o'.op ≠ 0) (hne : j ≠ k) : holesN (ops.take j) ≠ holesN (ops.take k) := by
  rcases Nat.lt_or_ge j k with h | h
  · have := holesN_take_le ops (j := j + 1) (k := k) h
    rw [holesN_take_succ hj] at this
    omega
  · have := holesN_take_le ops (j := k + 1) (k := j) (by omega)
    rw [holesN_take_succ hk] at this
    omega

theorem stepF_on {s : VS} {dst : Option Tmp} {e : Eff} {u : Upd} (hd : u.dst = dst) (hok : okT N u.dst u.val = true) (hv : u.val = effD e) (hnc : ∀ l, e ≠ .cold l) (hrs : effR e s.rs = writes u.ws (allR u.al s.rs)) : stepF N s dst e = some (u.on s) := by
  subst hd
  have key : ∀ (d : D) (s1 : VS), u.val = some d → s1 = { s with rs := writes u.ws (allR u.al s.rs) } → putF N s1 u.dst d = some (u.on s) := fun d s1 hv hs => by
    subst hs
    unfold Upd.on putF putU
    unfold okT at hok
    cases hdst : u.dst with
    | none => rfl
    | some t =>
      rw [hdst, hv] at hok
      simp only [hv, show Nat.blt t N = true from hok]
  cases e with
  | val d =>
    refine key d s hv ?_
    obtain ⟨sl, rs, df⟩ := s
    have : rs = _ := hrs
    simp only at this ⊢
    rw [← this]
  | wr d ws =>
    show putOF N _ u.dst d = _
    have hv : u.val = d := hv
    cases d with
    | some d => exact key d _ hv (by rw [← hrs])
    | none =>
      unfold okT at hok
      unfold Upd.on putU putOF
      cases hdst : u.dst with
      | none => simp only [← hrs]
      | some t => rw [hdst, hv] at hok; simp at hok
  | all d rs => exact key d _ hv (by rw [← hrs]; rfl)
  | cold l => exact (hnc l rfl).elim

/-- One operation of a statement whose order is open. -/
theorem Open.op {ops : Array Oper} (hO : Open T lo hi N ops.toList A W us s0 b0) (hty : TyOK P T) (hlo : LoOK T P lo) (hL : Closed A L) (ho : ops[i]? = some o) (hm : A[i]? = some m) (hLi : L i = false) (hr : ∀ k, m.testBit k = true → L k = true)
    (h : R T N av0 w0 sp (setS us s0 L ops.size) a w E) (hn : NilS s0.sl) (hh : Holes ops.toList b0 L E) {Q : Exit → Act → World → Prop} {K : Act → World → Prop}
    (hK : ∀ a' w' E', KeptB b0 E E' → R T N av0 w0 sp (setS us s0 (more L i) ops.size) a' w' E' → Holes ops.toList b0 (more L i) E' → K a' w') : wpOpIn (Fr ρ) 0 P ops Q i K a w := by
  have hlen : ops.toList.length = ops.size := by simp
  have ho' : ops.toList[i]? = some o := by simpa using ho
  have hi' : i < ops.toList.length := (List.getElem?_eq_some_iff.1 ho').1
  obtain ⟨m', h1, hs⟩ := hO.sec i o ho'
  rw [hm] at h1
  simp only [Option.some.injEq] at h1
  subst h1
  have hord := hO.order i o m ho' hm
  let S := setS us s0 L ops.size
  have hnS : NilS S.sl := setS_nil hn _
  have slot : ∀ {t : Tmp}, (∀ k o, ops.toList[k]? = some o → o.dst = some t → m.testBit k = true) → lookF (setS us s0 (fun _ => true) i).sl t = lookF S.sl t := fun ht => by
    have := hO.slot hL hm hi' hLi hr ht
    rw [hlen] at this
    exact this
  have hfin : ∀ {a' w' E'}, KeptB b0 E E' → R T N av0 w0 sp ((us i).on S) a' w' E' → Holes ops.toList b0 (more L i) E' → K a' w' := fun {a' w' E'} hkb hR hH => by
    obtain ⟨q1, q2⟩ := hO.more_rs hL ho' hm hi' hLi
    rw [hlen] at q1 q2
    exact hK _ _ _ hkb (hR.like (Upd.on_nil _ hnS) (setS_nil hn _) q1 (by rw [Upd.on_df, setS_df, setS_df]) q2) hH
  have hwant : ∀ {b : Bool}, wantF ops.toList (hid (freeR A i m W) (setS us s0 (fun _ => true) i)).sl o.guard = some b → Region.wanted o (yielded ops a.tmps) = b := fun {b} hw => by
    rw [hid_eq] at hw
    refine wantF_spec h hnS (b := b) ?_
    rw [← hw]
    refine (wantF_cong fun j b p t hg hp ht => ?_).symm
    refine slot fun k o1 hk hk' => ?_
    have := hO.dist j k p o1 t hp hk ht hk'
    subst this
    have := hord.1
    rw [hg] at this
    exact this
  unfold wpOpIn
  rw [ho]
  simp only
  rcases evalU_inv hs.ev with ⟨hw, hu⟩ | ⟨hw, e, he, hnc, hdst, hcase⟩
  · rw [if_neg (by rw [hwant hw]; simp)]
    refine ⟨fun _ _ => trivial, ?_⟩
    have hst : putF N S o.dst (.t []) = some ((us i).on S) := by
      have hok := hs.ok
      rw [hu] at hok ⊢
      unfold putF Upd.on putU
      unfold okT at hok
      cases hd : o.dst with
      | none => rfl
      | some t =>
        rw [hd] at hok
        simp only at hok
        simp only [hok]
        rfl
    obtain ⟨h2, h3⟩ := putF_R h hnS hst undef_rel
    refine hfin (KeptB.refl _ _) h2 fun j oj hj hLj hmk => ?_
    by_cases hji : j = i
    · subst hji; rw [more_self] at hLj; simp at hLj
    · rw [more_ne hji] at hLj; exact hh j oj hj hLj hmk
  · rw [if_pos (hwant hw)]
    rw [hid_eq] at he
    have hops : ∀ x ∈ o.op.operands.toList, evF (setS us s0 (fun _ => true) i).sl x = evF S.sl x := fun x hx => by
      cases x with
      | tmp t =>
        refine slot fun k o1 hk hk' => ?_
        have := readB_spec hord.2 t hx
        unfold readT at this
        split at this
        · rename_i j hj
          obtain ⟨j', o2, h4, h5, h6⟩ := dstAt_some hj
          have := hO.dist j' k o2 o1 t h5 hk h6 hk'
          subst this
          rw [Nat.zero_add] at h4
          subst h4
          assumption
        · rename_i hj
          exact (dstAt_none hj k o1 hk hk').elim
      | _ => rfl
    have hrle : RLe (hides (freeR A i m W) (setS us s0 (fun _ => true) i).rs) S.rs := fun q x hq hx => by
      obtain ⟨h4, h5⟩ := hides_nth _ _ hq hx
      have := hO.root hL hm hi' hLi hr h4
      rw [hlen] at this
      rw [← this]; exact h5
    have hall : ∀ d r, e = .all d r → hides (freeR A i m W) (setS us s0 (fun _ => true) i).rs = S.rs := fun d r hd => by
      have hnil : freeR A i m W = [] := by
        rcases hcase with ⟨_, h4, _⟩ | ⟨_, _, h4, _⟩ | ⟨_, _, _, _, _, _, h4⟩ | ⟨_, _, _, _, _, _, h4, _⟩
        · rw [hd] at h4; cases h4
        · rw [hd] at h4; cases h4
        · exact freeR_nil fun x hx => by
            obtain ⟨_, y, _, h5, _⟩ := hO.get (hO.keys x hx)
            exact barB_spec hm h4 h5
        · have := hs.ex
          rw [h4] at this
          unfold exB at this
          simp only at this
          split at this
          · assumption
          · simp at this
      rw [hnil]
      refine ext_nthF fun q => ?_
      have := hO.root hL hm hi' hLi hr (q := q) (by rw [hnil]; simp)
      rw [hlen] at this
      exact this
    have heS : effO T lo hi (b0 + holesN (ops.toList.take i)) S o.dst o.op = some e := effO_frame (df' := S.df) hrle hops hnc hall he
    by_cases hc4 : ∃ d rs, e = .all d rs ∧ (us i).val = some d ∧ diffW S.rs.length S.rs rs 0 = some (us i).ws ∧ (us i).al = none ∧ lowD S.rs.length d = true
    · obtain ⟨d, rs', h4, h5, h6, h7, h8⟩ := hc4
      subst h4
      have he' := effO_all (b' := S.rs.length) heS
      rcases effO_sound hty hlo h hnS (.inr rfl) he' (next := K) (fun v w' E' ha => by
        obtain ⟨g1, g2, g3⟩ := ha
        have hk := Kept.of_grew g1 (Nat.le_of_eq h.len)
        obtain ⟨k1, k2⟩ := R.trim (sl := S.sl) (df := S.df) h g2 hk h6 h8 (g3 d rfl)
        have hst : putF N { S with rs := writes (us i).ws S.rs } o.dst d = some ((us i).on S) := by
          have hok := hs.ok
          rw [← hdst]
          unfold Upd.on putF putU allR
          unfold okT at hok
          rw [h7, h5]
          cases hdst' : (us i).dst with
          | none => rfl
          | some t =>
            rw [hdst', h5] at hok
            simp only [show Nat.blt t N = true from hok]
        obtain ⟨k3, k4⟩ := putF_R k1 hnS hst k2
        refine hfin (KeptB.refl _ _) k3 fun j oj hj hLj hmk => ?_
        by_cases hji : j = i
        · subst hji; rw [more_self] at hLj; simp at hLj
        · rw [more_ne hji] at hLj; exact hh j oj hj hLj hmk) with ⟨l, hl⟩ | h3
      · exact (hnc l hl).elim
      · exact h3.wpIn
    have hcase : (∃ d, e = .val d ∧ (us i).val = some d ∧ (us i).ws = [] ∧ (us i).al = none) ∨ (∃ d ws, e = .wr d ws ∧ (us i).val = d ∧ (us i).ws = ws ∧ (us i).al = none) ∨ (∃ d rs, e = .all d rs ∧ (us i).val = some d ∧ (us i).ws = [] ∧ (us i).al = some rs ∧ barB A i = true) := by
      rcases hcase with q | q | q | ⟨d, rs, q1, q2, q3, q4, q5, q6⟩
      · exact .inl q
      · exact .inr (.inl q)
      · exact .inr (.inr q)
      · refine (hc4 ⟨d, rs, q1, q2, ?_, q4, ?_⟩).elim
        · have q7 := hall d rs q1
          rw [hid_eq] at q3
          simp only at q3
          rw [q7] at q3
          exact q3
        · have q7 := hall d rs q1
          rw [hid_eq] at q6
          simp only at q6
          rw [q7] at q6
          exact q6
    have hbr : ∃ b, effO T lo hi b S o.dst o.op = some e ∧ Free S E b ∧ effR e S.rs = writes (us i).ws (allR (us i).al S.rs) ∧ (∀ E', Grew b E E' → Holes ops.toList b0 (more L i) E') ∧ (∀ E', Grew b E E' → KeptB b0 E E') := by
      by_cases hmk : makesN o.op = 0
      · refine ⟨S.rs.length, by rw [effO_nomake hmk (b' := b0 + holesN (ops.toList.take i))]; exact heS, .inr rfl, ?_, fun E' hg j oj hj hLj hmkj => ?_, fun E' hg => ⟨hg.le, fun q hq e => hg.free q (fun e' => by
          have := (List.getElem?_eq_some_iff.1 e).1
          rw [h.len] at this
          exact Nat.lt_irrefl _ (e' ▸ this)) e⟩⟩
        · rcases hcase with ⟨d, h4, _, h5, h6⟩ | ⟨d, ws, h4, _, h5, h6⟩ | ⟨d, rs, h4, _, h5, h6, _⟩
          · rw [h4, h5, h6]; rfl
          · rw [h4, h5, h6]
            refine effR_all fun b => effO_shape (T := T) (lo := lo) (hi := hi) (dst := o.dst) (op := o.op) (d := d) (s := S) ?_
            rw [effO_nomake hmk (b' := b0 + holesN (ops.toList.take i)), heS, h4]
          · rw [h4, h5, h6]; rfl
        · by_cases hji : j = i
          · subst hji; rw [more_self] at hLj; simp at hLj
          · rw [more_ne hji] at hLj
            have h7 := hh j oj hj hLj hmkj
            refine hg.free _ ?_ h7
            have := (List.getElem?_eq_some_iff.1 h7).1
            rw [h.len] at this
            exact Nat.ne_of_lt this
      · have h7 := hh i o ho' hLi hmk
        have hlt : b0 + holesN (ops.toList.take i) < S.rs.length := by
          have := (List.getElem?_eq_some_iff.1 h7).1
          rw [h.len] at this
          exact this
        refine ⟨_, heS, .inl ⟨h.dead_of_hole h7, h7⟩, ?_, fun E' hg j oj hj hLj hmkj => ?_, fun E' hg => ⟨hg.le, fun q hq e => hg.free q (by omega) e⟩⟩
        · rcases hcase with ⟨d, h4, _, h5, h6⟩ | ⟨d, ws, h4, _, h5, h6⟩ | ⟨d, rs, h4, _, h5, h6, _⟩
          · rw [h4, h5, h6]; rfl
          · rw [h4, h5, h6]
            rw [h4] at heS
            exact effR_writes (effO_shape heS) hlt
          · rw [h4, h5, h6]; rfl
        · by_cases hji : j = i
          · subst hji; rw [more_self] at hLj; simp at hLj
          · rw [more_ne hji] at hLj
            have h8 := hh j oj hj hLj hmkj
            refine hg.free _ ?_ h8
            have := holesN_ne hj ho' hmkj hmk hji
            omega
    obtain ⟨b, hb1, hb2, hb3, hb4, hb5⟩ := hbr
    have hval : (us i).val = effD e := by
      rcases hcase with ⟨d, h4, h5, _⟩ | ⟨d, ws, h4, h5, _⟩ | ⟨d, rs, h4, h5, _⟩ <;> rw [h4, h5] <;> rfl
    have hst := stepF_on hdst hs.ok hval hnc hb3
    have hd := effO_dst hb1
    rcases effO_sound hty hlo h hnS hb2 hb1 (next := K) (fun v w' E' ha => by
      obtain ⟨h3, h4⟩ := stepF_R hnS hst ha (fun q => by
        rcases hd with ⟨l, hl⟩ | hd | hd
        · exact (hnc l hl).elim
        · exact (hd q).elim
        · exact hd)
      exact hfin (hb5 _ ha.1) h3 (hb4 _ ha.1)) with ⟨l, hl⟩ | h3
    · exact (hnc l hl).elim
    · exact h3.wpIn
end

/-! All orders. -/
def unl : List Bool → Nat
  | [] => 0
  | true :: l => unl l
  | false :: l => unl l + 1
theorem unl_set : ∀ {l : List Bool} {i : Nat}, l[i]? = some false → unl (l.set i true) + 1 = unl l
  | [], i, h => by simp at h
  | b :: l, 0, h => by
    simp at h; subst h; rfl
  | b :: l, i + 1, h => by
    have ih := unl_set (l := l) (i := i) (by simpa using h)
    cases b with
    | true => exact ih
    | false => simp only [List.set_cons_succ, unl]; omega
theorem unl_zero : ∀ {l : List Bool}, unl l = 0 → ∀ (i : Nat), l[i]? ≠ some false
  | [], _, i => by simp
  | true :: l, h, i => by
    cases i with
    | zero => simp
    | succ i => simpa using unl_zero (l := l) h i
  | false :: l, h, i => by simp [unl] at h
theorem unl_replicate : ∀ n, unl (List.replicate n false) = n
  | 0 => rfl
  | n + 1 => by rw [List.replicate_succ]; simp only [unl]; rw [unl_replicate n]

section
variable {ops : Array Oper} {A : List Nat} {W : List (Nat × List Nat)} {us : Nat → Upd} {s0 : VS} {b0 : Nat}

theorem ready_mem {listed : Array Bool} {i : Nat} (h : i ∈ Region.ready .any ops listed) : i < ops.size ∧ listed.getD i true = false ∧ ∃ o, ops[i]? = some o ∧ ∀ e ∈ o.after.toList, Region.binds .any e = true → listed.getD e.on false = true := by
  unfold Region.ready at h
  rw [List.mem_filter, List.mem_range, Bool.and_eq_true] at h
  obtain ⟨h1, h2, h3⟩ := h
  refine ⟨h1, by simpa using h2, ?_⟩
  rw [Array.getElem?_eq_getElem h1] at h3 ⊢
  refine ⟨_, rfl, fun e he hb => ?_⟩
  simp only [Option.map_some, Option.getD_some] at h3
  rw [← Array.all_toList, List.all_eq_true] at h3
  have := h3 e he
  simpa [hb] using this
theorem ready_all {listed : Array Bool} (hO : Open T lo hi N ops.toList A W us s0 b0) (hsz : listed.size = ops.size) (h : Region.ready .any ops listed = []) : ∀ k, k < ops.size → listed.getD k false = true := by
  intro k
  induction k using Nat.strongRecOn with
  | _ k ih =>
    intro hk
    cases hL : listed.getD k false with
    | true => rfl
    | false =>
      have hk' : k < listed.size := by omega
      have hget : listed[k] = false := by simpa [Array.getD, hk'] using hL
      have : k ∈ Region.ready .any ops listed := by
        unfold Region.ready
        rw [List.mem_filter, List.mem_range, Bool.and_eq_true]
        refine ⟨hk, by simp [Array.getD, hk', hget], ?_⟩
        rw [Array.getElem?_eq_getElem hk]
        simp only [Option.map_some, Option.getD_some]
        rw [← Array.all_toList, List.all_eq_true]
        intro e he
        cases hb : Region.binds .any e with
        | false => rfl
        | true =>
          have ho : ops.toList[k]? = some ops[k] := by simp [hk]
          obtain ⟨m, hm, _⟩ := hO.sec k _ ho
          have hbit : m.testBit e.on = true := (hO.anc.bits k _ m ho hm e.on).2 ⟨e, he, hb, .inl rfl⟩
          have hlt := hO.below k m hm e.on hbit
          simp only [Bool.not_true, Bool.false_or]
          exact ih e.on hlt (by omega)
      rw [h] at this
      simp at this

theorem Open.run (hO : Open T lo hi N ops.toList A W us s0 b0) (hty : TyOK P T) (hlo : LoOK T P lo) (hn : NilS s0.sl) {Q : Exit → Act → World → Prop}
    {E0 : Env} (hQ : ∀ a' w' E', KeptB b0 E0 E' → R T N av0 w0 sp (setS us s0 (fun _ => true) ops.size) a' w' E' → Q .normal a' w') :
    ∀ (fuel : Nat) (listed : Array Bool) (a : Act) (w : World) (E : Env), KeptB b0 E0 E → listed.size = ops.size → Closed A (fun k => listed.getD k false) → R T N av0 w0 sp (setS us s0 (fun k => listed.getD k false) ops.size) a w E →
      Holes ops.toList b0 (fun k => listed.getD k false) E → unl listed.toList ≤ fuel → wpAnyIn (Fr ρ) 0 P .any ops Q fuel listed a w
  | fuel, listed, a, w, E, hkb, hsz, hC, h, hh, hu => by
    have hend : Region.ready .any ops listed = [] → Q .normal a w := fun hr => by
      have hall := ready_all hO hsz hr
      rw [setS_congr (L' := fun _ => true) fun k hk => hall k hk] at h
      exact hQ _ _ _ hkb h
    cases fuel with
    | zero =>
      refine ⟨?_, ?_⟩
      · cases hr : Region.ready .any ops listed with
        | nil => rfl
        | cons i l =>
          obtain ⟨h1, h2, _⟩ := ready_mem (show i ∈ Region.ready .any ops listed by rw [hr]; simp)
          have hi' : i < listed.size := by omega
          refine (unl_zero (l := listed.toList) (by omega) i ?_).elim
          simp [Array.getD, hi'] at h2
          simp [hi', h2]
      · refine hend ?_
        cases hr : Region.ready .any ops listed with
        | nil => rfl
        | cons i l =>
          obtain ⟨h1, h2, _⟩ := ready_mem (show i ∈ Region.ready .any ops listed by rw [hr]; simp)
          have hi' : i < listed.size := by omega
          refine (unl_zero (l := listed.toList) (by omega) i ?_).elim
          simp [Array.getD, hi'] at h2
          simp [hi', h2]
    | succ fuel =>
      refine ⟨hend, fun i hi => ?_⟩
      obtain ⟨h1, h2, o, ho, hdep⟩ := ready_mem hi
      have hi' : i < listed.size := by omega
      have hget : listed[i] = false := by simpa [Array.getD, hi'] using h2
      have ho' : ops.toList[i]? = some o := by simpa using ho
      obtain ⟨m, hm, _⟩ := hO.sec i o ho'
      have hLi : listed.getD i false = false := by simp [Array.getD, hi', hget]
      have hr : ∀ k, m.testBit k = true → listed.getD k false = true := fun k hk => by
        obtain ⟨e, he, hb, h3⟩ := (hO.anc.bits i o m ho' hm k).1 hk
        have h4 := hdep e he hb
        rcases h3 with rfl | ⟨x, hx, hxk⟩
        · exact h4
        · rw [List.getElem?_take] at hx
          split at hx
          · exact hC e.on x hx h4 k hxk
          · simp at hx
      have hmore : ∀ k, (listed.setIfInBounds i true).getD k false = more (fun k => listed.getD k false) i k := fun k => by
        by_cases hk : k = i
        · subst hk; rw [more_self]; simp [Array.getD, hi']
        · rw [more_ne hk]
          simp only [Array.getD, Array.size_setIfInBounds]
          split
          · rename_i hks
            simp only [Array.getInternal_eq_getElem]
            rw [Array.getElem_setIfInBounds, if_neg (fun e => hk e.symm)]
          · rfl
      refine hO.op (L := fun k => listed.getD k false) hty hlo hC ho hm hLi hr h hn hh fun a' w' E' hkb' hR hH => ?_
      refine Open.run hO hty hlo hn hQ fuel (listed.setIfInBounds i true) a' w' E' (hkb.trans hkb') (by simpa using hsz) ?_ ?_ ?_ ?_
      · intro j x hx hj k hk
        simp only [hmore] at hj ⊢
        by_cases hji : j = i
        · subst hji
          rw [hm] at hx
          simp only [Option.some.injEq] at hx
          subst hx
          have := hr k hk
          by_cases hki : k = j
          · subst hki; exact more_self _
          · rw [more_ne hki]; exact this
        · rw [more_ne hji] at hj
          by_cases hki : k = i
          · subst hki; exact more_self _
          · rw [more_ne hki]; exact hC j x hx hj k hk
      · rw [setS_congr fun k _ => hmore k]; exact hR
      · intro j oj hj hLj
        simp only [hmore] at hLj
        exact hH j oj hj hLj
      · have := unl_set (l := listed.toList) (i := i) (by simp [hi', hget])
        rw [Array.toList_setIfInBounds]
        omega
end

/-- The executor's statement of open order. -/
theorem drawF_sound (hty : TyOK P T) (hlo : LoOK T P lo) {ops : Array Oper} (hst : staticB ops.toList = true) {sF : VS} {Q : Exit → Act → World → Prop} (hQ : ∀ a' w' E', Kept E E' → R T N av0 w0 sp sF a' w' E' → NilS sF.sl → Q .normal a' w') :
    ∀ (n : Nat) {s : VS}, drawF T lo hi N ops.toList n s = some sF → R T N av0 w0 sp s a w E → NilS s.sl → wpAnyIn (Fr ρ) 0 P .any ops Q ops.size (Array.replicate ops.size false) a w
  | 0, s, e, h, hn => by
    have e : (none : Option VS) = some sF := e
    simp at e
  | n + 1, s, e, h, hn => by
    have e : (match firstF T lo hi N (ancsM ops.toList []) ops.toList ops.toList 0 s.rs.length [] (startF ops.toList s) with
      | some (.cold l) => match freezes l s with
        | some s' => drawF T lo hi N ops.toList n s'
        | none => none
      | some (.ok W s') => drawW T lo hi N ops.toList (startF ops.toList s) s' s.rs.length W
      | none => none) = some sF := e
    split at e
    · split at e
      case h_2 => simp at e
      rename_i s' hs'
      obtain ⟨h1, h2⟩ := h.freezes hs'
      exact drawF_sound hty hlo hst hQ n e h1 (h2 hn)
    · rename_i W s' hf
      have hlen : ops.toList.length = ops.size := by simp
      have hanc := anc_of ops.toList
      have hsec : ∃ W, (∀ x ∈ W, x.1 < ops.toList.length) ∧ secondF T lo hi N ops.toList (ancsM ops.toList []) W ops.toList (ancsM ops.toList []) 0 s.rs.length (startF ops.toList s) = some sF := by
        unfold drawW at e
        split at e
        · simp only [Option.some.injEq] at e
          subst e
          exact ⟨[], fun x hx => by simp at hx, (firstF_second hf).2 _ hanc.len⟩
        · exact ⟨_, fun x hx => by have := firstF_keys hf (fun x hx => by simp at hx) x hx; omega, e⟩
      obtain ⟨W, hkeys, hsec⟩ := hsec
      obtain ⟨us, h1, h2⟩ := secondF_spec hsec
      unfold staticB at hst
      simp only [Bool.and_eq_true] at hst
      have hO : Open T lo hi N ops.toList (ancsM ops.toList []) W us (startF ops.toList s) s.rs.length := {
        anc := hanc
        below := fun i m hm j hj => by have := belowB_spec hst.2.2 i m hm j hj; omega
        order := fun i o m ho hm => orderB_spec hst.2.1 i o m ho hm
        dist := distB_spec hst.1
        keys := hkeys
        sec := fun k o hk => by
          obtain ⟨m, h3, h4⟩ := h2 k o hk
          rw [Nat.zero_add] at h4
          exact ⟨m, h3, h4⟩ }
      have hR := h.holes (holesN ops.toList)
      have hnil : NilS (startF ops.toList s).sl := hn
      rw [hlen] at h1
      have hget0 : ∀ k, (Array.replicate ops.size false).getD k false = false := fun k => by simp [Array.getD]
      have hS0 : setS us (startF ops.toList s) (fun k => (Array.replicate ops.size false).getD k false) ops.size = startF ops.toList s := by
        rw [setS_congr (L' := fun _ => false) fun k _ => hget0 k]
        have : ∀ n, setS us (startF ops.toList s) (fun _ => false) n = startF ops.toList s := by
          intro n
          induction n with
          | zero => rfl
          | succ n ih => simp only [setS]; exact ih
        exact this _
      refine Open.run hO hty hlo hnil (E0 := E) (fun a' w' E' hkb hR' => hQ a' w' E' ⟨hkb.le, fun q e => hkb.free q (by rw [← h.len]; exact (List.getElem?_eq_some_iff.1 e).1) e⟩ (by rw [h1]; exact hR') (by rw [h1]; exact setS_nil hnil _)) ops.size _ a w (E ++ List.replicate (holesN ops.toList) hole)
        ⟨Env.le_append _ _, fun q _ e => by rw [List.getElem?_append_left (List.getElem?_eq_some_iff.1 e).1]; exact e⟩ (by simp) ?_ ?_ ?_ ?_
      · intro j m _ hj
        simp only [hget0] at hj
        simp at hj
      · rw [hS0]; exact hR
      · intro j o hj _ hmk
        rw [← h.len, List.getElem?_append_right (by omega), List.getElem?_replicate, if_pos]
        have h5 := holesN_take_succ hj
        have h6 := holesN_take_le ops.toList (j := j + 1) (k := ops.toList.length) (List.getElem?_eq_some_iff.1 hj).1
        rw [List.take_length] at h6
        omega
      · rw [Array.toList_replicate, unl_replicate]; exact Nat.le_refl _
    · simp at e

theorem draw_run (hty : TyOK P T) (hl : LoOK T P lo) (hmo : P.follows .mixedOrders = true) (h : R T N av0 w0 sp s a w E) (hn : NilS s.sl) {f : FuncId} {ro : Option Nat} {id : Nat} {ops : Array Oper} {s' : VS} (e : regionF T lo hi N f ro id ops.toList true s = some s')
    {b : Frame} {k : List Item} {cs : List Frame} : ∃ a' w' E', Kept E E' ∧ R T N av0 w0 sp s' a' w' E' ∧ NilS s'.sl ∧ Steps P (lone (b.atR a (.code (.region id ops true) :: k)) cs w) (lone (b.atR a' k) cs w') := by
  unfold regionF at e
  simp only at e
  split at e
  · simp at e
  split at e
  case h_2 => simp at e
  rename_i hst
  split at e
  case h_2 => simp at e
  rename_i s1 hs1
  simp only [Option.some.injEq] at e
  subst e
  have hg : R T N av0 w0 sp s a { w with drawn := w.drawn + 1 } E := h.grown ⟨rfl, rfl, rfl, Nat.le_refl _, fun _ _ => rfl⟩
  have hw := drawF_sound (ρ := b.roundOf) (Q := fun en a' w' => en = .normal ∧ ∃ E', Kept E E' ∧ R T N av0 w0 sp s1 a' w' E' ∧ NilS s1.sl) hty hl hst (fun a' w' E' hk h1 h2 => ⟨rfl, E', hk, h1, h2⟩) 8 hs1 hg hn
  obtain ⟨en, a', w', ⟨rfl, E', hk, h1, h2⟩, harr⟩ := wpIn_region_any (id := id) hmo hw b k cs rfl trivial (room_Fr _ _)
  obtain ⟨h3, h4⟩ := tidyF_R (hi := hi) h1 h2 f id
  exact ⟨a', w', E', hk, h3, h4, StepsIn.steps harr⟩
end
end Go.V
