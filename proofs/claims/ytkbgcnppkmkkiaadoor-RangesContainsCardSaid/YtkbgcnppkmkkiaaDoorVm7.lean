/- Operations that make or write the frame's own memory. -/
import Derived.Test.YtkbgcnppkmkkiaaDoorVm6
set_option linter.unusedVariables false
namespace Go.V
open Go.RowKit
section
variable {P : Program} {T : Tab} {N : Nat} {av0 : Nat → Prop} {w0 : World} {sp : List (D × Value)} {s : VS} {a : Act} {w : World} {E : Env}

theorem All2.of_get {α β : Type} {Rr : α → β → Prop} : ∀ {l : List α} {m : List β}, l.length = m.length → (∀ (i : Nat) (x : α) (y : β), l[i]? = some x → m[i]? = some y → Rr x y) → All2 Rr l m
  | [], [], _, _ => .nil
  | [], _ :: _, h, _ => by simp at h
  | _ :: _, [], h, _ => by simp at h
  | x :: l, y :: m, h, k => .cons (k 0 x y rfl rfl) (All2.of_get (by simpa using h) fun i x y h1 h2 => k (i + 1) x y (by simpa using h1) (by simpa using h2))
theorem All2.get {α β : Type} {Rr : α → β → Prop} {l : List α} {m : List β} (h : All2 Rr l m) {i : Nat} {x : α} {y : β} (h1 : l[i]? = some x) (h2 : m[i]? = some y) : Rr x y := by
  obtain ⟨y', h3, h4⟩ := h.nth (by rw [nth_eq]; exact h1)
  rw [h2] at h3
  cases h3
  exact h4
theorem All2.all_one {E : Env} {av : Nat → Prop} {w : World} {l : List C} {m : List Value} (h : All2 (CRel E av w) l m) : ∀ v ∈ m, v.oneCell' = true := by
  induction h with
  | nil => intro v hv; cases hv
  | cons q _ ih =>
    intro v hv
    cases hv with
    | head => exact CRel.one q
    | tail _ hv => exact ih v hv

theorem below_alloc (w : World) (o : Obj) : Below w.heap.size w (w.alloc o) := (Below.refl _ _).alloc (Nat.le_refl _) o

/-- The blocks that may turn, below the memory's end, when a root with a new block has come. -/
theorem R.av_new (h : R T N av0 w0 sp s a w E) {x : Root} {hd : Value} {sz : Nat} : ∀ b, b < w.heap.size → AV av0 (s.rs ++ [x]) (E ++ [(some w.heap.size, hd, sz)]) b → AV av0 s.rs E b := by
  refine AV_mono fun r y b sz' h1 h2 h3 h4 => ?_
  rcases atRoot_append h3 with h5 | ⟨h5, h6, _⟩
  · obtain ⟨hh, h5⟩ := h5
    have hr := (List.getElem?_eq_some_iff.1 h5).1
    rw [h.len] at hr
    rw [List.getElem?_append_left hr] at h1
    exact .inr ⟨r, y, sz', h1, h2, hh, h5⟩
  · simp at h6; omega
/-- A new box. -/
theorem R.box (h : R T N av0 w0 sp s a w E) {l : List C} {cs : Array Value} (hl : All2 (CRel E (AV av0 s.rs E) w) l cs.toList) (t : TypeId) :
    R T N av0 w0 sp { s with rs := s.rs ++ [.box l] } a (w.alloc (.cells cs t)) (E ++ [(some w.heap.size, undef, l.length)]) := by
  have hav : ∀ b, b < w.heap.size → AV av0 (s.rs ++ [.box l]) (E ++ [(some w.heap.size, undef, l.length)]) b → AV av0 s.rs E b := by
    refine AV_mono fun r y b sz h1 h2 h3 h4 => ?_
    rcases atRoot_append h3 with h5 | ⟨h5, h6, _⟩
    · obtain ⟨hh, h5⟩ := h5
      have hr := (List.getElem?_eq_some_iff.1 h5).1
      rw [h.len] at hr
      rw [List.getElem?_append_left hr] at h1
      exact .inr ⟨r, y, sz, h1, h2, hh, h5⟩
    · simp at h6; omega
  refine h.new (by simp) (fun b hb => Below.heap_alloc w _ b hb) (below_alloc w _) rfl ⟨w.heap.size, cs, t, rfl, rfl, heap_alloc_new w _, ?_⟩
  exact hl.mono fun _ _ q => CRel.mono (Env.le_append _ _) ⟨by simp, fun b hb _ => Below.heap_alloc w _ b hb⟩ hav q

theorem atRoot_last (E : Env) (b : Nat) (h : Value) (sz : Nat) : atRoot (E ++ [(some b, h, sz)]) E.length b sz := ⟨h, by simp⟩

/-- The contents of one live root's block turn. -/
theorem R.turn (h : R T N av0 w0 sp s a w E) {r b sz : Nat} {x x' : Root} {hd : Value} (hr : s.rs[r]? = some x) (hx : x.live) (hE : E[r]? = some (some b, hd, sz)) {w' : World} (hs : w'.heap.size = w.heap.size) (hold : ∀ k, k ≠ b → w'.heap[k]? = w.heap[k]?)
    (hos : w'.os = w.os ∧ w'.tape = w.tape ∧ w'.output = w.output) (hx' : RootRel E (AV av0 s.rs E) w0.heap.size w' (some b, hd, sz) x') :
    R T N av0 w0 sp { s with rs := s.rs.set r x' } a w' E := by
  have hb := h.blk r x b sz hr hx ⟨hd, hE⟩
  have hlen : r < s.rs.length := (List.getElem?_eq_some_iff.1 hr).1
  have key : ∀ (q : Nat) (y : Root), (s.rs.set r x')[q]? = some y → y.live → ∃ z : Root, s.rs[q]? = some z ∧ z.live := by
    intro q y h1 h2
    rw [List.getElem?_set] at h1
    split at h1
    · rename_i hq; subst hq; exact ⟨x, hr, hx⟩
    · exact ⟨y, h1, h2⟩
  have hk : Keeps (AV av0 s.rs E) w w' := ⟨by omega, fun k hk hn => hold k fun e => by subst e; exact hn (.inr ⟨r, x, sz, hr, hx, hd, hE⟩)⟩
  have hav : ∀ k, k < w.heap.size → AV av0 (s.rs.set r x') E k → AV av0 s.rs E k := by
    refine AV_mono fun q y b sz h1 h2 h3 h4 => ?_
    obtain ⟨z, h5, h6⟩ := key q y h1 h2
    exact .inr ⟨q, z, sz, h5, h6, h3⟩
  refine h.upd (Env.le_refl E) hk ⟨hos.1.trans h.below.os, hos.2.1.trans h.below.tape, hos.2.2.trans h.below.output, by have := h.below.size; omega, fun k hk => (hold k (by omega)).trans (h.below.block k hk)⟩ hav (by simp [h.len]) ?_ ?_ ?_
  · intro q y e h1 h2
    rw [List.getElem?_set] at h1
    split at h1
    · rename_i hq
      subst hq
      simp only [Option.some.injEq] at h1
      subst h1
      rw [hE] at h2
      simp only [Option.some.injEq] at h2
      subst h2
      exact RootRel.mono (Env.le_refl E) (Keeps.refl _ w') (fun k hk q => hav k (by omega) q) (fun _ _ _ => rfl) hx'
    · rename_i hq
      refine RootRel.mono (av := AV av0 s.rs E) (Env.le_refl E) hk hav (fun hl k hk' => hold k fun e => ?_) (h.roots q y e h1 h2)
      subst e
      obtain ⟨e1, e2, e3⟩ := e
      have hk' : e1 = some k := hk'
      subst hk'
      exact hq (h.inj r q x y k sz e3 hr h1 hx hl ⟨hd, hE⟩ ⟨e2, h2⟩)
  · intro q y k sz' h1 h2 h3
    obtain ⟨z, h5, h6⟩ := key q y h1 h2
    have := h.blk q z k sz' h5 h6 h3
    omega
  · intro q q' y y' k sz1 sz2 h1 h1' h2 h2' h3 h3'
    obtain ⟨z, h5, h6⟩ := key q y h1 h2
    obtain ⟨z', h5', h6'⟩ := key q' y' h1' h2'
    exact h.inj q q' z z' k sz1 sz2 h5 h5' h6 h6' h3 h3'

/-- cells written into the middle of a row -/
theorem run_storeAt_row {t : TypeId} {y : Ty} (hy : TyFact P t y) {b o : Nat} {cur : Array Value} {Tc : TypeId} (hg : w.heap[b]? = some (.cells cur Tc (0, 0))) {v : Value} (hv : v.cells.size = y.size) (hfit : o + y.size ≤ cur.size) (h1 : ∀ u ∈ v.cells.toList, u.oneCell' = true) :
    (Instr.storeAt t (.pointer (some ⟨b, o, none⟩)) v).run P w = .ok () (w.setRow b (cur.toList.take o ++ v.cells.toList ++ cur.toList.drop (o + y.size)).toArray) := by
  have hst := run_storeCells_at (P := P) b o Tc v.cells.toList 0 cur w hg (by simp; omega) h1
  simp only [Nat.add_zero] at hst
  have hl : v.cells.toList.length = y.size := by simpa using hv
  rw [hl] at hst
  simp [Instr.storeAt, Instr.sureAddr, storeVar, run_sizeOf hy.sz, hv, hst]

theorem set_take {α : Type} (l : List α) (o : Nat) (y : α) (ho : o < l.length) : (l.set o y).take (o + 1) = l.take o ++ [y] := by
  induction l generalizing o with
  | nil => simp at ho
  | cons x l ih =>
    cases o with
    | zero => simp
    | succ o => simp only [List.set_cons_succ, List.take_succ_cons, List.cons_append]; rw [ih o (by simpa using ho)]
theorem set_drop {α : Type} (l : List α) (o k : Nat) (y : α) (hk : o < k) : (l.set o y).drop k = l.drop k := by
  rw [List.drop_set]
  split
  · rfl
  · omega
theorem put_eq : ∀ {ys l : List C} {o : Nat} {r : List C}, put l o ys = some r → r = l.take o ++ ys ++ l.drop (o + ys.length)
  | [], l, o, r, h => by
    simp only [put, Option.some.injEq] at h
    subst h
    simp
  | y :: ys, l, o, r, h => by
    simp only [put] at h
    split at h
    · rename_i z hz
      rw [nth_eq] at hz
      have ho : o < l.length := (List.getElem?_eq_some_iff.1 hz).1
      rw [setAt_eq] at h
      rw [put_eq h, set_take l o y ho, set_drop l o _ y (by omega)]
      simp [Nat.add_assoc, Nat.add_comm 1]
    · simp at h
theorem putL {Ro : C → Value → Prop} {ys l : List C} {o : Nat} {r : List C} {vs cs : List Value} (h : put l o ys = some r) (h1 : All2 Ro l cs) (h2 : All2 Ro ys vs) : All2 Ro r (cs.take o ++ vs ++ cs.drop (o + vs.length)) := by
  rw [put_eq h, ← h2.length]
  exact ((h1.take o).append h2).append (h1.drop _)

theorem imm_eq : ∀ {cs : List C} {ys : List I}, imm cs = some ys → cs = lift ys
  | [], ys, h => by simp [imm] at h; subst h; rfl
  | c :: cs, ys, h => by
    cases c with
    | im x =>
      simp only [imm] at h
      split at h
      · rename_i r hr
        simp only [Option.some.injEq] at h
        subst h
        simp only [lift]
        rw [imm_eq hr]
      · simp at h
    | _ => simp [imm] at h
theorem lift_to {E : Env} {av : Nat → Prop} {w : World} : ∀ {ys : List I} {vs : List Value}, All2 (CRel E av w) (lift ys) vs → All2 (IRel av w) ys vs
  | [], vs, h => by cases h; exact .nil
  | y :: ys, vs, h => by cases h with | cons q1 q2 => exact .cons q1 (lift_to q2)
theorem lift_of {E : Env} {av : Nat → Prop} {w : World} : ∀ {ys : List I} {vs : List Value}, All2 (IRel av w) ys vs → All2 (CRel E av w) (lift ys) vs
  | [], vs, h => by cases h; exact .nil
  | y :: ys, vs, h => by cases h with | cons q1 q2 => exact .cons q1 (lift_of q2)
theorem getL_rel {av : Nat → Prop} {w : World} {ys : List I} {vs : List Value} (h : All2 (IRel av w) ys vs) {q : Nat} (hq : q < ys.length) : ∃ x, vs[q]? = some x ∧ IRel av w (getL ys q) x := by
  have : ys[q]? = some ys[q] := List.getElem?_eq_getElem hq
  have h1 : nth ys q = some ys[q] := by rw [nth_eq]; exact this
  obtain ⟨x, h2, h3⟩ := h.nth h1
  exact ⟨x, h2, by simp only [getL, h1]; exact h3⟩

/-- A store: of cells into a box, or into an array. -/
theorem store_sound (hty : TyOK P T) (h : R T N av0 w0 sp s a w E) {t : TypeId} {x v : D} {px pv : Value} (hx : DRel E (AV av0 s.rs E) w x px) (hv : DRel E (AV av0 s.rs E) w v pv) {K : VS → Prop} (e : storeK T s t x v K) :
    ∃ s' w', (Instr.storeAt t px pv).run P w = .ok () w' ∧ R T N av0 w0 sp s' a w' E ∧ K s' := by
  unfold storeK at e
  split at e
  case h_2 => exact e.elim
  rename_i y hy
  have hy := hty.ty _ _ hy
  split at e
  case h_2 => exact e.elim
  rename_i cs hcs
  have hcv := cells_rel hv hcs
  split at e
  case h_2 => exact e.elim
  rename_i hsz
  simp only [Bool.and_eq_true] at hsz
  obtain ⟨hsz, hpos⟩ := hsz
  have hsz := of_beq hsz
  have hpos := toNat_of_blt hpos
  have hvs : pv.cells.size = y.size := by have := hcv.length; rw [hsz] at this; simpa using this.symm
  split at e
  case h_2 => exact e.elim
  rename_i r i j
  obtain ⟨b, sz, ⟨hd, hE⟩, rfl⟩ := hx
  split at e
  · rename_i l hl
    rw [nth_eq] at hl
    obtain ⟨b', cur, Tc, q1, q2, q3, q4⟩ := h.roots r _ _ hl hE
    simp only [Option.some.injEq] at q1
    subst q1
    split at e
    case h_2 => exact e.elim
    rename_i l' hl'
    simp only [Nat.zero_mul, Nat.zero_add]
    have hfit : j + y.size ≤ cur.size := by
      have hlen := q4.length
      rcases put_some hl' with h1 | h1
      · rw [hsz] at h1; simp at hlen; omega
      · subst h1; simp at hsz
        omega
    have hp := putL hl' q4 hcv
    have hrun := run_storeAt_row hy q3 hvs hfit (hcv.all_one)
    refine ⟨_, _, hrun, ?_, e⟩
    rw [setAt_eq]
    have hl2 : pv.cells.toList.length = y.size := by simpa using hvs
    rw [hl2] at hp
    refine h.turn hl trivial hE (by simp) (fun k hk => setRow_other w _ k _ hk) ⟨rfl, rfl, rfl⟩ ⟨b, _, Tc, rfl, ?_, setRow_heap w b cur _ Tc (0, 0) q3, ?_⟩
    · have q2 : sz = l.length := q2
      show sz = l'.length
      rw [q2, q4.length, hp.length]
      simp [hl2]
      omega
    · have hk : Keeps (AV av0 s.rs E) w (w.setRow b (cur.toList.take j ++ pv.cells.toList ++ cur.toList.drop (j + y.size)).toArray) :=
        ⟨by simp, fun k hk hn => setRow_other w _ k _ fun e => by subst e; exact hn (.inr ⟨r, _, sz, hl, trivial, hd, hE⟩)⟩
      exact hp.mono fun _ _ q => CRel.mono (Env.le_refl E) hk (fun _ _ q => q) q
  · rename_i el asz n get hl
    rw [nth_eq] at hl
    split at e
    case h_2 => exact e.elim
    rename_i ys hys hle
    have hle := of_ble hle
    obtain ⟨hi, e⟩ := e
    obtain ⟨q1, q2, xs, q3, q4⟩ := h.roots r _ _ hl hE
    have q1 : sz = asz := q1
    have q2 : some b = hd.ownBlock := q2
    subst q1
    obtain ⟨q5, q6⟩ := q3
    have q6 : (hd = .slice none 0 0 ∧ n = 0) ∨ ∃ g cap cur, hd = .slice (some ⟨g, 0, none⟩) n cap ∧ w0.heap.size ≤ g ∧ w.heap[g]? = some (.cells cur el (0, 0)) ∧ n ≤ cap ∧ cap ≤ maxLen ∧ cur.size = cap * sz ∧ cur.toList.take (n * sz) = xs := q6
    rcases q6 with ⟨_, q6⟩ | ⟨g', cap, cur, q6, q7, q8, q9, q10, q11, q12⟩
    · omega
    rw [q6] at q2
    simp only [Value.ownBlock, Option.some.injEq] at q2
    subst q2
    have hfit0 : i * sz + (j + y.size) ≤ n * sz := by
      have := Nat.mul_le_mul_right sz (show i + 1 ≤ n by omega)
      rw [Nat.add_mul, Nat.one_mul] at this
      omega
    have hcap : n * sz ≤ cap * sz := Nat.mul_le_mul_right _ q9
    have hrun := run_storeAt_row (w := w) hy (o := i * sz + j) q8 hvs (by omega) (hcv.all_one)
    refine ⟨_, _, hrun, ?_, e⟩
    rw [setAt_eq]
    have hl2 : pv.cells.toList.length = y.size := by simpa using hvs
    have hk : Keeps (AV av0 s.rs E) w (w.setRow b (cur.toList.take (i * sz + j) ++ pv.cells.toList ++ cur.toList.drop (i * sz + j + y.size)).toArray) :=
        ⟨by simp, fun k hk hn => setRow_other w _ k _ fun e => by subst e; exact hn (.inr ⟨r, _, sz, hl, trivial, hd, hE⟩)⟩
    refine h.turn hl trivial hE (by simp) (fun k hk => setRow_other w _ k _ hk) ⟨rfl, rfl, rfl⟩ ⟨rfl, by rw [q6]; rfl, _, ⟨?_, .inr ⟨b, cap, _, q6, q7, setRow_heap w b cur _ el (0, 0) q8, q9, q10, ?_, rfl⟩⟩, ?_⟩
    · simp [hl2]
      omega
    · simp [hl2]
      omega
    · have hys' := imm_eq hys
      subst hys'
      have hyv := lift_to hcv
      have hyl : ys.length = y.size := by have := hyv.length; rw [hl2] at this; exact this
      intro i' hi' j' hj'
      obtain ⟨u, h1, h2⟩ := q4 i' hi' j' hj'
      have hfit' : i' * sz + j' < n * sz := by
        have := Nat.mul_le_mul_right sz (show i' + 1 ≤ n by omega)
        rw [Nat.add_mul, Nat.one_mul] at this
        omega
      have hcur : cur.toList[i' * sz + j']? = some u := by
        rw [← q12, List.getElem?_take, if_pos hfit'] at h1
        exact h1
      by_cases hin : i' = i ∧ j ≤ j' ∧ j' < j + ys.length
      · obtain ⟨rfl, h3, h4⟩ := hin
        obtain ⟨u', h5, h6⟩ := getL_rel hyv (q := j' - j) (by omega)
        refine ⟨u', ?_, ?_⟩
        · rw [List.getElem?_take, if_pos hfit', List.append_assoc, List.getElem?_append_right (by simp; omega), List.getElem?_append_left (by simp [hl2]; omega)]
          simp only [List.length_take, Array.length_toList]
          rw [show i' * sz + j' - min (i' * sz + j) cur.size = j' - j by omega]
          exact h5
        · have hu : upd get i' j ys i' j' = getL ys (j' - j) := by simp [upd, h3, h4]
          rw [hu]
          exact IRel.mono hk (fun _ _ q => q) h6
      · refine ⟨u, ?_, ?_⟩
        · have hne : i' * sz + j' < i * sz + j ∨ i * sz + j + y.size ≤ i' * sz + j' := by
            rcases Nat.lt_trichotomy i' i with h3 | h3 | h3
            · left
              have := Nat.mul_le_mul_right sz (show i' + 1 ≤ i by omega)
              rw [Nat.add_mul, Nat.one_mul] at this
              omega
            · subst h3
              rcases Nat.lt_or_ge j' j with h4 | h4
              · left; omega
              · right
                have : ¬ j' < j + ys.length := fun q => hin ⟨rfl, h4, q⟩
                omega
            · right
              have := Nat.mul_le_mul_right sz (show i + 1 ≤ i' by omega)
              rw [Nat.add_mul, Nat.one_mul] at this
              omega
          rw [List.getElem?_take, if_pos hfit']
          rcases hne with h3 | h3
          · rw [List.append_assoc, List.getElem?_append_left (by simp; omega), List.getElem?_take, if_pos h3]
            exact hcur
          · rw [List.getElem?_append_right (by simp [hl2]; omega), List.getElem?_drop]
            simp only [List.length_append, List.length_take, Array.length_toList, hl2]
            rw [show i * sz + j + y.size + (i' * sz + j' - (min (i * sz + j) cur.size + y.size)) = i' * sz + j' by omega]
            exact hcur
        · simp only [upd, if_neg hin]
          exact IRel.mono hk (fun _ _ q => q) h2
  · exact e.elim
end
end Go.V
