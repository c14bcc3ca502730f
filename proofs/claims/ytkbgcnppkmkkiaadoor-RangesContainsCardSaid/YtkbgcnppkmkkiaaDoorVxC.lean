/- Operations that turn memory: what they read, which roots they write. -/
import Derived.Test.YtkbgcnppkmkkiaaDoorVxB
set_option linter.unusedVariables false
namespace Go.V
section
variable {T : Tab} {lo : Lo} {hi : Hint} {sl sl' : Slots} {rs rs' : List Root} {df df' : List Nat}

theorem reifyR_le (hr : RLe rs rs') {q : Nat} {rec rec' : List C → Option (List I)} (hrec : ∀ l r, rec l = some r → rec' l = some r) {x : I} (e : reifyR rs q rec = some x) : reifyR rs' q rec' = some x := by
  unfold reifyR at e ⊢
  split at e
  case h_2 => simp at e
  rename_i h1
  split at e
  case h_2 => simp at e
  rename_i h2
  simp only [hr.nth h1 trivial, hrec _ _ h2]
  exact e
theorem reify1_le (hr : RLe rs rs') {rec rec' : List C → Option (List I)} (hrec : ∀ l r, rec l = some r → rec' l = some r) {c : C} {x : I} (e : reify1 rs rec c = some x) : reify1 rs' rec' c = some x := by
  unfold reify1 at e ⊢
  split at e
  · exact e
  · exact reifyR_le hr hrec e
  · split at e
    · rename_i h1; rw [hr.nth h1 trivial]; exact e
    · rename_i h1
      rw [hr.nth h1 trivial]
      split at e
      case h_2 => simp at e
      rename_i h2
      split at e
      case h_2 => simp at e
      rename_i h3
      simp only [h2, hrec _ _ h3]
      exact e
    · simp at e
  · split at e
    · rename_i h1; rw [hr.nth h1 trivial]; exact e
    · simp at e
  · exact e
  · split at e
    case h_2 => simp at e
    rename_i h1
    simp only [reifyR_le hr hrec h1]
    exact e
  · split at e
    case h_2 => simp at e
    rename_i h1 h2
    simp only [reifyR_le hr hrec h1, reifyR_le hr hrec h2]
    exact e
  · split at e
    case h_2 => simp at e
    rename_i h1 h2 h3
    simp only [reifyR_le hr hrec h1, reifyR_le hr hrec h2, reifyR_le hr hrec h3]
    exact e
  · simp at e
theorem mapO_le {α β : Type} {f g : α → Option β} (h : ∀ x y, f x = some y → g x = some y) : ∀ {l : List α} {r : List β}, mapO f l = some r → mapO g l = some r
  | [], r, e => e
  | x :: l, r, e => by
    simp only [mapO] at e ⊢
    split at e
    case h_2 => simp at e
    rename_i h1 h2
    simp only [h _ _ h1, mapO_le h h2]
    exact e
theorem reify_le (hr : RLe rs rs') : ∀ (k : Nat) (l : List C) (r : List I), reify k rs l = some r → reify k rs' l = some r
  | 0, l, r, e => mapO_le (fun x y h => reify1_le hr (fun _ _ h => h) h) e
  | k + 1, l, r, e => mapO_le (fun x y h => reify1_le hr (reify_le hr k) h) e
theorem reifyT_le (hr : RLe rs rs') : ∀ {l r : List (Bool × List C)}, reifyD.reifyT rs l = some r → reifyD.reifyT rs' l = some r
  | [], r, e => e
  | (b, l) :: m, r, e => by
    simp only [reifyD.reifyT] at e ⊢
    split at e
    case h_2 => simp at e
    rename_i h1 h2
    simp only [reify_le hr _ _ _ h1, reifyT_le hr h2]
    exact e
theorem reifyD_le (hr : RLe rs rs') {d d' : D} (e : reifyD rs d = some d') : reifyD rs' d = some d' := by
  cases d with
  | c x =>
    simp only [reifyD] at e ⊢
    split at e
    case h_2 => simp at e
    rename_i h1
    simp only [reify_le hr _ _ _ h1]
    exact e
  | a l =>
    simp only [reifyD] at e ⊢
    split at e
    case h_2 => simp at e
    rename_i h1
    simp only [reify_le hr _ _ _ h1]
    exact e
  | t l =>
    simp only [reifyD] at e ⊢
    split at e
    case h_2 => simp at e
    rename_i h1
    simp only [reifyT_le hr h1]
    exact e
theorem reifyDs_le (hr : RLe rs rs') : ∀ {l r : List D}, reifyDs rs l = some r → reifyDs rs' l = some r
  | [], r, e => e
  | d :: l, r, e => by
    simp only [reifyDs] at e ⊢
    split at e
    case h_2 => simp at e
    rename_i h1 h2
    simp only [reifyD_le hr h1, reifyDs_le hr h2]
    exact e

theorem sasL1_pure {rec : List C → Option (List Nat)} : ∀ {l : List C}, pureC l = true → sasL1 rec rs l = some []
  | [], _ => rfl
  | c :: l, h => by
    cases c with
    | im x =>
      have := sasL1_pure (rec := rec) (l := l) (by simpa [pureC] using h)
      show (match (some [] : Option (List Nat)) with
        | some a => match sasL1 rec rs l with
          | some b => some (a ++ b)
          | none => none
        | none => none) = some []
      rw [this]; rfl
    | _ => simp [pureC] at h
theorem sasL1_nil' {rec : List C → Option (List Nat)} : ∀ {l : List C}, sasL1 rec rs l = some [] → pureC l = true := sasL1_nil
theorem sasDs_le : ∀ {ds : List D}, sasDs rs ds = some [] → sasDs rs' ds = some []
  | [], _ => rfl
  | d :: ds, h => by
    have h : (match sasD rs d, sasDs rs ds with
      | some a, some b => some (a ++ b)
      | _, _ => none) = some [] := h
    split at h
    case h_2 => simp at h
    rename_i m k hm hk
    simp only [Option.some.injEq, List.append_eq_nil_iff] at h
    obtain ⟨rfl, rfl⟩ := h
    have hd : sasD rs' d = some [] := by
      cases d with
      | c x => exact sasL1_pure (sasL1_nil (l := [x]) hm)
      | a l => exact sasL1_pure (sasL1_nil (l := l) hm)
      | t l => simp [sasD] at hm
    show (match sasD rs' d, sasDs rs' ds with
      | some a, some b => some (a ++ b)
      | _, _ => none) = some []
    rw [hd, sasDs_le hk]; rfl
theorem coldF_le {ds : List D} {e e' : Eff} (hc : ∀ l, e' ≠ .cold l) (h : coldF rs ds e = some e') : coldF rs' ds e = some e' := by
  rcases coldF_some h with ⟨l, hl⟩ | ⟨rfl, hs⟩
  · exact (hc l hl).elim
  · unfold coldF
    rw [sasDs_le hs]
theorem purF_le (hr : RLe rs rs') {f : FuncId} {ds : List D} {d : D} (e : purF lo rs f ds = some d) : purF lo rs' f ds = some d := by
  unfold purF at e ⊢
  split at e
  case h_2 => simp at e
  rename_i h1
  simp only [reifyDs_le hr h1]
  exact e
theorem ownF_le (hr : RLe rs rs') {f : FuncId} {ds : List D} {b : Nat} {d : Eff} (e : ownF lo rs f ds b = some d) : ownF lo rs' f ds b = some d := by
  unfold ownF at e ⊢
  split at e
  case h_2 => simp at e
  rename_i h1
  simp only [reifyDs_le hr h1]
  exact e
theorem pcallF_le (hr : RLe rs rs') {f : FuncId} {ds : List D} {e : Eff} (hc : ∀ l, e ≠ .cold l) (h : pcallF lo rs f ds = some e) : pcallF lo rs' f ds = some e := by
  unfold pcallF at h ⊢
  split at h
  case h_2 => simp at h
  rename_i d hd
  simp only [purF_le hr hd]
  cases hp : plainD d with
  | true => rw [hp] at h; exact h
  | false =>
    rw [hp] at h
    cases hq : pureD d with
    | true => rw [hq] at h; exact coldF_le hc h
    | false => rw [hq] at h; simp at h
theorem ocallF_le (hr : RLe rs rs') {f : FuncId} {ds : List D} {b : Nat} {e : Eff} (hc : ∀ l, e ≠ .cold l) (h : ocallF lo rs f ds b = some e) : ocallF lo rs' f ds b = some e := by
  unfold ocallF at h ⊢
  split at h
  · rename_i ho; rw [ownF_le hr ho]; exact h
  · rename_i ho
    rw [ownF_le hr ho]
    simp only
    revert h
    generalize plainC _ = p
    intro h
    cases p with
    | true => exact h
    | false => exact coldF_le hc h
  · simp at h
theorem callF_le (hr : RLe rs rs') {b : Nat} {f : FuncId} {ds : List D} {e : Eff} (hc : ∀ l, e ≠ .cold l) (ha : ∀ d r, e = .all d r → rs = rs') (h : callF lo hi rs b f ds = some e) : callF lo hi rs' b f ds = some e := by
  have hE : effF lo rs f ds = some e → effF lo rs' f ds = some e := fun h => by
    have h0 := h
    unfold effF at h
    split at h
    · simp only [Option.some.injEq] at h
      rw [← ha _ _ h.symm]; exact h0
    · simp at h
  unfold callF at h ⊢
  split at h
  · exact pcallF_le hr hc h
  · exact hE h
  · exact ocallF_le hr hc h
  · cases hp : pureDs ds with
    | true => rw [hp] at h; exact pcallF_le hr hc h
    | false => rw [hp] at h; exact hE h
theorem yldF_le {r : Nat} {ds : List D} {e : Eff} (ha : ∀ d r, e = .all d r → rs = rs') (h : yldF lo rs r ds = some e) : yldF lo rs' r ds = some e := by
  have h0 := h
  unfold yldF at h
  split at h
  · simp only [Option.some.injEq] at h
    rw [← ha _ _ h.symm]; exact h0
  · simp at h
theorem srcF_le (hr : RLe rs rs') {c : C} {x : Nat × Nat × List C} (e : srcF rs c = some x) : srcF rs' c = some x := by
  unfold srcF at e ⊢
  split at e
  · exact e
  · exact e
  · split at e
    · rename_i hq; rw [hr _ _ hq trivial]; exact e
    · simp at e
  · simp at e
theorem apd_le (hr : RLe rs rs') {el sz k : Nat} {l' : List C} {bytes b : Nat} {c : C} {e : Eff} (h : apd el sz k l' bytes b rs c = some e) : apd el sz k l' bytes b rs' c = some e := by
  unfold apd at h ⊢
  split at h
  · exact h
  · split at h
    · rename_i hq; rw [hr _ _ hq trivial]; exact h
    · simp at h
  · simp at h
theorem apdF_le (hr : RLe rs rs') {el b : Nat} {x src : Option C} {e : Eff} (h : apdF T el b rs x src = some e) : apdF T el b rs' x src = some e := by
  unfold apdF at h ⊢
  split at h
  case h_2 => simp at h
  rename_i h1
  split at h
  case h_2 => simp at h
  split at h
  case h_2 => simp at h
  rename_i h3
  split at h
  case h_2 => simp at h
  simp only [srcF_le hr h3]
  split at h
  · obtain ⟨h5, h6⟩ := Bool.rec_some h
    simp only [h5]
    exact apd_le hr h6
  · obtain ⟨h5, h6⟩ := Bool.rec_some h
    simp only [h5]
    exact apd_le hr h6
theorem appF_le (hr : RLe rs rs') {b : Nat} {ts : List TypeId} {xs : List Operand} {e : Eff} (h : appF T b ⟨sl, rs, df⟩ ts xs = some e) : appF T b ⟨sl, rs', df⟩ ts xs = some e := by
  unfold appF at h ⊢
  split at h
  case h_2 => simp at h
  obtain ⟨h1, h2⟩ := Bool.rec_some h
  simp only [h1]
  split at h2
  case h_2 => simp at h2
  rename_i h3
  try simp only [h3]
  exact apdF_le hr h2

theorem workO_le (hr : RLe rs rs') {b : Nat} {dst : Option Tmp} {op : Op} {e : Eff} (hc : ∀ l, e ≠ .cold l) (ha : ∀ d r, e = .all d r → rs = rs')
    (h : workO T lo hi b ⟨sl, rs, df⟩ dst op = some e) : workO T lo hi b ⟨sl, rs', df⟩ dst op = some e := by
  cases op with
  | store t x v =>
    have h : storeF T ⟨sl, rs, df⟩ dst t x v = some e := h
    show storeF T ⟨sl, rs', df⟩ dst t x v = some e
    unfold storeF at h ⊢
    split at h
    · simp at h
    · split at h
      case h_2 => simp at h
      rename_i h1 h2
      split at h
      case h_2 => simp at h
      rename_i h3
      obtain ⟨h4, h⟩ := Bool.rec_some h
      split at h
      case h_2 => simp at h
      rename_i h5
      simp only at h2 h5 ⊢
      simp only [h1, h2, h3, h4, h5]
      unfold storeR at h ⊢
      split at h
      · rename_i hq; rw [hr _ _ hq trivial]; exact h
      · rename_i hq; rw [hr _ _ hq trivial]; exact h
      · simp at h
  | mapUpdate t m k v =>
    have h : mapuF T ⟨sl, rs, df⟩ dst t m k v = some e := h
    show mapuF T ⟨sl, rs', df⟩ dst t m k v = some e
    unfold mapuF at h ⊢
    split at h
    · simp at h
    · obtain ⟨h4, h⟩ := Bool.rec_some h
      split at h
      case h_2 => simp at h
      rename_i h1 h2 h3
      split at h
      case h_2 => simp at h
      rename_i h5
      simp only at h1 h2 h3 h5 ⊢
      simp only [h1, h2, h3, h4, hr _ _ h5 trivial]
      exact h
  | call c =>
    have h : callO T lo hi b ⟨sl, rs, df⟩ c = some e := h
    show callO T lo hi b ⟨sl, rs', df⟩ c = some e
    unfold callO at h ⊢
    split at h
    · exact appF_le hr h
    · unfold valueF at h ⊢
      split at h
      case h_2 => simp at h
      rename_i h1 h2
      simp only at h1 h2 ⊢
      simp only [h1, h2]
      split at h
      · exact yldF_le ha h
      · split at h
        case h_2 => simp at h
        rename_i h3
        try simp only [h3]
        exact callF_le hr hc ha h
    · simp at h
  | _ => exact h

theorem lookO_work {b : Nat} {s : VS} {dst : Option Tmp} {op : Op} {e : Eff} (h : workO T lo hi b s dst op = some e) : lookO T s op = none := by
  cases op with
  | call c =>
    have h : callO T lo hi b s c = some e := h
    show calF T s c = none
    unfold callO at h
    unfold calF
    split at h
    · rename_i hc; rw [hc]; rfl
    · rename_i hc; rw [hc]
    · simp at h
  | _ => first | rfl | simp [workO] at h
/-- What an operation does is the same where its operands' slots are the same, and the roots that it finds. -/
theorem effO_frame (hr : RLe rs rs') {b : Nat} {dst : Option Tmp} {op : Op} (hs : ∀ x ∈ op.operands.toList, evF sl x = evF sl' x) {e : Eff} (hc : ∀ l, e ≠ .cold l) (ha : ∀ d r, e = .all d r → rs = rs')
    (h : effO T lo hi b ⟨sl, rs, df⟩ dst op = some e) : effO T lo hi b ⟨sl', rs', df'⟩ dst op = some e := by
  rw [← effO_cong (df := df) (df' := df') hs]
  unfold effO at h ⊢
  split at h
  · rename_i d hd
    rw [lookO_le hr hd]; exact h
  · have h1 := workO_le hr hc ha h
    rw [lookO_work h1]
    exact h1

/-- Which roots an operation writes: one; or one more, in its own place. -/
def Shape (b : Nat) (rs : List Root) (ws : List (Nat × Root)) : Prop :=
  (∃ x, ws = [(b, x)]) ∨ (∃ q x, ws = [(q, x)] ∧ q < rs.length) ∨ (∃ q x y, ws = [(q, x), (b, y)])
theorem lt_of_nthF {α : Type} {l : List α} {q : Nat} {x : α} (h : nthF l q = some x) : q < l.length := by
  rw [nthF_eq, nth_eq] at h; exact (List.getElem?_eq_some_iff.1 h).1
theorem apd_shape {el sz k : Nat} {l' : List C} {bytes b : Nat} {c : C} {d : Option D} {ws : List (Nat × Root)} (h : apd el sz k l' bytes b rs c = some (.wr d ws)) : Shape b rs ws := by
  unfold apd at h
  split at h
  · split at h
    · simp at h
    · replace h := (Bool.rec_some h).2
      simp only [Option.some.injEq, Eff.wr.injEq] at h
      exact .inl ⟨_, h.2.symm⟩
  · split at h
    · replace h := (Bool.rec_some h).2
      replace h := (Bool.rec_some h).2
      simp only [Option.some.injEq, Eff.wr.injEq] at h
      exact .inr (.inr ⟨_, _, _, h.2.symm⟩)
    · simp at h
  · simp at h
theorem coldF_wr {ds : List D} {e : Eff} {d : Option D} {ws : List (Nat × Root)} (h : coldF rs ds e = some (.wr d ws)) : e = .wr d ws := by
  rcases coldF_some h with ⟨l, hl⟩ | ⟨h, _⟩
  · cases hl
  · exact h.symm
theorem pcallF_shape {f : FuncId} {ds : List D} {d : Option D} {ws : List (Nat × Root)} (h : pcallF lo rs f ds = some (.wr d ws)) : False := by
  unfold pcallF at h
  split at h
  case h_2 => simp at h
  rename_i d hd
  cases hp : plainD d with
  | true => rw [hp] at h; simp at h
  | false =>
    rw [hp] at h
    have h := coldF_wr (Bool.rec_some h).2
    cases h
theorem ocallF_shape {b : Nat} {f : FuncId} {ds : List D} {d : Option D} {ws : List (Nat × Root)} (h : ocallF lo rs f ds b = some (.wr d ws)) : Shape b rs ws := by
  unfold ocallF at h
  split at h
  · simp at h
  · rename_i d1 q el sz n l ho
    obtain ⟨is, q', n', rs2, el', sz', l', _, _, _, _, _, hws⟩ := ownF_row ho
    simp only [List.cons.injEq, Prod.mk.injEq, and_true] at hws
    obtain ⟨rfl, _⟩ := hws
    revert h
    generalize plainC _ = p
    intro h
    cases p with
    | true => simp only [Option.some.injEq, Eff.wr.injEq] at h; exact .inl ⟨_, h.2.symm⟩
    | false => have h := coldF_wr h; simp only [Eff.wr.injEq] at h; exact .inl ⟨_, h.2.symm⟩
  · simp at h
theorem effF_shape {f : FuncId} {ds : List D} {d : Option D} {ws : List (Nat × Root)} (h : effF lo rs f ds = some (.wr d ws)) : False := by
  unfold effF at h
  split at h <;> simp at h
theorem effO_shape {b : Nat} {s : VS} {dst : Option Tmp} {op : Op} {d : Option D} {ws : List (Nat × Root)} (h : effO T lo hi b s dst op = some (.wr d ws)) : Shape b s.rs ws := by
  unfold effO at h
  split at h
  · simp at h
  · cases op with
    | box t x =>
      have h : boxF b s x = _ := h
      unfold boxF at h
      split at h
      · split at h
        · simp only [Option.some.injEq, Eff.wr.injEq] at h; exact .inl ⟨_, h.2.symm⟩
        · simp at h
      · simp at h
    | alloc t =>
      have h : allocF T b t = _ := h
      unfold allocF at h
      split at h
      · split at h
        · simp only [Option.some.injEq, Eff.wr.injEq] at h; exact .inl ⟨_, h.2.symm⟩
        · simp at h
      · simp at h
    | store t x v =>
      have h : storeF T s dst t x v = _ := h
      unfold storeF at h
      split at h
      · simp at h
      · split at h
        case h_2 => simp at h
        split at h
        case h_2 => simp at h
        replace h := (Bool.rec_some h).2
        split at h
        case h_2 => simp at h
        unfold storeR at h
        split at h
        · rename_i hq
          split at h
          · split at h
            · simp only [Option.some.injEq, Eff.wr.injEq] at h; exact .inr (.inl ⟨_, _, h.2.symm, lt_of_nthF hq⟩)
            · simp at h
          · simp at h
        · rename_i hq
          split at h
          · simp only [Option.some.injEq, Eff.wr.injEq] at h; exact .inr (.inl ⟨_, _, h.2.symm, lt_of_nthF hq⟩)
          · simp at h
        · simp at h
    | buildSlice t n ps =>
      have h : bsF T b s t n ps.toList = _ := h
      unfold bsF at h
      split at h
      case h_2 => simp at h
      split at h
      case h_2 => simp at h
      split at h
      case h_2 => simp at h
      split at h
      case h_2 => simp at h
      replace h := (Bool.rec_some h).2
      simp only [Option.some.injEq, Eff.wr.injEq] at h; exact .inl ⟨_, h.2.symm⟩
    | makeSlice t l c =>
      have h : mkslF T b s t l c = _ := h
      unfold mkslF at h
      split at h
      case h_2 => simp at h
      split at h
      case h_2 => simp at h
      split at h
      case h_2 => simp at h
      split at h
      case h_2 => simp at h
      replace h := (Bool.rec_some h).2
      simp only [Option.some.injEq, Eff.wr.injEq] at h; exact .inl ⟨_, h.2.symm⟩
    | makeMap t r =>
      have h : mkmapF T b t r = _ := h
      unfold mkmapF at h
      split at h
      · simp only [Option.some.injEq, Eff.wr.injEq] at h; exact .inl ⟨_, h.2.symm⟩
      · simp at h
    | mapUpdate t m k v =>
      have h : mapuF T s dst t m k v = _ := h
      unfold mapuF at h
      split at h
      · simp at h
      · replace h := (Bool.rec_some h).2
        split at h
        case h_2 => simp at h
        split at h
        case h_2 => simp at h
        rename_i hq
        simp only [Option.some.injEq, Eff.wr.injEq] at h; exact .inr (.inl ⟨_, _, h.2.symm, lt_of_nthF hq⟩)
    | call c =>
      have h : callO T lo hi b s c = _ := h
      unfold callO at h
      split at h
      · unfold appF at h
        split at h
        case h_2 => simp at h
        replace h := (Bool.rec_some h).2
        split at h
        case h_2 => simp at h
        unfold apdF at h
        split at h
        case h_2 => simp at h
        split at h
        case h_2 => simp at h
        split at h
        case h_2 => simp at h
        split at h
        case h_2 => simp at h
        split at h
        · exact apd_shape (Bool.rec_some h).2
        · exact apd_shape (Bool.rec_some h).2
      · unfold valueF at h
        split at h
        case h_2 => simp at h
        split at h
        · unfold yldF at h
          split at h <;> simp at h
        · split at h
          case h_2 => simp at h
          unfold callF at h
          split at h
          · exact (pcallF_shape h).elim
          · exact (effF_shape h).elim
          · exact ocallF_shape h
          · revert h
            generalize pureDs _ = p
            intro h
            cases p with
            | true => exact (pcallF_shape h).elim
            | false => exact (effF_shape h).elim
      · simp at h
    | _ => simp [workO] at h
/-- An operation that makes no root doesn't mind its place. -/
theorem effO_nomake {b b' : Nat} {s : VS} {dst : Option Tmp} {op : Op} (h : makesN op = 0) : effO T lo hi b s dst op = effO T lo hi b' s dst op := by
  unfold effO
  have : workO T lo hi b s dst op = workO T lo hi b' s dst op := by
    cases op with
    | call c =>
      show callO T lo hi b s c = callO T lo hi b' s c
      have h : makesC c.callee = 0 := h
      unfold callO
      split
      · rename_i hc; rw [hc] at h; simp [makesC] at h
      · rename_i hc; rw [hc] at h; simp [makesC] at h
      · rfl
    | _ => first | rfl | simp [makesN] at h
  rw [this]
end
end Go.V
