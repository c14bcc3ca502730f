/- What an operation reads: the slots of its operands, the roots that it finds. -/
import Derived.Test.YtkbgcnppkmkkiaaDoorVx9
import Derived.Test.YtkbgcnppkmkkiaaDoorVx2
set_option linter.unusedVariables false
namespace Go.V
section
variable {T : Tab} {lo : Lo} {hi : Hint} {sl sl' : Slots} {rs rs' : List Root} {df df' : List Nat}

theorem evsF_cong : ∀ {l : List Operand}, (∀ x ∈ l, evF sl x = evF sl' x) → evsF sl l = evsF sl' l
  | [], _ => rfl
  | x :: l, h => by
    have e1 := h x (List.mem_cons_self ..)
    have e2 := evsF_cong (l := l) fun y hy => h y (List.mem_cons_of_mem _ hy)
    show (match evF sl x with
      | some d => match evsF sl l with
        | some r => some (d :: r)
        | none => none
      | none => none) = _
    rw [e1, e2]; rfl
theorem fillF_cong {flds : List (Nat × Nat)} : ∀ {ps : List (Nat × Operand)}, (∀ p ∈ ps, evF sl p.2 = evF sl' p.2) → fillF flds sl ps = fillF flds sl' ps
  | [], _ => rfl
  | p :: ps, h => by
    have e1 := h p (List.mem_cons_self ..)
    have e2 := fillF_cong (flds := flds) (ps := ps) fun y hy => h y (List.mem_cons_of_mem _ hy)
    funext l
    show (match nthF flds p.1 with
      | some o => match evF sl p.2 with
        | some d => match d.cells with
          | some cs => (Bool.rec none (match put l o.1 cs with
            | some l' => fillF flds sl ps l'
            | none => none) (Nat.beq cs.length o.2 && Nat.blt 0 o.2) : Option (List C))
          | none => none
        | none => none
      | none => none) = _
    rw [e1, e2]; rfl
theorem fillAF_cong {sz : Nat} : ∀ {ps : List (Nat × Operand)}, (∀ p ∈ ps, evF sl p.2 = evF sl' p.2) → fillAF sz sl ps = fillAF sz sl' ps
  | [], _ => rfl
  | p :: ps, h => by
    have e1 := h p (List.mem_cons_self ..)
    have e2 := fillAF_cong (sz := sz) (ps := ps) fun y hy => h y (List.mem_cons_of_mem _ hy)
    funext l
    show (match evF sl p.2 with
      | some d => match d.cells with
        | some cs => (Bool.rec none (match put l (p.1 * sz) cs with
          | some l' => fillAF sz sl ps l'
          | none => none) (Nat.beq cs.length sz && Nat.blt 0 sz) : Option (List C))
        | none => none
      | none => none) = _
    rw [e1, e2]; rfl

theorem lenF_cong {ts : List TypeId} {xs : List Operand} (h : ∀ x ∈ xs, evF sl x = evF sl' x) : lenF T ⟨sl, rs, df⟩ ts xs = lenF T ⟨sl', rs, df'⟩ ts xs := by
  unfold lenF
  split
  · simp only [h _ (List.mem_cons_self ..)]
  · rfl
theorem maxF_cong {xs : List Operand} (h : ∀ x ∈ xs, evF sl x = evF sl' x) : maxF ⟨sl, rs, df⟩ xs = maxF ⟨sl', rs, df'⟩ xs := by
  unfold maxF
  split
  · simp only [h _ (List.mem_cons_self ..), h _ (List.mem_cons_of_mem _ (List.mem_cons_self ..))]
  · rfl
theorem minF_cong {xs : List Operand} (h : ∀ x ∈ xs, evF sl x = evF sl' x) : minF ⟨sl, rs, df⟩ xs = minF ⟨sl', rs, df'⟩ xs := by
  unfold minF
  split
  · simp only [h _ (List.mem_cons_self ..), h _ (List.mem_cons_of_mem _ (List.mem_cons_self ..))]
  · rfl
theorem sliceF_cong {t : Nat} {x : Operand} {l m k : Option Operand} (h0 : evF sl x = evF sl' x) (hl : ∀ y, l = some y → evF sl y = evF sl' y) (h : ∀ y, m = some y → evF sl y = evF sl' y) : sliceF T ⟨sl, rs, df⟩ t x l m k = sliceF T ⟨sl', rs, df'⟩ t x l m k := by
  unfold sliceF
  split
  · simp only [h0, h _ rfl]
  · simp only [h0, hl _ rfl]
  · rfl

/-- Slots: those of the operands alone. -/
theorem lookO_cong {op : Op} (h : ∀ x ∈ op.operands.toList, evF sl x = evF sl' x) : lookO T ⟨sl, rs, df⟩ op = lookO T ⟨sl', rs, df'⟩ op := by
  cases op with
  | move x => exact h x (by simp [Op.operands])
  | assign x => exact h x (by simp [Op.operands])
  | pick c x y => simp only [lookO, pickF, h c (by simp [Op.operands]), h x (by simp [Op.operands]), h y (by simp [Op.operands])]
  | binOp o t x y t2 => simp only [lookO, binF, nilcF, h x (by simp [Op.operands]), h y (by simp [Op.operands])]
  | unOp o t x => simp only [lookO, unF, h x (by simp [Op.operands])]
  | nilCheck x => simp only [lookO, nilchkF, h x (by simp [Op.operands])]
  | fieldAddr t x f => simp only [lookO, faddrF, h x (by simp [Op.operands])]
  | indexAddr t x i => simp only [lookO, iaddrF, h x (by simp [Op.operands]), h i (by simp [Op.operands])]
  | load t x => simp only [lookO, loadF, h x (by simp [Op.operands])]
  | extract x k => simp only [lookO, extractF, h x (by simp [Op.operands])]
  | build t ps =>
    simp only [lookO, buildF]
    have e : ∀ fs, fillF fs sl ps.toList = fillF fs sl' ps.toList := fun fs => fillF_cong fun p hp => h p.2 (by simp only [Op.operands, List.mem_map]; exact ⟨p, hp, rfl⟩)
    simp only [e]
  | makeFunc fn first caps =>
    have e : evsF sl caps.toList = evsF sl' caps.toList := evsF_cong fun p hp => h p (by simp only [Op.operands, Array.toList_append, List.mem_append]; exact .inr hp)
    simp only [lookO, mkfnF, e]
  | call c =>
    have e : ∀ x ∈ c.args.toList, evF sl x = evF sl' x := fun x hx => h x (by simp only [Op.operands, Call.operands, Array.toList_append, List.mem_append]; exact .inr hx)
    simp only [lookO, calF]
    split
    · rename_i b _
      unfold builtF
      split
      · exact lenF_cong e
      · exact maxF_cong e
      · exact minF_cong e
      · rfl
    · rfl
  | lookup t x i ok => simp only [lookO, lookupF, fmF, h x (by simp [Op.operands]), h i (by simp [Op.operands])]
  | slice t x l m k => exact sliceF_cong (h x (by simp [Op.operands])) (fun y hy => h y (by simp [Op.operands, hy])) fun y hy => h y (by simp [Op.operands, hy])
  | _ => rfl

theorem appF_cong {b : Nat} {ts : List TypeId} {xs : List Operand} (h : ∀ x ∈ xs, evF sl x = evF sl' x) : appF T b ⟨sl, rs, df⟩ ts xs = appF T b ⟨sl', rs, df'⟩ ts xs := by
  unfold appF
  split
  · simp only [h _ (List.mem_cons_self ..), h _ (List.mem_cons_of_mem _ (List.mem_cons_self ..))]
  · rfl
theorem workO_cong {b : Nat} {dst : Option Tmp} {op : Op} (h : ∀ x ∈ op.operands.toList, evF sl x = evF sl' x) : workO T lo hi b ⟨sl, rs, df⟩ dst op = workO T lo hi b ⟨sl', rs, df'⟩ dst op := by
  cases op with
  | box t x => simp only [workO, boxF, h x (by simp [Op.operands])]
  | alloc t => rfl
  | store t x v => simp only [workO, storeF, h x (by simp [Op.operands]), h v (by simp [Op.operands])]
  | buildSlice t n ps =>
    simp only [workO, bsF]
    have e : ∀ sz, fillAF sz sl ps.toList = fillAF sz sl' ps.toList := fun sz => fillAF_cong fun p hp => h p.2 (by simp only [Op.operands, List.mem_map]; exact ⟨p, hp, rfl⟩)
    simp only [e]
  | call c =>
    have e : ∀ x ∈ c.args.toList, evF sl x = evF sl' x := fun x hx => h x (by simp only [Op.operands, Call.operands, Array.toList_append, List.mem_append]; exact .inr hx)
    simp only [workO, callO]
    split
    · exact appF_cong e
    · rename_i f hf
      have e2 : evF sl f = evF sl' f := h f (by simp only [Op.operands, Call.operands, hf]; simp)
      simp only [valueF, e2, evsF_cong e]
    · rfl
  | makeMap t r => rfl
  | makeSlice t l c => simp only [workO, mkslF, h l (by simp [Op.operands]), h c (by simp [Op.operands])]
  | mapUpdate t m k v => simp only [workO, mapuF, h m (by simp [Op.operands]), h k (by simp [Op.operands]), h v (by simp [Op.operands])]
  | _ => rfl
theorem effO_cong {b : Nat} {dst : Option Tmp} {op : Op} (h : ∀ x ∈ op.operands.toList, evF sl x = evF sl' x) : effO T lo hi b ⟨sl, rs, df⟩ dst op = effO T lo hi b ⟨sl', rs, df'⟩ dst op := by
  unfold effO
  rw [lookO_cong (df' := df') h, workO_cong (df' := df') h]

/-- All roots that are alive here are there. -/
def RLe (rs rs' : List Root) : Prop := ∀ (q : Nat) (x : Root), nthF rs q = some x → x.live → nthF rs' q = some x
theorem RLe.nth (h : RLe rs rs') {q : Nat} {x : Root} (e : Go.V.nth rs q = some x) (hx : x.live) : Go.V.nth rs' q = some x := by
  rw [← nthF_eq]; exact h q x (by rw [nthF_eq]; exact e) hx

theorem nilF_le (hr : RLe rs rs') {c : C} {b : Bool} (e : nilF rs c = some b) : nilF rs' c = some b := by
  unfold nilF at e ⊢
  split at e
  · exact e
  · split at e
    · rename_i hq; rw [hr _ _ hq trivial]; exact e
    · simp at e
  · simp at e
theorem nilcF_le (hr : RLe rs rs') {op : BinOp} {t : Nat} {x : Operand} {d : D} (e : nilcF T ⟨sl, rs, df⟩ op t x = some d) : nilcF T ⟨sl, rs', df⟩ op t x = some d := by
  unfold nilcF at e ⊢
  split at e
  case h_2 => simp at e
  rename_i h1
  split at e
  case h_2 => simp at e
  rename_i h2
  split at e
  case h_2 => simp at e
  rename_i h3
  have h3 := nilF_le hr h3
  simp only [h2, h3]
  exact e
theorem iaddrC_le (hr : RLe rs rs') {sz : Nat} {i : Int} {c : C} {d : D} (e : iaddrC rs sz i c = some d) : iaddrC rs' sz i c = some d := by
  unfold iaddrC at e ⊢
  split at e
  · exact e
  · split at e
    · rename_i hq; rw [hr _ _ hq trivial]; exact e
    · simp at e
  · simp at e
theorem loadC_le (hr : RLe rs rs') {y : Ty} {c : C} {d : D} (e : loadC T rs y c = some d) : loadC T rs' y c = some d := by
  unfold loadC at e ⊢
  split at e
  · rename_i r i j
    unfold loadR at e ⊢
    split at e
    · rename_i hq; rw [hr _ _ hq trivial]; exact e
    · rename_i hq; rw [hr _ _ hq trivial]; exact e
    · simp at e
  · exact e
  · exact e
  · simp at e
theorem setF_le (hr : RLe rs rs') {c : C} {l : List Int} (e : setF rs c = some l) : setF rs' c = some l := by
  unfold setF at e ⊢
  split at e
  · split at e
    · rename_i hq; rw [hr _ _ hq trivial]; exact e
    · simp at e
  · exact e
  · simp at e
theorem sliceC_le (hr : RLe rs rs') {c : C} {n : Int} {d : D} (e : sliceC rs c n = some d) : sliceC rs' c n = some d := by
  unfold sliceC at e ⊢
  split at e
  · exact e
  · split at e
    · rename_i hq; rw [hr _ _ hq trivial]; exact e
    · simp at e
  · exact e
  · simp at e

theorem lookO_le (hr : RLe rs rs') {op : Op} {d : D} (e : lookO T ⟨sl, rs, df⟩ op = some d) : lookO T ⟨sl, rs', df⟩ op = some d := by
  cases op with
  | binOp o t x y t2 =>
    have e : binF T ⟨sl, rs, df⟩ o t x y = some d := e
    show binF T ⟨sl, rs', df⟩ o t x y = some d
    unfold binF at e ⊢
    split at e
    · exact nilcF_le hr e
    · exact e
  | indexAddr t x i =>
    have e : iaddrF T ⟨sl, rs, df⟩ t x i = some d := e
    show iaddrF T ⟨sl, rs', df⟩ t x i = some d
    unfold iaddrF at e ⊢
    split at e
    · exact e
    · split at e
      case h_2 => simp at e
      split at e
      case h_2 => simp at e
      split at e
      case h_2 => simp at e
      rename_i h1 _ _ h2 _ _ h3
      simp only at h2 h3 ⊢
      simp only [h2, h3]
      exact iaddrC_le hr e
  | load t x =>
    have e : loadF T ⟨sl, rs, df⟩ t x = some d := e
    show loadF T ⟨sl, rs', df⟩ t x = some d
    unfold loadF at e ⊢
    split at e
    case h_2 => simp at e
    split at e
    case h_2 => simp at e
    rename_i h1 _ _ h2
    simp only at h2 ⊢
    simp only [h2]
    exact loadC_le hr e
  | lookup t x i ok =>
    have e : lookupF T ⟨sl, rs, df⟩ t x i ok = some d := e
    show lookupF T ⟨sl, rs', df⟩ t x i ok = some d
    unfold lookupF at e ⊢
    split at e
    · exact e
    · cases h0 : mapK T t with
      | false => rw [h0] at e; exact e
      | true =>
      rw [h0] at e
      simp only at e ⊢
      split at e
      case h_2 => simp at e
      rename_i h2 h3
      split at e
      case h_2 => simp at e
      rename_i h4
      have h4 := setF_le hr h4
      try simp only at h2 h3
      simp only [h4]
      exact e
  | slice t x l m k =>
    have e : sliceF T ⟨sl, rs, df⟩ t x l m k = some d := e
    show sliceF T ⟨sl, rs', df⟩ t x l m k = some d
    unfold sliceF at e ⊢
    split at e
    case h_3 => simp at e
    case h_2 => exact e
    split at e
    case h_2 => simp at e
    rename_i h1
    split at e
    case h_2 => simp at e
    rename_i h2 h3
    simp only at h2 h3 ⊢
    simp only [h2, h3]
    exact sliceC_le hr e
  | _ => exact e
end
end Go.V
