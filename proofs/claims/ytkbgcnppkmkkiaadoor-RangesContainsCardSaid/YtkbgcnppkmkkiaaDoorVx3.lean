/- A root in a place kept free; what the relation says of rows. -/
import Derived.Test.YtkbgcnppkmkkiaaDoorVmA
set_option linter.unusedVariables false
namespace Go.V
open Go.RowKit
section
variable {P : Program} {T : Tab} {N : Nat} {av0 : Nat → Prop} {w0 : World} {sp : List (D × Value)} {s : VS} {a : Act} {w : World} {E : Env}

theorem atRoot_set {E : Env} {b r k z : Nat} {e : Option Nat × Value × Nat} (h : atRoot (E.set b e) r k z) : (r ≠ b ∧ atRoot E r k z) ∨ (r = b ∧ e.1 = some k) := by
  obtain ⟨hh, h⟩ := h
  rw [List.getElem?_set] at h
  split at h
  · rename_i hq
    subst hq
    split at h
    · simp only [Option.some.injEq] at h; subst h; exact .inr ⟨rfl, rfl⟩
    · simp at h
  · rename_i hq; exact .inl ⟨fun e => hq e.symm, hh, h⟩

/-- More places, kept free. -/
theorem R.holes (h : R T N av0 w0 sp s a w E) (n : Nat) : R T N av0 w0 sp { s with rs := s.rs ++ List.replicate n .dead } a w (E ++ List.replicate n hole) := by
  have hE := Env.le_append E (List.replicate n hole)
  have key : ∀ (r : Nat) (y : Root), (s.rs ++ List.replicate n .dead)[r]? = some y → y.live → s.rs[r]? = some y := by
    intro r y h1 h2
    rcases Nat.lt_or_ge r s.rs.length with hr | hr
    · rwa [List.getElem?_append_left hr] at h1
    · rw [List.getElem?_append_right hr, List.getElem?_replicate] at h1
      split at h1
      · simp only [Option.some.injEq] at h1; subst h1; exact h2.elim
      · simp at h1
  have keyE : ∀ (r b sz : Nat), atRoot (E ++ List.replicate n hole) r b sz → atRoot E r b sz := by
    rintro r b sz ⟨hh, h1⟩
    rcases Nat.lt_or_ge r E.length with hr | hr
    · rw [List.getElem?_append_left hr] at h1; exact ⟨hh, h1⟩
    · rw [List.getElem?_append_right hr, List.getElem?_replicate] at h1
      split at h1
      · simp [hole] at h1
      · simp at h1
  have hav : ∀ b, b < w.heap.size → AV av0 (s.rs ++ List.replicate n .dead) (E ++ List.replicate n hole) b → AV av0 s.rs E b :=
    AV_mono fun r y b sz h1 h2 h3 _ => .inr ⟨r, y, sz, key r y h1 h2, h2, keyE _ _ _ h3⟩
  refine h.upd hE (Keeps.refl _ w) h.below hav (by simp [h.len]) ?_ ?_ ?_
  · intro r x e h1 h2
    rcases Nat.lt_or_ge r s.rs.length with hr | hr
    · rw [List.getElem?_append_left hr] at h1
      rw [List.getElem?_append_left (by rw [h.len]; exact hr)] at h2
      exact RootRel.mono hE (Keeps.refl _ w) hav (fun _ _ _ => rfl) (h.roots r x e h1 h2)
    · rw [List.getElem?_append_right hr, List.getElem?_replicate] at h1
      split at h1
      · simp only [Option.some.injEq] at h1; subst h1; trivial
      · simp at h1
  · intro r x b sz h1 h2 h3
    exact h.blk r x b sz (key r x h1 h2) h2 (keyE _ _ _ h3)
  · intro r r' x x' b sz sz' h1 h1' h2 h2' h3 h3'
    exact h.inj r r' x x' b sz sz' (key r x h1 h2) (key r' x' h1' h2') h2 h2' (keyE _ _ _ h3) (keyE _ _ _ h3')

/-- A root comes into a place kept free; the elder root r, if it is named, is dead. -/
theorem R.at (h : R T N av0 w0 sp s a w E) {b : Nat} {dead : Option Nat} {x : Root} {e : Option Nat × Value × Nat} {w' : World} {row : Option Nat}
    (hb : s.rs[b]? = some .dead) (hE : E[b]? = some hole) (hg : w.grownBy w' row)
    (hrow : ∀ k, row = some k → ∃ r y q, dead = some r ∧ s.rs[r]? = some y ∧ y.live ∧ atRoot E r k q)
    (hblk : ∀ k, e.1 = some k → some k = row ∨ w.heap.size ≤ k) (hlt : ∀ k, e.1 = some k → k < w'.heap.size)
    (hx : (∀ k, k < w.heap.size → AV av0 ((kill dead s.rs).set b x) (E.set b e) k → AV av0 s.rs E k) → (∀ k, AV av0 ((kill dead s.rs).set b x) (E.set b e) k → AV av0 s.rs E k ∨ e.1 = some k) → Keeps (AV av0 s.rs E) w w' → RootRel (E.set b e) (AV av0 ((kill dead s.rs).set b x) (E.set b e)) w0.heap.size w' e x) :
    R T N av0 w0 sp { s with rs := (kill dead s.rs).set b x } a w' (E.set b e) ∧ ∀ k, k < w.heap.size → AV av0 ((kill dead s.rs).set b x) (E.set b e) k → AV av0 s.rs E k := by
  have hle := h.size_le
  have hEle := Env.le_set e hE
  let rs1 := kill dead s.rs
  have hlen1 : rs1.length = s.rs.length := by
    simp only [rs1]; cases dead <;> simp [kill]
  have hrow' : ∀ k, row = some k → w0.heap.size ≤ k := by
    intro k hk
    obtain ⟨r, y, q, _, h2, h3, h4⟩ := hrow k hk
    exact (h.blk r y k q h2 h3 h4).1
  have old : ∀ (q : Nat) (y : Root), rs1[q]? = some y → y.live → s.rs[q]? = some y ∧ dead ≠ some q := by
    intro q y h1 h2
    simp only [rs1] at h1
    cases dead with
    | some r =>
      simp only [kill] at h1
      rw [List.getElem?_set] at h1
      split at h1
      · rename_i hq
        subst hq
        split at h1
        · cases h1; exact h2.elim
        · simp at h1
      · rename_i hq
        exact ⟨h1, fun e => hq (by simpa using e)⟩
    | none => exact ⟨h1, by simp⟩
  have hk : Keeps (AV av0 s.rs E) w w' := ⟨hg.size, fun k hk hn => hg.block k hk fun e => by
    obtain ⟨r, x, q, _, h2, h3, h4⟩ := hrow k e.symm
    exact hn (.inr ⟨r, x, q, h2, h3, h4⟩)⟩
  have key : ∀ (q : Nat) (y : Root) (k z : Nat), (rs1.set b x)[q]? = some y → y.live → atRoot (E.set b e) q k z →
      (s.rs[q]? = some y ∧ dead ≠ some q ∧ q ≠ b ∧ atRoot E q k z) ∨ (q = b ∧ e.1 = some k) := by
    intro q y k z h1 h2 h3
    rcases atRoot_set h3 with ⟨h4, h5⟩ | h4
    · rw [List.getElem?_set, if_neg (fun e => h4 e.symm)] at h1
      obtain ⟨h6, h7⟩ := old q y h1 h2
      exact .inl ⟨h6, h7, h4, h5⟩
    · exact .inr h4
  have hav : ∀ k, k < w.heap.size → AV av0 (rs1.set b x) (E.set b e) k → AV av0 s.rs E k := by
    refine AV_mono fun q y k z h1 h2 h3 h4 => ?_
    rcases key q y k z h1 h2 h3 with ⟨h5, _, _, h6⟩ | ⟨_, h6⟩
    · exact .inr ⟨q, y, z, h5, h2, h6⟩
    · rcases hblk k h6 with h7 | h7
      · obtain ⟨r, x, q, _, h8, h9, h10⟩ := hrow k h7.symm
        exact .inr ⟨r, x, q, h8, h9, h10⟩
      · omega
  have hav2 : ∀ k, AV av0 (rs1.set b x) (E.set b e) k → AV av0 s.rs E k ∨ e.1 = some k := by
    rintro k (q | ⟨q, y, z, h1, h2, h3⟩)
    · exact .inl (.inl q)
    · rcases key q y k z h1 h2 h3 with ⟨h5, _, _, h6⟩ | ⟨_, h6⟩
      · exact .inl (.inr ⟨q, y, z, h5, h2, h6⟩)
      · exact .inr h6
  have hx := hx hav hav2 hk
  have apart : ∀ (q : Nat) (y : Root) (k z : Nat), s.rs[q]? = some y → y.live → dead ≠ some q → atRoot E q k z → e.1 ≠ some k ∧ row ≠ some k := by
    intro q y k z h1 h2 h3 h4
    have hb := h.blk q y k z h1 h2 h4
    have hr : row ≠ some k := by
      intro e
      obtain ⟨r, x, q', h5, h6, h7, h8⟩ := hrow k e
      have := h.inj q r y x k z q' h1 h6 h2 h7 h4 h8
      subst this
      exact h3 h5
    refine ⟨fun e => ?_, hr⟩
    rcases hblk k e with h5 | h5
    · exact hr h5.symm
    · omega
  refine ⟨h.upd (rs' := rs1.set b x) hEle hk ⟨hg.os.trans h.below.os, hg.tape.trans h.below.tape, hg.output.trans h.below.output, by have := hg.size; omega, fun k hk' => ?_⟩ hav (by simp [hlen1, h.len]) ?_ ?_ ?_, hav⟩
  · rw [hg.block k (by omega) fun e => by have := hrow' k e.symm; omega]
    exact h.below.block k hk'
  · intro q y e' h1 h2
    by_cases hq : q = b
    · subst hq
      have hlb : q < rs1.length := by rw [hlen1]; exact (List.getElem?_eq_some_iff.1 hb).1
      have hlE : q < E.length := (List.getElem?_eq_some_iff.1 hE).1
      rw [List.getElem?_set, if_pos rfl, if_pos hlb] at h1
      rw [List.getElem?_set, if_pos rfl, if_pos hlE] at h2
      simp only [Option.some.injEq] at h1 h2
      subst h1 h2
      exact hx
    · rw [List.getElem?_set, if_neg (fun e => hq e.symm)] at h1 h2
      by_cases hl : y.live
      · obtain ⟨h3, h4⟩ := old q y h1 hl
        refine RootRel.mono (av := AV av0 s.rs E) hEle hk hav (fun hl k hk' => ?_) (h.roots q y e' h3 h2)
        obtain ⟨e1, e2, e3⟩ := e'
        have hk' : e1 = some k := hk'
        subst hk'
        have hat : atRoot E q k e3 := ⟨e2, h2⟩
        exact hg.block k (h.blk q y k e3 h3 hl hat).2 fun e => (apart q y k e3 h3 hl h4 hat).2 e.symm
      · cases y with
        | dead => trivial
        | _ => exact (hl trivial).elim
  · intro q y k z h1 h2 h3
    rcases key q y k z h1 h2 h3 with ⟨h5, _, _, h6⟩ | ⟨_, h6⟩
    · have := h.blk q y k z h5 h2 h6; have := hg.size; omega
    · have := hlt k h6
      rcases hblk k h6 with h7 | h7
      · have := hrow' k h7.symm; omega
      · omega
  · intro q q' y y' k z z' h1 h1' h2 h2' h3 h3'
    rcases key q y k z h1 h2 h3 with ⟨h5, h6, _, h7⟩ | ⟨h6, h7⟩ <;> rcases key q' y' k z' h1' h2' h3' with ⟨h5', h6', _, h7'⟩ | ⟨h6', h7'⟩
    · exact h.inj q q' y y' k z z' h5 h5' h2 h2' h7 h7'
    · exact ((apart q y k z h5 h2 h6 h7).1 h7').elim
    · exact ((apart q' y' k z' h5' h2' h6' h7').1 h7).elim
    · omega
end
end Go.V
