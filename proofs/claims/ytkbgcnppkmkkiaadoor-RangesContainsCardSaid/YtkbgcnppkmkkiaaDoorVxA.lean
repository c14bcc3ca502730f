/- Runs of code. -/
import Derived.Test.YtkbgcnppkmkkiaaDoorVx9
import Derived.Test.YtkbgcnppkmkkiaaDoorVx2
set_option linter.unusedVariables false
namespace Go.V
open Go.RowKit
section
variable {P : Program} {T : Tab} {lo : Lo} {hi : Hint} {N : Nat} {av0 : Nat → Prop} {w0 : World} {sp : List (D × Value)} {s : VS} {a : Act} {w : World} {E : Env} {ρ : Option Nat}

theorem keepS_nil {sl : Slots} : ∀ {l : List Tmp}, NilS (keepS sl l)
  | [], x, hx => by cases hx
  | t :: l, x, hx => by
    simp only [keepS] at hx
    split at hx
    · cases hx with
      | head => rfl
      | tail _ hx => exact keepS_nil x hx
    · exact keepS_nil x hx
theorem keepS_look' : ∀ {l : List Tmp} {sl : Slots} {t : Tmp} {d : D} {c : Cond}, look (keepS sl l) t = some (d, c) → c = [] ∧ look sl t = some (d, [])
  | [], sl, t, d, c, h => by simp [keepS, look] at h
  | k :: l, sl, t, d, c, h => by
    simp only [keepS] at h
    split at h
    · rename_i d' hk
      simp only [look] at h
      split at h
      · rename_i he
        have he := of_beq he
        simp only [Option.some.injEq, Prod.mk.injEq] at h
        obtain ⟨rfl, rfl⟩ := h
        subst he
        exact ⟨rfl, hk⟩
      · exact keepS_look' h
    · exact keepS_look' h
theorem tidyF_R (h : R T N av0 w0 sp s a w E) (hn : NilS s.sl) (f : FuncId) (id : Nat) : R T N av0 w0 sp (tidyF hi f id s) a w E ∧ NilS (tidyF hi f id s).sl := by
  unfold tidyF
  split
  · exact ⟨⟨h.size, h.defers, h.spec, h.below, h.len, h.outer, h.roots, h.blk, h.inj, fun t d c hl => by
      obtain ⟨rfl, h1⟩ := keepS_look' hl
      exact h.slots t d [] h1, h.glob⟩, keepS_nil⟩
  · exact ⟨h, hn⟩

/-- From here the frame comes to there. -/
theorem region_run (hty : TyOK P T) (hl : LoOK T P lo) (h : R T N av0 w0 sp s a w E) (hn : NilS s.sl) {f : FuncId} {ro : Option Nat} {id : Nat} {ops : Array Oper} {s' : VS} (e : regionF T lo hi N f ro id ops.toList false s = some s')
    {b : Frame} {k : List Item} {cs : List Frame} : ∃ a' w' E', Kept E E' ∧ R T N av0 w0 sp s' a' w' E' ∧ NilS s'.sl ∧ Steps P (lone (b.atR a (.code (.region id ops false) :: k)) cs w) (lone (b.atR a' k) cs w') := by
  unfold regionF at e
  simp only at e
  split at e
  case h_2 => simp at e
  rename_i s1 hs1
  simp only [Option.some.injEq] at e
  subst e
  have hw := opsF_sound (ρ := b.roundOf) (Q := fun en a' w' => en = .normal ∧ ∃ E', Kept E E' ∧ R T N av0 w0 sp s1 a' w' E' ∧ NilS s1.sl) hty hl (fun a' w' E' hk h1 h2 => ⟨rfl, E', hk, h1, h2⟩) hs1 (Kept.refl E) h hn
  obtain ⟨en, a', w', ⟨rfl, E', hk, h1, h2⟩, harr⟩ := wpIn_region_list (id := id) hw b k cs rfl trivial (room_Fr _ _)
  obtain ⟨h3, h4⟩ := tidyF_R (hi := hi) h1 h2 f id
  exact ⟨a', w', E', hk, h3, h4, StepsIn.steps harr⟩
end
end Go.V
