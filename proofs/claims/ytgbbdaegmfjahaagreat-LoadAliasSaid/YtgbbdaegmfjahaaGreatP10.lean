/- The set's own check of law 19: as a contract. -/
import Derived.Test.YtgbbdaegmfjahaaGreatP9
set_option linter.unusedVariables false
namespace Go.Proofs.YtgbbdaegmfjahaaGreat
open Go Go.V
theorem isTrue_some {x : Option (D × List Root)} (h : isTrue x = true) : ∃ rs, x = some (bool true, rs) := by
  unfold isTrue at h
  split at h
  · exact ⟨_, rfl⟩
  · simp at h
theorem con_pure1 {f : FuncId} {d : D} (he : V.Enters Tryz.prog f) (h : Pure1 tab Tryz.prog f [] d) : LC f [] [] d [] := by
  refine ⟨he, fun N av0 w0 sp sl df a w E vs hR hv => ?_⟩
  have avlt : ∀ b, AV av0 [] E b → b < w.heap.size := by
    rintro b (q | ⟨r, x, sz, q1, q2, q3⟩)
    · exact hR.outer_lt q
    · simp at q1
  have hE : E = [] := List.eq_nil_of_length_eq_zero hR.len
  cases hv
  refine (h (AV av0 [] E) w [] avlt hR.glob .nil).mono fun e w' ⟨v, h1, h2, h3⟩ => ⟨v, E, h1, Kept.refl E, hR.grown h3, ?_⟩
  subst hE
  exact h2
theorem con23 : LC 23 [] [] (bool true) [] := by
  obtain ⟨rs, hr⟩ := isTrue_some san23
  exact con_pure1 (lo0_ok.call _ _ _ _ _ hr).1 (lo0_ok.pure hr rfl)
end Go.Proofs.YtgbbdaegmfjahaaGreat
