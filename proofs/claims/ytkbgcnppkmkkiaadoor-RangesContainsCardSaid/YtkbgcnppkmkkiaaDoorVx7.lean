/- A statement in the order of its text. -/
import Derived.Test.YtkbgcnppkmkkiaaDoorVx6
set_option linter.unusedVariables false
namespace Go.V
open Go.RowKit

/-- The fence that lets all in, in a round or not. -/
def Fr (ρ : Option Nat) : Fence := { fn := fun _ => True, depth := none, alive := false, round := ρ }

section
variable {P : Program} {T : Tab} {lo : Lo} {hi : Hint} {N : Nat} {av0 : Nat → Prop} {w0 : World} {sp : List (D × Value)} {s : VS} {a : Act} {w : World} {E : Env} {ρ : Option Nat}

theorem fenced_Fr (ρ : Option Nat) (m : Machine) : m.fenced P (Fr ρ) := by
  intro g _
  refine ⟨fun h => ?_, Or.inl trivial, fun _ _ => trivial, fun _ h => ?_⟩
  · cases h
  · cases h
theorem room_Fr (ρ : Option Nat) (n : Nat) : (Fr ρ).room n := fun d h => by cases h
theorem stepsIn_Fr {m m' : Machine} (h : Steps P m m') : StepsIn (Machine.fenced P (Fr ρ)) P m m' := (StepsIn.of_steps h).mono fun m _ => fenced_Fr ρ m

/-- What one operation does, for the walk of a frame that may be a round's. -/
theorem Op1.wpIn {Y : Bool} {o : Oper} {next : Act → World → Prop} {Q : Exit → Act → World → Prop} (h : Op1 P Y o a w next) : o.wpIn (Fr ρ) 0 P a w next Q := by
  refine ⟨fun _ _ => trivial, ?_⟩
  cases h with
  | value v w' hd hr hn => rw [Oper.semAt_eq _ _ _ hd, hr]; exact hn
  | skip w' hd hr hn => rw [Oper.semAt_eq _ _ _ hd, hr]; exact hn
  | enter f args w' hd hr hc =>
    rw [Oper.semAt_eq _ _ _ hd, hr]
    refine ⟨fun q => (by cases q), trivial, fun cs _ => ?_⟩
    obtain ⟨e, w2, fr, ⟨v, rfl, hn⟩, hs, hf, hl⟩ := hc cs
    exact ⟨.returned v, w2, fr, hn, stepsIn_Fr hs, hf, hl⟩
  | round hY l f tm as bd w' hd hr hc =>
    rw [Oper.semAt_eq _ _ _ hd, hr]
    refine ⟨fun q => (by cases q), trivial, fun c cs _ => ?_⟩
    obtain ⟨v, w2, hn, hs⟩ := hc c cs
    exact ⟨.returned v, w2, hn, stepsIn_Fr hs⟩
end
end Go.V
