/- The law's run, reckoned: the differences between the two answers are gathered as the loops go. -/
import Derived.Test.YtkbgcnppkmkkiaaDoorCon4
set_option linter.unusedVariables false
set_option maxRecDepth 1000000
namespace Go.Proofs.YtkbgcnppkmkkiaaDoor
open Go Go.V Go.RowKit

def at59 (c : Operand) : Bool := match c with
  | .tmp t => Nat.beq t 59
  | _ => false
/-- As runF, but where slot 59 decides, it takes the other way and notes what the slot holds; it stops before region 14. -/
noncomputable def oraF (T : Tab) (lo : Lo) (hi : Hint) (N : Nat) (f : FuncId) (n : Nat) : List Item → VS → Option (List (Option Bool) × Nat × List Item × VS) := Nat.rec (fun _ _ => none) (fun n ih todo s => match todo with
  | [] => none
  | x :: k => match x with
    | .inBlock _ => ih k s
    | .inLoop c => ih (.code c :: .inLoop c :: k) s
    | .code c => match c with
      | .skip => ih k s
      | .label _ => ih k s
      | .seq a b => ih (.code a :: .code b :: k) s
      | .cond c a b => match at59 c with
        | true => match ih (.code b :: k) s with
          | some (l, r) => some (boolF (evF s.sl c) :: l, r)
          | none => none
        | false => match boolF (evF s.sl c) with
          | some p => ih (.code (Bool.rec b a p) :: k) s
          | none => none
      | .block id c => ih (.code c :: .inBlock id :: k) s
      | .loop c => ih (.code c :: .inLoop c :: k) s
      | .exit id => match exitTo id k with
        | some k' => ih k' s
        | none => none
      | .region id ops draw => match Nat.beq id 14 with
        | true => some ([], n + 1, todo, s)
        | false => match regionF T lo hi N f none id ops.toList draw s with
          | some s' => ih k s'
          | none => none
      | _ => none
    | _ => none) n
theorem oraF_run {T : Tab} {lo : Lo} {hi : Hint} {N : Nat} {f : FuncId} : ∀ (n : Nat) {todo : List Item} {s : VS} {l : List (Option Bool)} {m : Nat} {k' : List Item} {s' : VS}, oraF T lo hi N f n todo s = some (l, m, k', s') → (∀ x ∈ l, x = some false) → runF T lo hi N f none n todo s = runF T lo hi N f none m k' s'
  | 0, todo, s, l, m, k', s', e, hl => by
    have e : (none : Option (List (Option Bool) × Nat × List Item × VS)) = some (l, m, k', s') := e
    simp at e
  | n + 1, todo, s, l, m, k', s', e, hl => by
    cases todo with
    | nil =>
      have e : (none : Option (List (Option Bool) × Nat × List Item × VS)) = some (l, m, k', s') := e
      simp at e
    | cons x k =>
      cases x with
      | inBlock id => exact oraF_run n (todo := k) (s := s) e hl
      | inLoop c => exact oraF_run n (todo := .code c :: .inLoop c :: k) (s := s) e hl
      | code c =>
        cases c with
        | skip => exact oraF_run n (todo := k) (s := s) e hl
        | label _ => exact oraF_run n (todo := k) (s := s) e hl
        | seq a b => exact oraF_run n (todo := .code a :: .code b :: k) (s := s) e hl
        | block id c => exact oraF_run n (todo := .code c :: .inBlock id :: k) (s := s) e hl
        | loop c => exact oraF_run n (todo := .code c :: .inLoop c :: k) (s := s) e hl
        | cond c a b =>
          have e : (match at59 c with
            | true => match oraF T lo hi N f n (.code b :: k) s with
              | some (l, r) => some (boolF (evF s.sl c) :: l, r)
              | none => none
            | false => match boolF (evF s.sl c) with
              | some p => oraF T lo hi N f n (.code (Bool.rec b a p) :: k) s
              | none => none) = some (l, m, k', s') := e
          have hrun : runF T lo hi N f none (n + 1) (.code (.cond c a b) :: k) s = (match boolF (evF s.sl c) with
            | some p => runF T lo hi N f none n (.code (Bool.rec b a p) :: k) s
            | none => none) := rfl
          rw [hrun]
          split at e
          · split at e
            case h_2 => simp at e
            rename_i l' r hr
            simp only [Option.some.injEq, Prod.mk.injEq] at e
            obtain ⟨rfl, rfl⟩ := e
            have h1 : boolF (evF s.sl c) = some false := hl _ (List.mem_cons_self ..)
            rw [h1]
            exact oraF_run n hr fun x hx => hl x (List.mem_cons_of_mem _ hx)
          · split at e
            case h_2 => simp at e
            rename_i p hp
            exact oraF_run n e hl
        | exit id =>
          have e : (match exitTo id k with
            | some k' => oraF T lo hi N f n k' s
            | none => none) = some (l, m, k', s') := e
          have hrun : runF T lo hi N f none (n + 1) (.code (.exit id) :: k) s = (match exitTo id k with
            | some k' => runF T lo hi N f none n k' s
            | none => some (some (.exit id), s)) := rfl
          rw [hrun]
          split at e
          case h_2 => simp at e
          rename_i k1 hk1
          exact oraF_run n e hl
        | region id ops draw =>
          have e : (match Nat.beq id 14 with
            | true => some ([], n + 1, .code (.region id ops draw) :: k, s)
            | false => match regionF T lo hi N f none id ops.toList draw s with
              | some s' => oraF T lo hi N f n k s'
              | none => none) = some (l, m, k', s') := e
          split at e
          · simp only [Option.some.injEq, Prod.mk.injEq] at e
            obtain ⟨_, rfl, rfl, rfl⟩ := e
            rfl
          · have hrun : runF T lo hi N f none (n + 1) (.code (.region id ops draw) :: k) s = (match regionF T lo hi N f none id ops.toList draw s with
              | some s' => runF T lo hi N f none n k s'
              | none => none) := rfl
            rw [hrun]
            split at e
            case h_2 => simp at e
            exact oraF_run n e hl
        | _ =>
          have e : (none : Option (List (Option Bool) × Nat × List Item × VS)) = some (l, m, k', s') := e
          simp at e
      | _ =>
        have e : (none : Option (List (Option Bool) × Nat × List Item × VS)) = some (l, m, k', s') := e
        simp at e

/- The law's run from its arguments. -/
section
variable (q0 q1 q2 kind n : Int) (s : ByteArray) (hsz : s.size ≤ maxLen)
noncomputable def ds3 : List D := [.a [.im (.v (.int .i64 q0)), .im (.v (.int .i64 q1)), .im (.v (.int .i64 q2))], .a [.im (.v (.int .i64 kind)), .im (.v (.int .i64 n)), .im (.tx s)]]
noncomputable def body3 : Code := match Tryd.f3.body with
  | some c => c
  | none => .skip
noncomputable def ora3 (X Y : Int → Int → Int → Int → Int → ByteArray → Bool) : Option (List (Option Bool) × Nat × List Item × VS) := oraF tab (loX X Y) hints 79 3 1000 [.code body3] ⟨argSlots 0 (ds3 q0 q1 q2 kind n s), [], []⟩
noncomputable def len3 (x : Option (List (Option Bool) × Nat × List Item × VS)) : Option Nat := match x with
  | some (l, _) => some l.length
  | none => none
end
end Go.Proofs.YtkbgcnppkmkkiaaDoor
