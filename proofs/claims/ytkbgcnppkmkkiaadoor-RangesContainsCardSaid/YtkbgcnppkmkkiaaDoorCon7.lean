/- The law's end, reckoned for either answer to the widest bounds. -/
import Derived.Test.YtkbgcnppkmkkiaaDoorCon6
set_option linter.unusedVariables false
set_option maxRecDepth 1000000
namespace Go.Proofs.YtkbgcnppkmkkiaaDoor
open Go Go.V Go.RowKit

/-- The operations of a region of open order in two parts. -/
theorem firstF_two (T : Tab) (lo : Lo) (hi : Hint) (N : Nat) (ancs : List Nat) (ops : List Oper) (l2 : List Oper) : ∀ (l1 : List Oper) (k b : Nat) (W : List (Nat × List Nat)) (s : VS),
    firstF T lo hi N ancs ops (l1 ++ l2) k b W s = (match firstF T lo hi N ancs ops l1 k b W s with
      | some (.ok W' s') => firstF T lo hi N ancs ops l2 (k + l1.length) (b + (l1.map fun o => makesN o.op).sum) W' s'
      | r => r)
  | [], k, b, W, s => by
    show firstF T lo hi N ancs ops l2 k b W s = firstF T lo hi N ancs ops l2 (k + 0) (b + 0) W s
    rfl
  | o :: l1, k, b, W, s => by
    have h1 : ∀ l, firstF T lo hi N ancs ops (o :: l) k b W s = (match evalU T lo hi ancs k b ops s o with
      | some (.ok u) => Bool.rec none (firstF T lo hi N ancs ops l (k + 1) (b + makesN o.op) (addW k u W) (u.on s)) (okT N u.dst u.val)
      | some (.cold c) => some (.cold c)
      | none => none) := fun l => rfl
    rw [List.cons_append, h1, h1]
    cases hE : evalU T lo hi ancs k b ops s o with
    | none => rfl
    | some x =>
      cases x with
      | cold c => rfl
      | ok u =>
        cases hT : okT N u.dst u.val with
        | false => simp only [hT]
        | true =>
          have := firstF_two T lo hi N ancs ops l2 l1 (k + 1) (b + makesN o.op) (addW k u W) (u.on s)
          simp only [hT, this, List.length_cons, List.map_cons, List.sum_cons]
          have e1 : k + 1 + l1.length = k + (l1.length + 1) := by omega
          have e2 : b + makesN o.op + (l1.map fun o => makesN o.op).sum = b + (makesN o.op + (l1.map fun o => makesN o.op).sum) := by omega
          rw [e1, e2]

section
variable (q0 q1 q2 kind n : Int) (s : ByteArray) (X Y : Int → Int → Int → Int → Int → ByteArray → Bool)
/-- Z: what is answered at the widest bounds; A: else. -/
noncomputable def ansX (Z : Int → Int → ByteArray → Bool) (A : Int → Int → Int → Int → Int → ByteArray → Bool) : Int → Int → Int → Int → Int → ByteArray → Bool := fun k lo hi kind n s => cond (wideB k lo hi) (Z kind n s) (cond (k == 0) false (A k lo hi kind n s))
noncomputable def endB (x : Option (Option Code × VS)) : Bool := match x with
  | some (j, s) => isTrue (Bool.rec none (endF tab s Tryd.f3.results.toList) (retB j))
  | none => false
noncomputable def tail3 (lo : Lo) (x : Option (List (Option Bool) × Nat × List Item × VS)) : Bool := match x with
  | some (_, m, k, s) => endB (runF tab lo hints 79 3 none m k s)
  | none => false
/-- The first eleven operations of region 14. -/
noncomputable def part1 (lo : Lo) (x : Option (List (Option Bool) × Nat × List Item × VS)) : Option Run1 := match x with
  | some (_, m + 1, .code (.region id ops true) :: k, s) => firstF tab lo hints 79 (ancsM ops.toList []) ops.toList (ops.toList.take 11) 0 s.rs.length [] (startF ops.toList s)
  | _ => none
/-- What comes behind. -/
noncomputable def part2 (lo : Lo) (x : Option (List (Option Bool) × Nat × List Item × VS)) (r : Option Run1) : Bool := match x with
  | some (_, m + 1, .code (.region id ops true) :: k, s) => match r with
    | some (.ok W s') => match firstF tab lo hints 79 (ancsM ops.toList []) ops.toList (ops.toList.drop 11) (0 + (ops.toList.take 11).length) (s.rs.length + ((ops.toList.take 11).map fun o => makesN o.op).sum) W s' with
      | some (.ok W2 s2) => match staticB ops.toList with
        | true => match drawW tab lo hints 79 ops.toList (startF ops.toList s) s2 s.rs.length W2 with
          | some s3 => endB (runF tab lo hints 79 3 none m k (tidyF hints 3 id s3))
          | none => false
        | false => false
      | _ => false
    | _ => false
  | _ => false
theorem tail_two (lo : Lo) (x : Option (List (Option Bool) × Nat × List Item × VS)) (h : part2 lo x (part1 lo x) = true) : tail3 lo x = true := by
  unfold part2 at h
  split at h
  case h_2 => simp at h
  rename_i l m id ops k s
  split at h
  case h_2 => simp at h
  rename_i W s' hp
  split at h
  case h_2 => simp at h
  rename_i W2 s2 h2
  split at h
  case h_2 => simp at h
  rename_i hst
  split at h
  case h_2 => simp at h
  rename_i s3 hw
  have hp : firstF tab lo hints 79 (ancsM ops.toList []) ops.toList (ops.toList.take 11) 0 s.rs.length [] (startF ops.toList s) = some (.ok W s') := hp
  have hf := firstF_two tab lo hints 79 (ancsM ops.toList []) ops.toList (ops.toList.drop 11) (ops.toList.take 11) 0 s.rs.length [] (startF ops.toList s)
  rw [List.take_append_drop, hp] at hf
  simp only at hf
  rw [h2] at hf
  have hd : drawF tab lo hints 79 ops.toList 8 s = some s3 := by
    have : drawF tab lo hints 79 ops.toList 8 s = (match firstF tab lo hints 79 (ancsM ops.toList []) ops.toList ops.toList 0 s.rs.length [] (startF ops.toList s) with
      | some (.cold l) => match freezes l s with
        | some s' => drawF tab lo hints 79 ops.toList 7 s'
        | none => none
      | some (.ok W s') => drawW tab lo hints 79 ops.toList (startF ops.toList s) s' s.rs.length W
      | none => none) := rfl
    rw [this, hf]
    exact hw
  have hr : regionF tab lo hints 79 3 none id ops.toList true s = some (tidyF hints 3 id s3) := by
    have : regionF tab lo hints 79 3 none id ops.toList true s = (match staticB ops.toList with
      | true => match drawF tab lo hints 79 ops.toList 8 s with
        | some s' => some (tidyF hints 3 id s')
        | none => none
      | false => none) := rfl
    rw [this, hst, hd]
  have hrun : runF tab lo hints 79 3 none (m + 1) (.code (.region id ops true) :: k) s = (match regionF tab lo hints 79 3 none id ops.toList true s with
    | some s' => runF tab lo hints 79 3 none m k s'
    | none => none) := rfl
  show endB (runF tab lo hints 79 3 none (m + 1) (.code (.region id ops true) :: k) s) = true
  rw [hrun, hr]
  exact h
theorem part1_same (Z : Int → Int → ByteArray → Bool) (A B : Int → Int → Int → Int → Int → ByteArray → Bool) :
    part1 (loX (ansX Z A) (ansX Z B)) (ora3 q0 q1 q2 kind n s X Y) = part1 (loX (ansX (fun _ _ _ => Z kind n s) A) (ansX (fun _ _ _ => Z kind n s) B)) (ora3 q0 q1 q2 kind n s X Y) := by kernel_rfl
theorem part2_any (b : Bool) (lo : Lo) (Z : Int → Int → ByteArray → Bool) (A B : Int → Int → Int → Int → Int → ByteArray → Bool) :
    part2 (loX (ansX Z A) (ansX Z B)) (ora3 q0 q1 q2 kind n s X Y) (part1 (loX (ansX (fun _ _ _ => b) A) (ansX (fun _ _ _ => b) B)) (ora3 q0 q1 q2 kind n s X Y)) = true := by
  cases b
  · kernel_rfl
  · kernel_rfl
theorem tail_true (Z : Int → Int → ByteArray → Bool) (A B : Int → Int → Int → Int → Int → ByteArray → Bool) : tail3 (loX (ansX Z A) (ansX Z B)) (ora3 q0 q1 q2 kind n s X Y) = true := by
  refine tail_two _ _ ?_
  rw [part1_same]
  exact part2_any q0 q1 q2 kind n s X Y _ (loX X Y) Z A B
end
end Go.Proofs.YtkbgcnppkmkkiaaDoor
