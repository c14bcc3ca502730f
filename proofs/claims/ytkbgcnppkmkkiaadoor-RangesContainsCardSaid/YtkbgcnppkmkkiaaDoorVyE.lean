/- '==' of the program's structs. -/
import Derived.Test.YtkbgcnppkmkkiaaDoorVxH
import Derived.Laws.StructEq
import Derived.Tactics
import Derived.Tactics2
import Derived.StillTactics
import Derived.KernelRfl
import Derived.Test.YtkbgcnppkmkkiaaDoorProg
set_option linter.unusedVariables false
namespace Go.Proofs.YtkbgcnppkmkkiaaDoor
open Go.V

theorem eqK_nil {l m : List C} {b : Bool} (h : eqK [] l m = some b) : l = [] ∧ m = [] ∧ b = true := by
  unfold eqK at h
  split at h <;> simp_all
theorem eqK_int {k : List EK} {l m : List C} {b : Bool} (h : eqK (.int :: k) l m = some b) : ∃ x y l' m' c, l = .im (.v (.int .i64 x)) :: l' ∧ m = .im (.v (.int .i64 y)) :: m' ∧ eqK k l' m' = some c ∧ b = ((x == y) && c) := by
  unfold eqK at h
  split at h
  · simp_all
  · rename_i h1
    simp only [List.cons.injEq, true_and] at h1
    subst h1
    split at h
    · rename_i c hc
      simp only [Option.some.injEq] at h
      exact ⟨_, _, _, _, c, rfl, rfl, hc, h.symm⟩
    · simp at h
  · simp_all
  · simp_all
  · simp at h
theorem eqK_str {k : List EK} {l m : List C} {b : Bool} (h : eqK (.str :: k) l m = some b) : ∃ x y l' m' c, l = .im (.v (.string x)) :: l' ∧ m = .im (.v (.string y)) :: m' ∧ eqK k l' m' = some c ∧ b = ((x == y) && c) := by
  unfold eqK at h
  split at h
  · simp_all
  · simp_all
  · rename_i h1
    simp only [List.cons.injEq, true_and] at h1
    subst h1
    split at h
    · rename_i c hc
      simp only [Option.some.injEq] at h
      exact ⟨_, _, _, _, c, rfl, rfl, hc, h.symm⟩
    · simp at h
  · simp_all
  · simp at h
theorem cons_rel {E : Env} {av : Nat → Prop} {w : World} {x : Value} {l : List C} {cs : List Value} (h : All2 (CRel E av w) (.im (.v x) :: l) cs) : ∃ cs', cs = x :: cs' ∧ All2 (CRel E av w) l cs' := by
  cases h with
  | cons q k => exact ⟨_, by rw [q.1], k⟩
theorem nil_rel {E : Env} {av : Nat → Prop} {w : World} {cs : List Value} (h : All2 (CRel E av w) [] cs) : cs = [] := by
  cases h; rfl

theorem eq28 (d : Nat) (p1 p2 p3 q1 q2 q3 : Int) (w : World) : (Op.equalIn (d + 2) 28 (.agg #[.int .i64 p1, .int .i64 p2, .int .i64 p3]) (.agg #[.int .i64 q1, .int .i64 q2, .int .i64 q3])).run Tryd.prog w = .ok ((p1 == q1) && ((p2 == q2) && ((p3 == q3) && true))) w := by
  have u3 := Tryd.underlying3
  have a3 := Tryd.isAgg3
  have z3 := Tryd.sizeOf3
  have hS : Tryd.prog.underlying 28 = some (.struct (Tryd.prog.fieldsOf 28)) := by kernel_rfl
  have hp : Tryd.prog.stoodInHeld 28 = false := by kernel_rfl
  rw [run_equalIn_agg w (d + 1) 28 _ _ hS hp]
  simp only [Program.fieldsOf, Tryd.underlying28]
  go_simp
  by_cases h1 : p1 = q1 <;> by_cases h2 : p2 = q2 <;> by_cases h3 : p3 = q3 <;> simp [h1, h2, h3]
theorem eq37 (d : Nat) (p1 p2 q1 q2 : Int) (w : World) : (Op.equalIn (d + 2) 37 (.agg #[.int .i64 p1, .int .i64 p2]) (.agg #[.int .i64 q1, .int .i64 q2])).run Tryd.prog w = .ok ((p1 == q1) && ((p2 == q2) && true)) w := by
  have u3 := Tryd.underlying3
  have a3 := Tryd.isAgg3
  have z3 := Tryd.sizeOf3
  have hS : Tryd.prog.underlying 37 = some (.struct (Tryd.prog.fieldsOf 37)) := by kernel_rfl
  have hp : Tryd.prog.stoodInHeld 37 = false := by kernel_rfl
  rw [run_equalIn_agg w (d + 1) 37 _ _ hS hp]
  simp only [Program.fieldsOf, Tryd.underlying37]
  go_simp
  by_cases h1 : p1 = q1 <;> by_cases h2 : p2 = q2 <;> simp [h1, h2]
theorem eq24 (d : Nat) (a1 a2 b1 b2 : Int) (s1 s2 : ByteArray) (w : World) : (Op.equalIn (d + 2) 24 (.agg #[.int .i64 a1, .int .i64 a2, .string s1]) (.agg #[.int .i64 b1, .int .i64 b2, .string s2])).run Tryd.prog w = .ok ((a1 == b1) && ((a2 == b2) && ((s1 == s2) && true))) w := by
  have u3 := Tryd.underlying3
  have a3 := Tryd.isAgg3
  have z3 := Tryd.sizeOf3
  have u9 := Tryd.underlying9
  have a9 := Tryd.isAgg9
  have z9 := Tryd.sizeOf9
  have hS : Tryd.prog.underlying 24 = some (.struct (Tryd.prog.fieldsOf 24)) := by kernel_rfl
  have hp : Tryd.prog.stoodInHeld 24 = false := by kernel_rfl
  rw [run_equalIn_agg w (d + 1) 24 _ _ hS hp]
  simp only [Program.fieldsOf, Tryd.underlying24]
  go_simp
  rw [beq_toListBytes]
  by_cases h1 : a1 = b1 <;> by_cases h2 : a2 = b2 <;> by_cases h3 : s1.toList = s2.toList <;> simp [h1, h2, h3]
theorem eq50 (d : Nat) (x1 x2 x3 y1 y2 y3 a1 a2 b1 b2 : Int) (s1 s2 : ByteArray) (w : World) : (Op.equalIn (d + 3) 50 (.agg #[.int .i64 x1, .int .i64 x2, .int .i64 x3, .int .i64 a1, .int .i64 a2, .string s1]) (.agg #[.int .i64 y1, .int .i64 y2, .int .i64 y3, .int .i64 b1, .int .i64 b2, .string s2])).run Tryd.prog w =
    .ok ((x1 == y1) && ((x2 == y2) && ((x3 == y3) && ((a1 == b1) && ((a2 == b2) && ((s1 == s2) && true)))))) w := by
  have u3 := Tryd.underlying3
  have a3 := Tryd.isAgg3
  have z3 := Tryd.sizeOf3
  have a24 := Tryd.isAgg24
  have z24 := Tryd.sizeOf24
  have e24 := eq24 d
  have hS : Tryd.prog.underlying 50 = some (.struct (Tryd.prog.fieldsOf 50)) := by kernel_rfl
  have hp : Tryd.prog.stoodInHeld 50 = false := by kernel_rfl
  rw [run_equalIn_agg w (d + 2) 50 _ _ hS hp]
  simp only [Program.fieldsOf, Tryd.underlying50]
  go_simp
  by_cases h1 : x1 = y1 <;> by_cases h2 : x2 = y2 <;> by_cases h3 : x3 = y3 <;> by_cases h4 : a1 = b1 <;> by_cases h5 : a2 = b2 <;> cases (s1 == s2) <;> simp [h1, h2, h3, h4, h5]
/-- '==' of two structs, as the executor reckons it. -/
theorem eq_both {t : TypeId} {cs ds : Array Value} {b : Bool} (hg : Tryd.prog.eqGuardType Tryd.prog.depth t = false) (h : ∀ w, (Op.equalIn 10000 t (.agg cs) (.agg ds)).run Tryd.prog w = .ok b w) (w : World) (x y : Operand) :
    (do eqGuard .eql t x y (.agg cs) (.agg ds); binOp .eql t (.agg cs) (.agg ds)).run Tryd.prog w = .ok (.bool b) w ∧
    (do eqGuard .neq t x y (.agg cs) (.agg ds); binOp .neq t (.agg cs) (.agg ds)).run Tryd.prog w = .ok (.bool (!b)) w := by
  constructor
  · rw [Sem.run_bind, run_eqGuard_agg w .eql t x y cs ds hg, Result.andThen_ok, run_eql_struct, h w, Result.andThen_ok]
  · rw [Sem.run_bind, run_eqGuard_agg w .neq t x y cs ds hg, Result.andThen_ok, run_neq_struct, h w, Result.andThen_ok]
theorem eqs_ok : ∀ t ks, findF t [(50, [EK.int, .int, .int, .int, .int, .str]), (28, [EK.int, .int, .int]), (37, [EK.int, .int]), (24, [EK.int, .int, .str])] = some ks → ∀ (l m : List C) (b : Bool), eqK ks l m = some b → ∀ (E : Env) (av : Nat → Prop) (w : World) (cs ds : Array Value), All2 (CRel E av w) l cs.toList → All2 (CRel E av w) m ds.toList → ∀ (x y : Operand),
    (do eqGuard .eql t x y (.agg cs) (.agg ds); binOp .eql t (.agg cs) (.agg ds)).run Tryd.prog w = .ok (.bool b) w ∧
    (do eqGuard .neq t x y (.agg cs) (.agg ds); binOp .neq t (.agg cs) (.agg ds)).run Tryd.prog w = .ok (.bool (!b)) w := by
  intro t ks ht l m b hb E av w cs ds hl hm x y
  have hmem := findF_mem ht
  obtain ⟨cs⟩ := cs
  obtain ⟨ds⟩ := ds
  simp only at hl hm
  rcases List.mem_cons.1 hmem with h | hmem
  · simp only [Prod.mk.injEq] at h
    obtain ⟨rfl, rfl⟩ := h
    obtain ⟨x1, y1, l, m, c, rfl, rfl, hb1, rfl⟩ := eqK_int hb
    obtain ⟨x2, y2, l, m, c, rfl, rfl, hb2, rfl⟩ := eqK_int hb1
    obtain ⟨x3, y3, l, m, c, rfl, rfl, hb3, rfl⟩ := eqK_int hb2
    obtain ⟨x4, y4, l, m, c, rfl, rfl, hb4, rfl⟩ := eqK_int hb3
    obtain ⟨x5, y5, l, m, c, rfl, rfl, hb5, rfl⟩ := eqK_int hb4
    obtain ⟨x6, y6, l, m, c, rfl, rfl, hb6, rfl⟩ := eqK_str hb5
    obtain ⟨rfl, rfl, rfl⟩ := eqK_nil hb6
    obtain ⟨cs, rfl, hl1⟩ := cons_rel hl
    obtain ⟨cs, rfl, hl2⟩ := cons_rel hl1
    obtain ⟨cs, rfl, hl3⟩ := cons_rel hl2
    obtain ⟨cs, rfl, hl4⟩ := cons_rel hl3
    obtain ⟨cs, rfl, hl5⟩ := cons_rel hl4
    obtain ⟨cs, rfl, hl6⟩ := cons_rel hl5
    obtain rfl := nil_rel hl6
    obtain ⟨ds, rfl, hm1⟩ := cons_rel hm
    obtain ⟨ds, rfl, hm2⟩ := cons_rel hm1
    obtain ⟨ds, rfl, hm3⟩ := cons_rel hm2
    obtain ⟨ds, rfl, hm4⟩ := cons_rel hm3
    obtain ⟨ds, rfl, hm5⟩ := cons_rel hm4
    obtain ⟨ds, rfl, hm6⟩ := cons_rel hm5
    obtain rfl := nil_rel hm6
    exact eq_both (by kernel_rfl) (fun w => eq50 9997 x1 x2 x3 y1 y2 y3 x4 x5 y4 y5 x6 y6 w) w x y
  · rcases List.mem_cons.1 hmem with h | hmem
    · simp only [Prod.mk.injEq] at h
      obtain ⟨rfl, rfl⟩ := h
      obtain ⟨x1, y1, l, m, c, rfl, rfl, hb1, rfl⟩ := eqK_int hb
      obtain ⟨x2, y2, l, m, c, rfl, rfl, hb2, rfl⟩ := eqK_int hb1
      obtain ⟨x3, y3, l, m, c, rfl, rfl, hb3, rfl⟩ := eqK_int hb2
      obtain ⟨rfl, rfl, rfl⟩ := eqK_nil hb3
      obtain ⟨cs, rfl, hl1⟩ := cons_rel hl
      obtain ⟨cs, rfl, hl2⟩ := cons_rel hl1
      obtain ⟨cs, rfl, hl3⟩ := cons_rel hl2
      obtain rfl := nil_rel hl3
      obtain ⟨ds, rfl, hm1⟩ := cons_rel hm
      obtain ⟨ds, rfl, hm2⟩ := cons_rel hm1
      obtain ⟨ds, rfl, hm3⟩ := cons_rel hm2
      obtain rfl := nil_rel hm3
      exact eq_both (by kernel_rfl) (fun w => eq28 9998 x1 x2 x3 y1 y2 y3 w) w x y
    · rcases List.mem_cons.1 hmem with h | hmem
      · simp only [Prod.mk.injEq] at h
        obtain ⟨rfl, rfl⟩ := h
        obtain ⟨x1, y1, l, m, c, rfl, rfl, hb1, rfl⟩ := eqK_int hb
        obtain ⟨x2, y2, l, m, c, rfl, rfl, hb2, rfl⟩ := eqK_int hb1
        obtain ⟨rfl, rfl, rfl⟩ := eqK_nil hb2
        obtain ⟨cs, rfl, hl1⟩ := cons_rel hl
        obtain ⟨cs, rfl, hl2⟩ := cons_rel hl1
        obtain rfl := nil_rel hl2
        obtain ⟨ds, rfl, hm1⟩ := cons_rel hm
        obtain ⟨ds, rfl, hm2⟩ := cons_rel hm1
        obtain rfl := nil_rel hm2
        exact eq_both (by kernel_rfl) (fun w => eq37 9998 x1 x2 y1 y2 w) w x y
      · rcases List.mem_cons.1 hmem with h | hmem
        · simp only [Prod.mk.injEq] at h
          obtain ⟨rfl, rfl⟩ := h
          obtain ⟨x1, y1, l, m, c, rfl, rfl, hb1, rfl⟩ := eqK_int hb
          obtain ⟨x2, y2, l, m, c, rfl, rfl, hb2, rfl⟩ := eqK_int hb1
          obtain ⟨x3, y3, l, m, c, rfl, rfl, hb3, rfl⟩ := eqK_str hb2
          obtain ⟨rfl, rfl, rfl⟩ := eqK_nil hb3
          obtain ⟨cs, rfl, hl1⟩ := cons_rel hl
          obtain ⟨cs, rfl, hl2⟩ := cons_rel hl1
          obtain ⟨cs, rfl, hl3⟩ := cons_rel hl2
          obtain rfl := nil_rel hl3
          obtain ⟨ds, rfl, hm1⟩ := cons_rel hm
          obtain ⟨ds, rfl, hm2⟩ := cons_rel hm1
          obtain ⟨ds, rfl, hm3⟩ := cons_rel hm2
          obtain rfl := nil_rel hm3
          exact eq_both (by kernel_rfl) (fun w => eq24 9998 x1 x2 y1 y2 x3 y3 w) w x y
        · cases hmem
end Go.Proofs.YtkbgcnppkmkkiaaDoor
