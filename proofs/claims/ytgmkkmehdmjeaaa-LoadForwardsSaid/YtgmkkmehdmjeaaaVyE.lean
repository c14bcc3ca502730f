/- '==' of the program's structs. -/
import Derived.Test.YtgmkkmehdmjeaaaVxH
import Derived.Laws.StructEq
import Derived.Tactics
import Derived.Tactics2
import Derived.StillTactics
import Derived.KernelRfl
import Derived.Test.YtgmkkmehdmjeaaaProg
set_option linter.unusedVariables false
namespace Go.Proofs.Ytgmkkmehdmjeaaa
open Go.V

theorem eqK_nil {l m : List C} {b : Bool} (h : eqK [] l m = some b) : l = [] ∧ m = [] ∧ b = true := by
  unfold eqK at h
  split at h <;> simp_all
theorem eqK_int {k : List EK} {l m : List C} {b : Bool} (h : eqK (.int :: k) l m = some b) : ∃ x y l' m' c, l = .im (.v (.int .i64 x)) :: l' ∧ m = .im (.v (.int .i64 y)) :: m' ∧ eqK k l' m' = some c ∧ b = ((x == y) && c) := by
  unfold eqK at h
  split at h
  · simp_all
  · rename_i h1
    simp only [List.cons.injEq, true_and] at h1
    subst h1
    split at h
    · rename_i c hc
      simp only [Option.some.injEq] at h
      exact ⟨_, _, _, _, c, rfl, rfl, hc, h.symm⟩
    · simp at h
  · simp_all
  · simp_all
  · simp at h
theorem eqK_str {k : List EK} {l m : List C} {b : Bool} (h : eqK (.str :: k) l m = some b) : ∃ x y l' m' c, l = .im (.v (.string x)) :: l' ∧ m = .im (.v (.string y)) :: m' ∧ eqK k l' m' = some c ∧ b = ((x == y) && c) := by
  unfold eqK at h
  split at h
  · simp_all
  · simp_all
  · rename_i h1
    simp only [List.cons.injEq, true_and] at h1
    subst h1
    split at h
    · rename_i c hc
      simp only [Option.some.injEq] at h
      exact ⟨_, _, _, _, c, rfl, rfl, hc, h.symm⟩
    · simp at h
  · simp_all
  · simp at h
theorem cons_rel {E : Env} {av : Nat → Prop} {w : World} {x : Value} {l : List C} {cs : List Value} (h : All2 (CRel E av w) (.im (.v x) :: l) cs) : ∃ cs', cs = x :: cs' ∧ All2 (CRel E av w) l cs' := by
  cases h with
  | cons q k => exact ⟨_, by rw [q.1], k⟩
theorem nil_rel {E : Env} {av : Nat → Prop} {w : World} {cs : List Value} (h : All2 (CRel E av w) [] cs) : cs = [] := by
  cases h; rfl

theorem eq29 (d : Nat) (a1 a2 b1 b2 : Int) (w : World) : (Op.equalIn (d + 2) 29 (.agg #[.int .i64 a1, .int .i64 a2]) (.agg #[.int .i64 b1, .int .i64 b2])).run Try.prog w = .ok ((a1 == b1) && ((a2 == b2) && true)) w := by
  have u3 := Try.underlying3
  have a3 := Try.isAgg3
  have z3 := Try.sizeOf3
  have hS : Try.prog.underlying 29 = some (.struct (Try.prog.fieldsOf 29)) := by kernel_rfl
  have hp : Try.prog.stoodInHeld 29 = false := by kernel_rfl
  rw [run_equalIn_agg w (d + 1) 29 _ _ hS hp]
  simp only [Program.fieldsOf, Try.underlying29]
  go_simp
  by_cases h1 : a1 = b1 <;> by_cases h2 : a2 = b2 <;> simp [h1, h2]
theorem eq25 (d : Nat) (a1 a2 b1 b2 : Int) (s1 s2 : ByteArray) (w : World) : (Op.equalIn (d + 2) 25 (.agg #[.int .i64 a1, .int .i64 a2, .string s1]) (.agg #[.int .i64 b1, .int .i64 b2, .string s2])).run Try.prog w = .ok ((a1 == b1) && ((a2 == b2) && ((s1 == s2) && true))) w := by
  have u3 := Try.underlying3
  have a3 := Try.isAgg3
  have z3 := Try.sizeOf3
  have u9 := Try.underlying9
  have a9 := Try.isAgg9
  have z9 := Try.sizeOf9
  have hS : Try.prog.underlying 25 = some (.struct (Try.prog.fieldsOf 25)) := by kernel_rfl
  have hp : Try.prog.stoodInHeld 25 = false := by kernel_rfl
  rw [run_equalIn_agg w (d + 1) 25 _ _ hS hp]
  simp only [Program.fieldsOf, Try.underlying25]
  go_simp
  rw [beq_toListBytes]
  by_cases h1 : a1 = b1 <;> by_cases h2 : a2 = b2 <;> by_cases h3 : s1.toList = s2.toList <;> simp [h1, h2, h3]
theorem eq51 (d : Nat) (x1 x2 x3 y1 y2 y3 a1 a2 b1 b2 : Int) (s1 s2 : ByteArray) (w : World) : (Op.equalIn (d + 3) 51 (.agg #[.int .i64 x1, .int .i64 x2, .int .i64 x3, .int .i64 a1, .int .i64 a2, .string s1]) (.agg #[.int .i64 y1, .int .i64 y2, .int .i64 y3, .int .i64 b1, .int .i64 b2, .string s2])).run Try.prog w =
    .ok ((x1 == y1) && ((x2 == y2) && ((x3 == y3) && ((a1 == b1) && ((a2 == b2) && ((s1 == s2) && true)))))) w := by
  have u3 := Try.underlying3
  have a3 := Try.isAgg3
  have z3 := Try.sizeOf3
  have a25 := Try.isAgg25
  have z25 := Try.sizeOf25
  have e25 := eq25 d
  have hS : Try.prog.underlying 51 = some (.struct (Try.prog.fieldsOf 51)) := by kernel_rfl
  have hp : Try.prog.stoodInHeld 51 = false := by kernel_rfl
  rw [run_equalIn_agg w (d + 2) 51 _ _ hS hp]
  simp only [Program.fieldsOf, Try.underlying51]
  go_simp
  by_cases h1 : x1 = y1 <;> by_cases h2 : x2 = y2 <;> by_cases h3 : x3 = y3 <;> by_cases h4 : a1 = b1 <;> by_cases h5 : a2 = b2 <;> cases (s1 == s2) <;> simp [h1, h2, h3, h4, h5]

/-- '==' of two structs, as the executor reckons it. -/
theorem eq_both {t : TypeId} {cs ds : Array Value} {b : Bool} (hg : Try.prog.eqGuardType Try.prog.depth t = false) (h : ∀ w, (Op.equalIn 10000 t (.agg cs) (.agg ds)).run Try.prog w = .ok b w) (w : World) (x y : Operand) :
    (do eqGuard .eql t x y (.agg cs) (.agg ds); binOp .eql t (.agg cs) (.agg ds)).run Try.prog w = .ok (.bool b) w ∧
    (do eqGuard .neq t x y (.agg cs) (.agg ds); binOp .neq t (.agg cs) (.agg ds)).run Try.prog w = .ok (.bool (!b)) w := by
  constructor
  · rw [Sem.run_bind, run_eqGuard_agg w .eql t x y cs ds hg, Result.andThen_ok, run_eql_struct, h w, Result.andThen_ok]
  · rw [Sem.run_bind, run_eqGuard_agg w .neq t x y cs ds hg, Result.andThen_ok, run_neq_struct, h w, Result.andThen_ok]
theorem eqs_ok : ∀ t ks, findF t [(51, [EK.int, .int, .int, .int, .int, .str]), (29, [EK.int, .int]), (25, [EK.int, .int, .str])] = some ks → ∀ (l m : List C) (b : Bool), eqK ks l m = some b → ∀ (E : Env) (av : Nat → Prop) (w : World) (cs ds : Array Value), All2 (CRel E av w) l cs.toList → All2 (CRel E av w) m ds.toList → ∀ (x y : Operand),
    (do eqGuard .eql t x y (.agg cs) (.agg ds); binOp .eql t (.agg cs) (.agg ds)).run Try.prog w = .ok (.bool b) w ∧
    (do eqGuard .neq t x y (.agg cs) (.agg ds); binOp .neq t (.agg cs) (.agg ds)).run Try.prog w = .ok (.bool (!b)) w := by
  intro t ks ht l m b hb E av w cs ds hl hm x y
  have hmem := findF_mem ht
  obtain ⟨cs⟩ := cs
  obtain ⟨ds⟩ := ds
  simp only at hl hm
  rcases List.mem_cons.1 hmem with h | hmem
  · simp only [Prod.mk.injEq] at h
    obtain ⟨rfl, rfl⟩ := h
    obtain ⟨x1, y1, l, m, c, rfl, rfl, hb1, rfl⟩ := eqK_int hb
    obtain ⟨x2, y2, l, m, c, rfl, rfl, hb2, rfl⟩ := eqK_int hb1
    obtain ⟨x3, y3, l, m, c, rfl, rfl, hb3, rfl⟩ := eqK_int hb2
    obtain ⟨x4, y4, l, m, c, rfl, rfl, hb4, rfl⟩ := eqK_int hb3
    obtain ⟨x5, y5, l, m, c, rfl, rfl, hb5, rfl⟩ := eqK_int hb4
    obtain ⟨x6, y6, l, m, c, rfl, rfl, hb6, rfl⟩ := eqK_str hb5
    obtain ⟨rfl, rfl, rfl⟩ := eqK_nil hb6
    obtain ⟨cs, rfl, hl1⟩ := cons_rel hl
    obtain ⟨cs, rfl, hl2⟩ := cons_rel hl1
    obtain ⟨cs, rfl, hl3⟩ := cons_rel hl2
    obtain ⟨cs, rfl, hl4⟩ := cons_rel hl3
    obtain ⟨cs, rfl, hl5⟩ := cons_rel hl4
    obtain ⟨cs, rfl, hl6⟩ := cons_rel hl5
    obtain rfl := nil_rel hl6
    obtain ⟨ds, rfl, hm1⟩ := cons_rel hm
    obtain ⟨ds, rfl, hm2⟩ := cons_rel hm1
    obtain ⟨ds, rfl, hm3⟩ := cons_rel hm2
    obtain ⟨ds, rfl, hm4⟩ := cons_rel hm3
    obtain ⟨ds, rfl, hm5⟩ := cons_rel hm4
    obtain ⟨ds, rfl, hm6⟩ := cons_rel hm5
    obtain rfl := nil_rel hm6
    exact eq_both (by kernel_rfl) (fun w => eq51 9997 x1 x2 x3 y1 y2 y3 x4 x5 y4 y5 x6 y6 w) w x y
  · rcases List.mem_cons.1 hmem with h | hmem
    · simp only [Prod.mk.injEq] at h
      obtain ⟨rfl, rfl⟩ := h
      obtain ⟨x1, y1, l, m, c, rfl, rfl, hb1, rfl⟩ := eqK_int hb
      obtain ⟨x2, y2, l, m, c, rfl, rfl, hb2, rfl⟩ := eqK_int hb1
      obtain ⟨rfl, rfl, rfl⟩ := eqK_nil hb2
      obtain ⟨cs, rfl, hl1⟩ := cons_rel hl
      obtain ⟨cs, rfl, hl2⟩ := cons_rel hl1
      obtain rfl := nil_rel hl2
      obtain ⟨ds, rfl, hm1⟩ := cons_rel hm
      obtain ⟨ds, rfl, hm2⟩ := cons_rel hm1
      obtain rfl := nil_rel hm2
      exact eq_both (by kernel_rfl) (fun w => eq29 9998 x1 x2 y1 y2 w) w x y
    · rcases List.mem_cons.1 hmem with h | hmem
      · simp only [Prod.mk.injEq] at h
        obtain ⟨rfl, rfl⟩ := h
        obtain ⟨x1, y1, l, m, c, rfl, rfl, hb1, rfl⟩ := eqK_int hb
        obtain ⟨x2, y2, l, m, c, rfl, rfl, hb2, rfl⟩ := eqK_int hb1
        obtain ⟨x6, y6, l, m, c, rfl, rfl, hb3, rfl⟩ := eqK_str hb2
        obtain ⟨rfl, rfl, rfl⟩ := eqK_nil hb3
        obtain ⟨cs, rfl, hl1⟩ := cons_rel hl
        obtain ⟨cs, rfl, hl2⟩ := cons_rel hl1
        obtain ⟨cs, rfl, hl3⟩ := cons_rel hl2
        obtain rfl := nil_rel hl3
        obtain ⟨ds, rfl, hm1⟩ := cons_rel hm
        obtain ⟨ds, rfl, hm2⟩ := cons_rel hm1
        obtain ⟨ds, rfl, hm3⟩ := cons_rel hm2
        obtain rfl := nil_rel hm3
        exact eq_both (by kernel_rfl) (fun w => eq25 9998 x1 x2 y1 y2 x6 y6 w) w x y
      · cases hmem
end Go.Proofs.Ytgmkkmehdmjeaaa
