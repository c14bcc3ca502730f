/- The law answers true, and changes nothing that was there. -/
import Derived.Test.YtkbgcnppkmkkiaaDoorCon7
set_option linter.unusedVariables false
set_option maxRecDepth 1000000
namespace Go.Proofs.YtkbgcnppkmkkiaaDoor
open Go Go.V Go.RowKit

theorem wideB_iff {k lo hi : Int} (h : wideB k lo hi = true) : k = 126 ∧ lo = -1000000000000000 ∧ hi = 1000000000000000 := by
  unfold wideB at h
  simp only [Bool.and_eq_true, beq_iff_eq] at h
  exact h
theorem ansA (k lo hi kind n : Int) (s : ByteArray) : ansX wideA contA k lo hi kind n s = contA k lo hi kind n s := by
  unfold ansX
  cases hw : wideB k lo hi with
  | true =>
    obtain ⟨rfl, rfl, rfl⟩ := wideB_iff hw
    rw [cond_true]
    rfl
  | false =>
    rw [cond_false]
    cases hk : (k == 0) with
    | true =>
      obtain rfl := eq_of_beq hk
      rw [cond_true, cont_zero]
    | false => rw [cond_false]
theorem ansB (k lo hi kind n : Int) (s : ByteArray) : ansX wideA contB k lo hi kind n s = contB k lo hi kind n s := by
  unfold ansX
  cases hw : wideB k lo hi with
  | true =>
    obtain ⟨rfl, rfl, rfl⟩ := wideB_iff hw
    rw [cond_true, ← cont_same (by omega) (by omega)]
    rfl
  | false =>
    rw [cond_false]
    cases hk : (k == 0) with
    | true =>
      obtain rfl := eq_of_beq hk
      rw [cond_true, ← cont_same (by omega) (by omega), cont_zero]
    | false => rw [cond_false]
theorem diff1_false (q1 q2 : Int) {k : Int} (h0 : 0 ≤ k) (h1 : k < 128) (kind n : Int) (s : ByteArray) : diff1 q1 q2 (ansX wideA contA) (ansX wideA contB) k kind n s = some false := by
  unfold diff1
  rw [ansA, ansB, cont_same h0 h1]
  simp
theorem diff4_false (q1 q2 kind n : Int) (s : ByteArray) {k : Int} (h0 : 0 ≤ k) (h1 : k < 128) {r : List (Option Bool)} (hr : ∀ x ∈ r, x = some false) : ∀ x ∈ diff4 q1 q2 kind n s (ansX wideA contA) (ansX wideA contB) k r, x = some false := by
  intro x hx
  unfold diff4 at hx
  simp only [diff1_false q1 q2 h0 h1, List.mem_cons] at hx
  rcases hx with rfl | rfl | rfl | rfl | hx
  · rfl
  · rfl
  · rfl
  · rfl
  · exact hr x hx
theorem diffs_false (q0 q1 q2 kind n : Int) (s : ByteArray) : ∀ x ∈ diffs q0 q1 q2 kind n s (ansX wideA contA) (ansX wideA contB), x = some false := by
  unfold diffs
  refine diff4_false q1 q2 kind n s (seven_range q0).1 (seven_range q0).2 ?_
  refine diff4_false q1 q2 kind n s (by omega) (by omega) ?_
  refine diff4_false q1 q2 kind n s (by omega) (by omega) ?_
  exact diff4_false q1 q2 kind n s (by omega) (by omega) (fun x hx => by cases hx)
noncomputable abbrev loA : Lo := loX (ansX wideA contA) (ansX wideA contB)
theorem loA_ok : LoOK tab Tryd.prog loA := loX_ok ansA ansB
theorem fn3 : fnF 3 = some Tryd.f3 := by kernel_rfl
theorem body3_eq : Tryd.f3.body = some body3 := by kernel_rfl
theorem tmps3 : Tryd.f3.ntmps = 79 := by kernel_rfl
theorem ends3 (q0 q1 q2 kind n : Int) (s : ByteArray) : ∃ j st, runF tab loA hints 79 3 none 1000 [.code body3] ⟨argSlots 0 (ds3 q0 q1 q2 kind n s), [], []⟩ = some (j, st) ∧ isTrue (Bool.rec none (endF tab st Tryd.f3.results.toList) (retB j)) = true := by
  have h1 := diffs_eq q0 q1 q2 kind n s (ansX wideA contA) (ansX wideA contB)
  have h2 := tail_true q0 q1 q2 kind n s (ansX wideA contA) (ansX wideA contB) wideA contA contB
  cases ho : ora3 q0 q1 q2 kind n s (ansX wideA contA) (ansX wideA contB) with
  | none => rw [ho] at h2; simp [tail3] at h2
  | some x =>
    obtain ⟨l, m, k, st⟩ := x
    rw [ho] at h1 h2
    have h1 : some l = some (diffs q0 q1 q2 kind n s (ansX wideA contA) (ansX wideA contB)) := h1
    simp only [Option.some.injEq] at h1
    subst h1
    have hr := oraF_run 1000 ho (diffs_false q0 q1 q2 kind n s)
    rw [hr]
    have h2 : endB (runF tab loA hints 79 3 none m k st) = true := h2
    unfold endB at h2
    split at h2
    case h_2 => simp at h2
    exact ⟨_, _, by assumption, h2⟩
theorem body_true (q0 q1 q2 kind n : Int) (s : ByteArray) : isTrue (bodyS tab hints fnF 1000 loA 3 (ds3 q0 q1 q2 kind n s) []) = true := by
  obtain ⟨j, st, h1, h2⟩ := ends3 q0 q1 q2 kind n s
  unfold bodyS
  simp only [fn3, body3_eq, tmps3, h1]
  exact h2
noncomputable def lo3 : Lo := ⟨fun f ds rs => bodyS tab hints fnF 1000 loA f ds rs, fun _ _ _ => none⟩
theorem lo3_ok : LoOK tab Tryd.prog lo3 where
  call f ds rs d rs' e := bodyS_sound ty_ok mixed fn_ok loA_ok e
  yld r ds rs d rs' e := by simp [lo3] at e
theorem pure_gen {lo : Lo} (hl : LoOK tab Tryd.prog lo) {ds : List D} (h : isTrue (lo.call 3 ds []) = true) : V.Enters Tryd.prog 3 ∧ Pure1 tab Tryd.prog 3 ds (bool true) := pure_of hl h
theorem known3 (q0 q1 q2 kind n : Int) (s : ByteArray) : V.Enters Tryd.prog 3 ∧ Pure1 tab Tryd.prog 3 (ds3 q0 q1 q2 kind n s) (bool true) := by
  have h : isTrue (lo3.call 3 (ds3 q0 q1 q2 kind n s) []) = true := by
    unfold lo3
    dsimp only
    exact body_true q0 q1 q2 kind n s
  exact pure_gen lo3_ok h
/-- THE LAW'S WALK. -/
theorem law3 (q0 q1 q2 kind n : Int) (s : ByteArray) (hsz : s.size ≤ maxLen) {w : World} (hg : Globs tab (fun _ => False) w) :
    Calls Tryd.prog 3 #[.agg #[.int .i64 q0, .int .i64 q1, .int .i64 q2], .agg #[.int .i64 kind, .int .i64 n, .string s]] w fun e w' => e = .returned (.bool true) ∧ Below w.heap.size w w' := by
  have h := (known3 q0 q1 q2 kind n s).2 (fun _ => False) w [.agg #[.int .i64 q0, .int .i64 q1, .int .i64 q2], .agg #[.int .i64 kind, .int .i64 n, .string s]] (fun b hb => hb.elim) hg
    (.cons ⟨_, rfl, .cons ⟨rfl, rfl⟩ (.cons ⟨rfl, rfl⟩ (.cons ⟨rfl, rfl⟩ .nil))⟩ (.cons ⟨_, rfl, .cons ⟨rfl, rfl⟩ (.cons ⟨rfl, rfl⟩ (.cons ⟨rfl, hsz⟩ .nil))⟩ .nil))
  refine h.mono ?_
  rintro e w' ⟨v, rfl, hd, hb⟩
  have hd : v = .bool true ∧ _ := hd
  obtain ⟨rfl, _⟩ := hd
  exact ⟨rfl, hb⟩
end Go.Proofs.YtkbgcnppkmkkiaaDoor
