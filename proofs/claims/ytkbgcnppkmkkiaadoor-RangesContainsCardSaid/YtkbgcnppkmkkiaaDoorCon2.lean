/- What the two functions Contains answer. -/
import Derived.Test.YtkbgcnppkmkkiaaDoorCon
set_option linter.unusedVariables false
namespace Go.Proofs.YtkbgcnppkmkkiaaDoor
open Go Go.RowKit

theorem right_kind {kind n : Int} {s : ByteArray} (h : rightS kind n s = true) : kind = 0 ∨ kind = 1 ∨ kind = 2 ∨ kind = 3 ∨ kind = 4 ∨ kind = 5 ∨ kind = 6 := by
  by_cases k4 : kind = 4
  · omega
  · simp only [rightS, k4, if_false, Bool.and_eq_true] at h
    have h := h.2
    unfold inR at h
    split at h
    · omega
    · split at h
      · omega
      · split at h
        · omega
        · split at h
          · omega
          · split at h
            · omega
            · simp at h
def bitA (k kind : Int) : Bool := bits BinOp.and IntKind.i64 (k / 2 ^ kind.toNat) 1 == 0
def bitB (k kind : Int) : Bool := bits BinOp.and IntKind.i64 k (2 ^ kind.toNat) == 0
def within (k lo hi kind n : Int) : Bool := if kind = 3 ∨ kind = 2 ∧ k = 4 then decide (lo ≤ n) && decide (n ≤ hi) else true
def contA (k lo hi kind n : Int) (s : ByteArray) : Bool := rightS kind n s && (!bitA k kind && within k lo hi kind n)
def contB (k lo hi kind n : Int) (s : ByteArray) : Bool := rightS kind n s && (!bitB k kind && within k lo hi kind n)
set_option maxHeartbeats 4000000 in
theorem cont5 (k lo hi kind n : Int) (s : ByteArray) (w : World) : Calls Tryd.prog 5 #[.agg #[.int .i64 k, .int .i64 lo, .int .i64 hi], .agg #[.int .i64 kind, .int .i64 n, .string s]] w fun e w' => e = .returned (.bool (contA k lo hi kind n s)) ∧ Below w.heap.size w w' := by
  have hC := fun W => right13 kind n s W
  cases hr : rightS kind n s with
  | false =>
    have hv : contA k lo hi kind n s = false := by simp [contA, hr]
    rw [hv]
    simp only [hr] at hC
    clear hr hv
    go_enter Tryd.func5, Tryd.ntmps5
    go_wp2_with (go_at_call 13; refine (hC _).mono ?_; rintro e w' ⟨rfl, hb⟩; have hB : Below w.heap.size w w' := (((Below.refl _ w).alloc (Nat.le_refl _) _).alloc (by simp) _).trans (hb.mono (by simp; omega)); have b0 : w'.cell? ⟨w.heap.size, 0, none⟩ = some (.int .i64 k) := (hb.cell (p := ⟨w.heap.size, 0, none⟩) (by first | (simp; done) | (simp; omega))).trans (by simp); have b1 : w'.cell? ⟨w.heap.size, 1, none⟩ = some (.int .i64 lo) := (hb.cell (p := ⟨w.heap.size, 1, none⟩) (by first | (simp; done) | (simp; omega))).trans (by simp); have b2 : w'.cell? ⟨w.heap.size, 2, none⟩ = some (.int .i64 hi) := (hb.cell (p := ⟨w.heap.size, 2, none⟩) (by first | (simp; done) | (simp; omega))).trans (by simp); have c0 : w'.cell? ⟨w.heap.size + 1, 0, none⟩ = some (.int .i64 kind) := (hb.cell (p := ⟨w.heap.size + 1, 0, none⟩) (by first | (simp; done) | (simp; omega))).trans (by simp); have c1 : w'.cell? ⟨w.heap.size + 1, 1, none⟩ = some (.int .i64 n) := (hb.cell (p := ⟨w.heap.size + 1, 1, none⟩) (by first | (simp; done) | (simp; omega))).trans (by simp))
    go_ret
    exact ⟨rfl, hB⟩
  | true =>
    simp only [hr] at hC
    have hv : contA k lo hi kind n s = (!bitA k kind && within k lo hi kind n) := by simp [contA, hr]
    rw [hv]
    rcases right_kind hr with rfl | rfl | rfl | rfl | rfl | rfl | rfl
    · clear hr hv
      go_enter Tryd.func5, Tryd.ntmps5
      go_wp2_with (go_at_call 13; refine (hC _).mono ?_; rintro e w' ⟨rfl, hb⟩; have hB : Below w.heap.size w w' := (((Below.refl _ w).alloc (Nat.le_refl _) _).alloc (by simp) _).trans (hb.mono (by simp; omega)); have b0 : w'.cell? ⟨w.heap.size, 0, none⟩ = some (.int .i64 k) := (hb.cell (p := ⟨w.heap.size, 0, none⟩) (by first | (simp; done) | (simp; omega))).trans (by simp); have b1 : w'.cell? ⟨w.heap.size, 1, none⟩ = some (.int .i64 lo) := (hb.cell (p := ⟨w.heap.size, 1, none⟩) (by first | (simp; done) | (simp; omega))).trans (by simp); have b2 : w'.cell? ⟨w.heap.size, 2, none⟩ = some (.int .i64 hi) := (hb.cell (p := ⟨w.heap.size, 2, none⟩) (by first | (simp; done) | (simp; omega))).trans (by simp); have c0 : w'.cell? ⟨w.heap.size + 1, 0, none⟩ = some (.int .i64 0) := (hb.cell (p := ⟨w.heap.size + 1, 0, none⟩) (by first | (simp; done) | (simp; omega))).trans (by simp); have c1 : w'.cell? ⟨w.heap.size + 1, 1, none⟩ = some (.int .i64 n) := (hb.cell (p := ⟨w.heap.size + 1, 1, none⟩) (by first | (simp; done) | (simp; omega))).trans (by simp))
      all_goals
        go_ret
        exact ⟨by first | (refine ret_bool ?_; simp [bitA, within, *]; done) | (refine ret_bool ?_; simp [bitA, within, *]; omega) | (refine ret_bool ?_; simp_all [bitA, within]; done) | (refine ret_bool ?_; simp_all [bitA, within]; omega), hB⟩
    · clear hr hv
      go_enter Tryd.func5, Tryd.ntmps5
      go_wp2_with (go_at_call 13; refine (hC _).mono ?_; rintro e w' ⟨rfl, hb⟩; have hB : Below w.heap.size w w' := (((Below.refl _ w).alloc (Nat.le_refl _) _).alloc (by simp) _).trans (hb.mono (by simp; omega)); have b0 : w'.cell? ⟨w.heap.size, 0, none⟩ = some (.int .i64 k) := (hb.cell (p := ⟨w.heap.size, 0, none⟩) (by first | (simp; done) | (simp; omega))).trans (by simp); have b1 : w'.cell? ⟨w.heap.size, 1, none⟩ = some (.int .i64 lo) := (hb.cell (p := ⟨w.heap.size, 1, none⟩) (by first | (simp; done) | (simp; omega))).trans (by simp); have b2 : w'.cell? ⟨w.heap.size, 2, none⟩ = some (.int .i64 hi) := (hb.cell (p := ⟨w.heap.size, 2, none⟩) (by first | (simp; done) | (simp; omega))).trans (by simp); have c0 : w'.cell? ⟨w.heap.size + 1, 0, none⟩ = some (.int .i64 1) := (hb.cell (p := ⟨w.heap.size + 1, 0, none⟩) (by first | (simp; done) | (simp; omega))).trans (by simp); have c1 : w'.cell? ⟨w.heap.size + 1, 1, none⟩ = some (.int .i64 n) := (hb.cell (p := ⟨w.heap.size + 1, 1, none⟩) (by first | (simp; done) | (simp; omega))).trans (by simp))
      all_goals
        go_ret
        exact ⟨by first | (refine ret_bool ?_; simp [bitA, within, *]; done) | (refine ret_bool ?_; simp [bitA, within, *]; omega) | (refine ret_bool ?_; simp_all [bitA, within]; done) | (refine ret_bool ?_; simp_all [bitA, within]; omega), hB⟩
    · clear hr hv
      go_enter Tryd.func5, Tryd.ntmps5
      go_wp2_with (go_at_call 13; refine (hC _).mono ?_; rintro e w' ⟨rfl, hb⟩; have hB : Below w.heap.size w w' := (((Below.refl _ w).alloc (Nat.le_refl _) _).alloc (by simp) _).trans (hb.mono (by simp; omega)); have b0 : w'.cell? ⟨w.heap.size, 0, none⟩ = some (.int .i64 k) := (hb.cell (p := ⟨w.heap.size, 0, none⟩) (by first | (simp; done) | (simp; omega))).trans (by simp); have b1 : w'.cell? ⟨w.heap.size, 1, none⟩ = some (.int .i64 lo) := (hb.cell (p := ⟨w.heap.size, 1, none⟩) (by first | (simp; done) | (simp; omega))).trans (by simp); have b2 : w'.cell? ⟨w.heap.size, 2, none⟩ = some (.int .i64 hi) := (hb.cell (p := ⟨w.heap.size, 2, none⟩) (by first | (simp; done) | (simp; omega))).trans (by simp); have c0 : w'.cell? ⟨w.heap.size + 1, 0, none⟩ = some (.int .i64 2) := (hb.cell (p := ⟨w.heap.size + 1, 0, none⟩) (by first | (simp; done) | (simp; omega))).trans (by simp); have c1 : w'.cell? ⟨w.heap.size + 1, 1, none⟩ = some (.int .i64 n) := (hb.cell (p := ⟨w.heap.size + 1, 1, none⟩) (by first | (simp; done) | (simp; omega))).trans (by simp))
      all_goals
        go_ret
        exact ⟨by first | (refine ret_bool ?_; simp [bitA, within, *]; done) | (refine ret_bool ?_; simp [bitA, within, *]; omega) | (refine ret_bool ?_; simp_all [bitA, within]; done) | (refine ret_bool ?_; simp_all [bitA, within]; omega), hB⟩
    · clear hr hv
      go_enter Tryd.func5, Tryd.ntmps5
      go_wp2_with (go_at_call 13; refine (hC _).mono ?_; rintro e w' ⟨rfl, hb⟩; have hB : Below w.heap.size w w' := (((Below.refl _ w).alloc (Nat.le_refl _) _).alloc (by simp) _).trans (hb.mono (by simp; omega)); have b0 : w'.cell? ⟨w.heap.size, 0, none⟩ = some (.int .i64 k) := (hb.cell (p := ⟨w.heap.size, 0, none⟩) (by first | (simp; done) | (simp; omega))).trans (by simp); have b1 : w'.cell? ⟨w.heap.size, 1, none⟩ = some (.int .i64 lo) := (hb.cell (p := ⟨w.heap.size, 1, none⟩) (by first | (simp; done) | (simp; omega))).trans (by simp); have b2 : w'.cell? ⟨w.heap.size, 2, none⟩ = some (.int .i64 hi) := (hb.cell (p := ⟨w.heap.size, 2, none⟩) (by first | (simp; done) | (simp; omega))).trans (by simp); have c0 : w'.cell? ⟨w.heap.size + 1, 0, none⟩ = some (.int .i64 3) := (hb.cell (p := ⟨w.heap.size + 1, 0, none⟩) (by first | (simp; done) | (simp; omega))).trans (by simp); have c1 : w'.cell? ⟨w.heap.size + 1, 1, none⟩ = some (.int .i64 n) := (hb.cell (p := ⟨w.heap.size + 1, 1, none⟩) (by first | (simp; done) | (simp; omega))).trans (by simp))
      all_goals
        go_ret
        exact ⟨by first | (refine ret_bool ?_; simp [bitA, within, *]; done) | (refine ret_bool ?_; simp [bitA, within, *]; omega) | (refine ret_bool ?_; simp_all [bitA, within]; done) | (refine ret_bool ?_; simp_all [bitA, within]; omega), hB⟩
    · clear hr hv
      go_enter Tryd.func5, Tryd.ntmps5
      go_wp2_with (go_at_call 13; refine (hC _).mono ?_; rintro e w' ⟨rfl, hb⟩; have hB : Below w.heap.size w w' := (((Below.refl _ w).alloc (Nat.le_refl _) _).alloc (by simp) _).trans (hb.mono (by simp; omega)); have b0 : w'.cell? ⟨w.heap.size, 0, none⟩ = some (.int .i64 k) := (hb.cell (p := ⟨w.heap.size, 0, none⟩) (by first | (simp; done) | (simp; omega))).trans (by simp); have b1 : w'.cell? ⟨w.heap.size, 1, none⟩ = some (.int .i64 lo) := (hb.cell (p := ⟨w.heap.size, 1, none⟩) (by first | (simp; done) | (simp; omega))).trans (by simp); have b2 : w'.cell? ⟨w.heap.size, 2, none⟩ = some (.int .i64 hi) := (hb.cell (p := ⟨w.heap.size, 2, none⟩) (by first | (simp; done) | (simp; omega))).trans (by simp); have c0 : w'.cell? ⟨w.heap.size + 1, 0, none⟩ = some (.int .i64 4) := (hb.cell (p := ⟨w.heap.size + 1, 0, none⟩) (by first | (simp; done) | (simp; omega))).trans (by simp); have c1 : w'.cell? ⟨w.heap.size + 1, 1, none⟩ = some (.int .i64 n) := (hb.cell (p := ⟨w.heap.size + 1, 1, none⟩) (by first | (simp; done) | (simp; omega))).trans (by simp))
      all_goals
        go_ret
        exact ⟨by first | (refine ret_bool ?_; simp [bitA, within, *]; done) | (refine ret_bool ?_; simp [bitA, within, *]; omega) | (refine ret_bool ?_; simp_all [bitA, within]; done) | (refine ret_bool ?_; simp_all [bitA, within]; omega), hB⟩
    · clear hr hv
      go_enter Tryd.func5, Tryd.ntmps5
      go_wp2_with (go_at_call 13; refine (hC _).mono ?_; rintro e w' ⟨rfl, hb⟩; have hB : Below w.heap.size w w' := (((Below.refl _ w).alloc (Nat.le_refl _) _).alloc (by simp) _).trans (hb.mono (by simp; omega)); have b0 : w'.cell? ⟨w.heap.size, 0, none⟩ = some (.int .i64 k) := (hb.cell (p := ⟨w.heap.size, 0, none⟩) (by first | (simp; done) | (simp; omega))).trans (by simp); have b1 : w'.cell? ⟨w.heap.size, 1, none⟩ = some (.int .i64 lo) := (hb.cell (p := ⟨w.heap.size, 1, none⟩) (by first | (simp; done) | (simp; omega))).trans (by simp); have b2 : w'.cell? ⟨w.heap.size, 2, none⟩ = some (.int .i64 hi) := (hb.cell (p := ⟨w.heap.size, 2, none⟩) (by first | (simp; done) | (simp; omega))).trans (by simp); have c0 : w'.cell? ⟨w.heap.size + 1, 0, none⟩ = some (.int .i64 5) := (hb.cell (p := ⟨w.heap.size + 1, 0, none⟩) (by first | (simp; done) | (simp; omega))).trans (by simp); have c1 : w'.cell? ⟨w.heap.size + 1, 1, none⟩ = some (.int .i64 n) := (hb.cell (p := ⟨w.heap.size + 1, 1, none⟩) (by first | (simp; done) | (simp; omega))).trans (by simp))
      all_goals
        go_ret
        exact ⟨by first | (refine ret_bool ?_; simp [bitA, within, *]; done) | (refine ret_bool ?_; simp [bitA, within, *]; omega) | (refine ret_bool ?_; simp_all [bitA, within]; done) | (refine ret_bool ?_; simp_all [bitA, within]; omega), hB⟩
    · clear hr hv
      go_enter Tryd.func5, Tryd.ntmps5
      go_wp2_with (go_at_call 13; refine (hC _).mono ?_; rintro e w' ⟨rfl, hb⟩; have hB : Below w.heap.size w w' := (((Below.refl _ w).alloc (Nat.le_refl _) _).alloc (by simp) _).trans (hb.mono (by simp; omega)); have b0 : w'.cell? ⟨w.heap.size, 0, none⟩ = some (.int .i64 k) := (hb.cell (p := ⟨w.heap.size, 0, none⟩) (by first | (simp; done) | (simp; omega))).trans (by simp); have b1 : w'.cell? ⟨w.heap.size, 1, none⟩ = some (.int .i64 lo) := (hb.cell (p := ⟨w.heap.size, 1, none⟩) (by first | (simp; done) | (simp; omega))).trans (by simp); have b2 : w'.cell? ⟨w.heap.size, 2, none⟩ = some (.int .i64 hi) := (hb.cell (p := ⟨w.heap.size, 2, none⟩) (by first | (simp; done) | (simp; omega))).trans (by simp); have c0 : w'.cell? ⟨w.heap.size + 1, 0, none⟩ = some (.int .i64 6) := (hb.cell (p := ⟨w.heap.size + 1, 0, none⟩) (by first | (simp; done) | (simp; omega))).trans (by simp); have c1 : w'.cell? ⟨w.heap.size + 1, 1, none⟩ = some (.int .i64 n) := (hb.cell (p := ⟨w.heap.size + 1, 1, none⟩) (by first | (simp; done) | (simp; omega))).trans (by simp))
      all_goals
        go_ret
        exact ⟨by first | (refine ret_bool ?_; simp [bitA, within, *]; done) | (refine ret_bool ?_; simp [bitA, within, *]; omega) | (refine ret_bool ?_; simp_all [bitA, within]; done) | (refine ret_bool ?_; simp_all [bitA, within]; omega), hB⟩
end Go.Proofs.YtkbgcnppkmkkiaaDoor
