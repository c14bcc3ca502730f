/- What the reference's function Contains answers. -/
import Derived.Test.YtkbgcnppkmkkiaaDoorCon2
import Derived.Deep.QuietTactic
import Derived.BigQuiet
set_option linter.unusedVariables false
namespace Go.Proofs.YtkbgcnppkmkkiaaDoor
open Go Go.RowKit
theorem below_drewN (n : Nat) (w : World) (q : Nat) : Below n w (w.drewN q) := ⟨rfl, rfl, rfl, Nat.le_refl _, fun _ _ => rfl⟩
theorem bit15_0 (w : World) : Calls Tryd.prog 15 #[.int .i64 0] w fun e w' => e = .returned (.int .i64 1) ∧ w' = w := by
  go_enter Tryd.func15, Tryd.ntmps15
  go_wp2
  go_ret
  exact ⟨by first | rfl | decide, rfl⟩
theorem bit15_1 (w : World) : Calls Tryd.prog 15 #[.int .i64 1] w fun e w' => e = .returned (.int .i64 2) ∧ w' = w := by
  go_enter Tryd.func15, Tryd.ntmps15
  go_wp2
  go_ret
  exact ⟨by first | rfl | decide, rfl⟩
theorem bit15_2 (w : World) : Calls Tryd.prog 15 #[.int .i64 2] w fun e w' => e = .returned (.int .i64 4) ∧ w' = w := by
  go_enter Tryd.func15, Tryd.ntmps15
  go_wp2
  go_ret
  exact ⟨by first | rfl | decide, rfl⟩
theorem bit15_3 (w : World) : Calls Tryd.prog 15 #[.int .i64 3] w fun e w' => e = .returned (.int .i64 8) ∧ w' = w := by
  go_enter Tryd.func15, Tryd.ntmps15
  go_wp2
  go_ret
  exact ⟨by first | rfl | decide, rfl⟩
theorem bit15_4 (w : World) : Calls Tryd.prog 15 #[.int .i64 4] w fun e w' => e = .returned (.int .i64 16) ∧ w' = w := by
  go_enter Tryd.func15, Tryd.ntmps15
  go_wp2
  go_ret
  exact ⟨by first | rfl | decide, rfl⟩
theorem bit15_5 (w : World) : Calls Tryd.prog 15 #[.int .i64 5] w fun e w' => e = .returned (.int .i64 32) ∧ w' = w := by
  go_enter Tryd.func15, Tryd.ntmps15
  go_wp2
  go_ret
  exact ⟨by first | rfl | decide, rfl⟩
theorem bit15_6 (w : World) : Calls Tryd.prog 15 #[.int .i64 6] w fun e w' => e = .returned (.int .i64 64) ∧ w' = w := by
  go_enter Tryd.func15, Tryd.ntmps15
  go_wp2
  go_ret
  exact ⟨by first | rfl | decide, rfl⟩
set_option maxHeartbeats 4000000 in
theorem cont6 (k lo hi kind n : Int) (s : ByteArray) (w : World) (hsz : s.size ≤ maxLen) : Calls Tryd.prog 6 #[.agg #[.int .i64 k, .int .i64 lo, .int .i64 hi], .agg #[.int .i64 kind, .int .i64 n, .string s]] w fun e w' => e = .returned (.bool (contB k lo hi kind n s)) ∧ Below w.heap.size w w' := by
  have hC := fun W => right14 kind n s W hsz
  cases hr : rightS kind n s with
  | false =>
    have hv : contB k lo hi kind n s = false := by simp [contB, hr]
    rw [hv]
    simp only [hr] at hC
    clear hr hv
    go_enter Tryd.func6, Tryd.ntmps6
    go_wp2_with (go_at_call 14; refine (hC _).mono ?_; rintro e w' ⟨rfl, hb⟩; have hB : Below w.heap.size w w' := (((Below.refl _ w).alloc (Nat.le_refl _) _).alloc (by simp) _).trans (hb.mono (by simp; omega)); have b0 : w'.cell? ⟨w.heap.size, 0, none⟩ = some (.int .i64 k) := (hb.cell (p := ⟨w.heap.size, 0, none⟩) (by first | (simp; done) | (simp; omega))).trans (by simp); have b1 : w'.cell? ⟨w.heap.size, 1, none⟩ = some (.int .i64 lo) := (hb.cell (p := ⟨w.heap.size, 1, none⟩) (by first | (simp; done) | (simp; omega))).trans (by simp); have b2 : w'.cell? ⟨w.heap.size, 2, none⟩ = some (.int .i64 hi) := (hb.cell (p := ⟨w.heap.size, 2, none⟩) (by first | (simp; done) | (simp; omega))).trans (by simp); have c0 : w'.cell? ⟨w.heap.size + 1, 0, none⟩ = some (.int .i64 kind) := (hb.cell (p := ⟨w.heap.size + 1, 0, none⟩) (by first | (simp; done) | (simp; omega))).trans (by simp); have c1 : w'.cell? ⟨w.heap.size + 1, 1, none⟩ = some (.int .i64 n) := (hb.cell (p := ⟨w.heap.size + 1, 1, none⟩) (by first | (simp; done) | (simp; omega))).trans (by simp))
    go_quiet (fail)
    go_wp2
    go_ret
    exact ⟨rfl, hB.trans (below_drewN _ _ _)⟩
  | true =>
    simp only [hr] at hC
    have hv : contB k lo hi kind n s = (!bitB k kind && within k lo hi kind n) := by simp [contB, hr]
    rw [hv]
    rcases right_kind hr with rfl | rfl | rfl | rfl | rfl | rfl | rfl
    · clear hr hv
      go_enter Tryd.func6, Tryd.ntmps6
      go_wp2_with (go_at_call 14; refine (hC _).mono ?_; rintro e w' ⟨rfl, hb⟩; have hB : Below w.heap.size w w' := (((Below.refl _ w).alloc (Nat.le_refl _) _).alloc (by simp) _).trans (hb.mono (by simp; omega)); have b0 : w'.cell? ⟨w.heap.size, 0, none⟩ = some (.int .i64 k) := (hb.cell (p := ⟨w.heap.size, 0, none⟩) (by first | (simp; done) | (simp; omega))).trans (by simp); have b1 : w'.cell? ⟨w.heap.size, 1, none⟩ = some (.int .i64 lo) := (hb.cell (p := ⟨w.heap.size, 1, none⟩) (by first | (simp; done) | (simp; omega))).trans (by simp); have b2 : w'.cell? ⟨w.heap.size, 2, none⟩ = some (.int .i64 hi) := (hb.cell (p := ⟨w.heap.size, 2, none⟩) (by first | (simp; done) | (simp; omega))).trans (by simp); have c0 : w'.cell? ⟨w.heap.size + 1, 0, none⟩ = some (.int .i64 0) := (hb.cell (p := ⟨w.heap.size + 1, 0, none⟩) (by first | (simp; done) | (simp; omega))).trans (by simp); have c1 : w'.cell? ⟨w.heap.size + 1, 1, none⟩ = some (.int .i64 n) := (hb.cell (p := ⟨w.heap.size + 1, 1, none⟩) (by first | (simp; done) | (simp; omega))).trans (by simp))
      go_quiet ((go_at_call 15; exact Calls.quiet_of_same (bit15_0 _)))
      cases hbit : (bits BinOp.and IntKind.i64 k 1 == 0)
      · skip
        all_goals
          go_wp2
          go_quiet (exact (bit15_2 _).mono fun e w2 h2 => ⟨h2.1, _, h2.2⟩)
          go_wp2
        all_goals
          go_ret
          exact ⟨by first | (refine ret_bool ?_; simp [bitB, within, hbit, *]; done) | (refine ret_bool ?_; simp [bitB, within, hbit, *]; omega) | (refine ret_bool ?_; simp_all [bitB, within]; done) | (refine ret_bool ?_; simp_all [bitB, within]; omega), by first | exact (hB.trans (below_drewN _ _ _)).trans (below_drewN _ _ _) | exact hB.trans (below_drewN _ _ _) | exact ⟨hB.os, hB.tape, hB.output, hB.size, hB.block⟩⟩
      · go_wp2
        go_ret
        exact ⟨ret_bool (by simp [bitB, hbit]), hB.trans (below_drewN _ _ _)⟩
    · clear hr hv
      go_enter Tryd.func6, Tryd.ntmps6
      go_wp2_with (go_at_call 14; refine (hC _).mono ?_; rintro e w' ⟨rfl, hb⟩; have hB : Below w.heap.size w w' := (((Below.refl _ w).alloc (Nat.le_refl _) _).alloc (by simp) _).trans (hb.mono (by simp; omega)); have b0 : w'.cell? ⟨w.heap.size, 0, none⟩ = some (.int .i64 k) := (hb.cell (p := ⟨w.heap.size, 0, none⟩) (by first | (simp; done) | (simp; omega))).trans (by simp); have b1 : w'.cell? ⟨w.heap.size, 1, none⟩ = some (.int .i64 lo) := (hb.cell (p := ⟨w.heap.size, 1, none⟩) (by first | (simp; done) | (simp; omega))).trans (by simp); have b2 : w'.cell? ⟨w.heap.size, 2, none⟩ = some (.int .i64 hi) := (hb.cell (p := ⟨w.heap.size, 2, none⟩) (by first | (simp; done) | (simp; omega))).trans (by simp); have c0 : w'.cell? ⟨w.heap.size + 1, 0, none⟩ = some (.int .i64 1) := (hb.cell (p := ⟨w.heap.size + 1, 0, none⟩) (by first | (simp; done) | (simp; omega))).trans (by simp); have c1 : w'.cell? ⟨w.heap.size + 1, 1, none⟩ = some (.int .i64 n) := (hb.cell (p := ⟨w.heap.size + 1, 1, none⟩) (by first | (simp; done) | (simp; omega))).trans (by simp))
      go_quiet ((go_at_call 15; exact Calls.quiet_of_same (bit15_1 _)))
      cases hbit : (bits BinOp.and IntKind.i64 k 2 == 0)
      · skip
        all_goals
          go_wp2
          go_quiet (exact (bit15_2 _).mono fun e w2 h2 => ⟨h2.1, _, h2.2⟩)
          go_wp2
        all_goals
          go_ret
          exact ⟨by first | (refine ret_bool ?_; simp [bitB, within, hbit, *]; done) | (refine ret_bool ?_; simp [bitB, within, hbit, *]; omega) | (refine ret_bool ?_; simp_all [bitB, within]; done) | (refine ret_bool ?_; simp_all [bitB, within]; omega), by first | exact (hB.trans (below_drewN _ _ _)).trans (below_drewN _ _ _) | exact hB.trans (below_drewN _ _ _) | exact ⟨hB.os, hB.tape, hB.output, hB.size, hB.block⟩⟩
      · go_wp2
        go_ret
        exact ⟨ret_bool (by simp [bitB, hbit]), hB.trans (below_drewN _ _ _)⟩
    · clear hr hv
      go_enter Tryd.func6, Tryd.ntmps6
      go_wp2_with (go_at_call 14; refine (hC _).mono ?_; rintro e w' ⟨rfl, hb⟩; have hB : Below w.heap.size w w' := (((Below.refl _ w).alloc (Nat.le_refl _) _).alloc (by simp) _).trans (hb.mono (by simp; omega)); have b0 : w'.cell? ⟨w.heap.size, 0, none⟩ = some (.int .i64 k) := (hb.cell (p := ⟨w.heap.size, 0, none⟩) (by first | (simp; done) | (simp; omega))).trans (by simp); have b1 : w'.cell? ⟨w.heap.size, 1, none⟩ = some (.int .i64 lo) := (hb.cell (p := ⟨w.heap.size, 1, none⟩) (by first | (simp; done) | (simp; omega))).trans (by simp); have b2 : w'.cell? ⟨w.heap.size, 2, none⟩ = some (.int .i64 hi) := (hb.cell (p := ⟨w.heap.size, 2, none⟩) (by first | (simp; done) | (simp; omega))).trans (by simp); have c0 : w'.cell? ⟨w.heap.size + 1, 0, none⟩ = some (.int .i64 2) := (hb.cell (p := ⟨w.heap.size + 1, 0, none⟩) (by first | (simp; done) | (simp; omega))).trans (by simp); have c1 : w'.cell? ⟨w.heap.size + 1, 1, none⟩ = some (.int .i64 n) := (hb.cell (p := ⟨w.heap.size + 1, 1, none⟩) (by first | (simp; done) | (simp; omega))).trans (by simp))
      go_quiet ((go_at_call 15; exact Calls.quiet_of_same (bit15_2 _)))
      cases hbit : (bits BinOp.and IntKind.i64 k 4 == 0)
      · cases hk4 : (k == 4)
        all_goals
          go_wp2
          go_quiet (exact (bit15_2 _).mono fun e w2 h2 => ⟨h2.1, _, h2.2⟩)
          go_wp2
        all_goals
          go_ret
          exact ⟨by first | (refine ret_bool ?_; simp [bitB, within, hbit, *]; done) | (refine ret_bool ?_; simp [bitB, within, hbit, *]; omega) | (refine ret_bool ?_; simp_all [bitB, within]; done) | (refine ret_bool ?_; simp_all [bitB, within]; omega), by first | exact (hB.trans (below_drewN _ _ _)).trans (below_drewN _ _ _) | exact hB.trans (below_drewN _ _ _) | exact ⟨hB.os, hB.tape, hB.output, hB.size, hB.block⟩⟩
      · go_wp2
        go_ret
        exact ⟨ret_bool (by simp [bitB, hbit]), hB.trans (below_drewN _ _ _)⟩
    · clear hr hv
      go_enter Tryd.func6, Tryd.ntmps6
      go_wp2_with (go_at_call 14; refine (hC _).mono ?_; rintro e w' ⟨rfl, hb⟩; have hB : Below w.heap.size w w' := (((Below.refl _ w).alloc (Nat.le_refl _) _).alloc (by simp) _).trans (hb.mono (by simp; omega)); have b0 : w'.cell? ⟨w.heap.size, 0, none⟩ = some (.int .i64 k) := (hb.cell (p := ⟨w.heap.size, 0, none⟩) (by first | (simp; done) | (simp; omega))).trans (by simp); have b1 : w'.cell? ⟨w.heap.size, 1, none⟩ = some (.int .i64 lo) := (hb.cell (p := ⟨w.heap.size, 1, none⟩) (by first | (simp; done) | (simp; omega))).trans (by simp); have b2 : w'.cell? ⟨w.heap.size, 2, none⟩ = some (.int .i64 hi) := (hb.cell (p := ⟨w.heap.size, 2, none⟩) (by first | (simp; done) | (simp; omega))).trans (by simp); have c0 : w'.cell? ⟨w.heap.size + 1, 0, none⟩ = some (.int .i64 3) := (hb.cell (p := ⟨w.heap.size + 1, 0, none⟩) (by first | (simp; done) | (simp; omega))).trans (by simp); have c1 : w'.cell? ⟨w.heap.size + 1, 1, none⟩ = some (.int .i64 n) := (hb.cell (p := ⟨w.heap.size + 1, 1, none⟩) (by first | (simp; done) | (simp; omega))).trans (by simp))
      go_quiet ((go_at_call 15; exact Calls.quiet_of_same (bit15_3 _)))
      cases hbit : (bits BinOp.and IntKind.i64 k 8 == 0)
      · skip
        all_goals
          go_wp2
          go_quiet (exact (bit15_2 _).mono fun e w2 h2 => ⟨h2.1, _, h2.2⟩)
          go_wp2
        all_goals
          go_ret
          exact ⟨by first | (refine ret_bool ?_; simp [bitB, within, hbit, *]; done) | (refine ret_bool ?_; simp [bitB, within, hbit, *]; omega) | (refine ret_bool ?_; simp_all [bitB, within]; done) | (refine ret_bool ?_; simp_all [bitB, within]; omega), by first | exact (hB.trans (below_drewN _ _ _)).trans (below_drewN _ _ _) | exact hB.trans (below_drewN _ _ _) | exact ⟨hB.os, hB.tape, hB.output, hB.size, hB.block⟩⟩
      · go_wp2
        go_ret
        exact ⟨ret_bool (by simp [bitB, hbit]), hB.trans (below_drewN _ _ _)⟩
    · clear hr hv
      go_enter Tryd.func6, Tryd.ntmps6
      go_wp2_with (go_at_call 14; refine (hC _).mono ?_; rintro e w' ⟨rfl, hb⟩; have hB : Below w.heap.size w w' := (((Below.refl _ w).alloc (Nat.le_refl _) _).alloc (by simp) _).trans (hb.mono (by simp; omega)); have b0 : w'.cell? ⟨w.heap.size, 0, none⟩ = some (.int .i64 k) := (hb.cell (p := ⟨w.heap.size, 0, none⟩) (by first | (simp; done) | (simp; omega))).trans (by simp); have b1 : w'.cell? ⟨w.heap.size, 1, none⟩ = some (.int .i64 lo) := (hb.cell (p := ⟨w.heap.size, 1, none⟩) (by first | (simp; done) | (simp; omega))).trans (by simp); have b2 : w'.cell? ⟨w.heap.size, 2, none⟩ = some (.int .i64 hi) := (hb.cell (p := ⟨w.heap.size, 2, none⟩) (by first | (simp; done) | (simp; omega))).trans (by simp); have c0 : w'.cell? ⟨w.heap.size + 1, 0, none⟩ = some (.int .i64 4) := (hb.cell (p := ⟨w.heap.size + 1, 0, none⟩) (by first | (simp; done) | (simp; omega))).trans (by simp); have c1 : w'.cell? ⟨w.heap.size + 1, 1, none⟩ = some (.int .i64 n) := (hb.cell (p := ⟨w.heap.size + 1, 1, none⟩) (by first | (simp; done) | (simp; omega))).trans (by simp))
      go_quiet ((go_at_call 15; exact Calls.quiet_of_same (bit15_4 _)))
      cases hbit : (bits BinOp.and IntKind.i64 k 16 == 0)
      · skip
        all_goals
          go_wp2
          go_quiet (exact (bit15_2 _).mono fun e w2 h2 => ⟨h2.1, _, h2.2⟩)
          go_wp2
        all_goals
          go_ret
          exact ⟨by first | (refine ret_bool ?_; simp [bitB, within, hbit, *]; done) | (refine ret_bool ?_; simp [bitB, within, hbit, *]; omega) | (refine ret_bool ?_; simp_all [bitB, within]; done) | (refine ret_bool ?_; simp_all [bitB, within]; omega), by first | exact (hB.trans (below_drewN _ _ _)).trans (below_drewN _ _ _) | exact hB.trans (below_drewN _ _ _) | exact ⟨hB.os, hB.tape, hB.output, hB.size, hB.block⟩⟩
      · go_wp2
        go_ret
        exact ⟨ret_bool (by simp [bitB, hbit]), hB.trans (below_drewN _ _ _)⟩
    · clear hr hv
      go_enter Tryd.func6, Tryd.ntmps6
      go_wp2_with (go_at_call 14; refine (hC _).mono ?_; rintro e w' ⟨rfl, hb⟩; have hB : Below w.heap.size w w' := (((Below.refl _ w).alloc (Nat.le_refl _) _).alloc (by simp) _).trans (hb.mono (by simp; omega)); have b0 : w'.cell? ⟨w.heap.size, 0, none⟩ = some (.int .i64 k) := (hb.cell (p := ⟨w.heap.size, 0, none⟩) (by first | (simp; done) | (simp; omega))).trans (by simp); have b1 : w'.cell? ⟨w.heap.size, 1, none⟩ = some (.int .i64 lo) := (hb.cell (p := ⟨w.heap.size, 1, none⟩) (by first | (simp; done) | (simp; omega))).trans (by simp); have b2 : w'.cell? ⟨w.heap.size, 2, none⟩ = some (.int .i64 hi) := (hb.cell (p := ⟨w.heap.size, 2, none⟩) (by first | (simp; done) | (simp; omega))).trans (by simp); have c0 : w'.cell? ⟨w.heap.size + 1, 0, none⟩ = some (.int .i64 5) := (hb.cell (p := ⟨w.heap.size + 1, 0, none⟩) (by first | (simp; done) | (simp; omega))).trans (by simp); have c1 : w'.cell? ⟨w.heap.size + 1, 1, none⟩ = some (.int .i64 n) := (hb.cell (p := ⟨w.heap.size + 1, 1, none⟩) (by first | (simp; done) | (simp; omega))).trans (by simp))
      go_quiet ((go_at_call 15; exact Calls.quiet_of_same (bit15_5 _)))
      cases hbit : (bits BinOp.and IntKind.i64 k 32 == 0)
      · skip
        all_goals
          go_wp2
          go_quiet (exact (bit15_2 _).mono fun e w2 h2 => ⟨h2.1, _, h2.2⟩)
          go_wp2
        all_goals
          go_ret
          exact ⟨by first | (refine ret_bool ?_; simp [bitB, within, hbit, *]; done) | (refine ret_bool ?_; simp [bitB, within, hbit, *]; omega) | (refine ret_bool ?_; simp_all [bitB, within]; done) | (refine ret_bool ?_; simp_all [bitB, within]; omega), by first | exact (hB.trans (below_drewN _ _ _)).trans (below_drewN _ _ _) | exact hB.trans (below_drewN _ _ _) | exact ⟨hB.os, hB.tape, hB.output, hB.size, hB.block⟩⟩
      · go_wp2
        go_ret
        exact ⟨ret_bool (by simp [bitB, hbit]), hB.trans (below_drewN _ _ _)⟩
    · clear hr hv
      go_enter Tryd.func6, Tryd.ntmps6
      go_wp2_with (go_at_call 14; refine (hC _).mono ?_; rintro e w' ⟨rfl, hb⟩; have hB : Below w.heap.size w w' := (((Below.refl _ w).alloc (Nat.le_refl _) _).alloc (by simp) _).trans (hb.mono (by simp; omega)); have b0 : w'.cell? ⟨w.heap.size, 0, none⟩ = some (.int .i64 k) := (hb.cell (p := ⟨w.heap.size, 0, none⟩) (by first | (simp; done) | (simp; omega))).trans (by simp); have b1 : w'.cell? ⟨w.heap.size, 1, none⟩ = some (.int .i64 lo) := (hb.cell (p := ⟨w.heap.size, 1, none⟩) (by first | (simp; done) | (simp; omega))).trans (by simp); have b2 : w'.cell? ⟨w.heap.size, 2, none⟩ = some (.int .i64 hi) := (hb.cell (p := ⟨w.heap.size, 2, none⟩) (by first | (simp; done) | (simp; omega))).trans (by simp); have c0 : w'.cell? ⟨w.heap.size + 1, 0, none⟩ = some (.int .i64 6) := (hb.cell (p := ⟨w.heap.size + 1, 0, none⟩) (by first | (simp; done) | (simp; omega))).trans (by simp); have c1 : w'.cell? ⟨w.heap.size + 1, 1, none⟩ = some (.int .i64 n) := (hb.cell (p := ⟨w.heap.size + 1, 1, none⟩) (by first | (simp; done) | (simp; omega))).trans (by simp))
      go_quiet ((go_at_call 15; exact Calls.quiet_of_same (bit15_6 _)))
      cases hbit : (bits BinOp.and IntKind.i64 k 64 == 0)
      · skip
        all_goals
          go_wp2
          go_quiet (exact (bit15_2 _).mono fun e w2 h2 => ⟨h2.1, _, h2.2⟩)
          go_wp2
        all_goals
          go_ret
          exact ⟨by first | (refine ret_bool ?_; simp [bitB, within, hbit, *]; done) | (refine ret_bool ?_; simp [bitB, within, hbit, *]; omega) | (refine ret_bool ?_; simp_all [bitB, within]; done) | (refine ret_bool ?_; simp_all [bitB, within]; omega), by first | exact (hB.trans (below_drewN _ _ _)).trans (below_drewN _ _ _) | exact hB.trans (below_drewN _ _ _) | exact ⟨hB.os, hB.tape, hB.output, hB.size, hB.block⟩⟩
      · go_wp2
        go_ret
        exact ⟨ret_bool (by simp [bitB, hbit]), hB.trans (below_drewN _ _ _)⟩
end Go.Proofs.YtkbgcnppkmkkiaaDoor
