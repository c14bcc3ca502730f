/- What the two functions Contains, and the two functions Right, answer. -/
import Derived.Test.YtkbgcnppkmkkiaaDoorShelf
import Derived.WalkKit
import Derived.Laws.RangeAny
import Derived.Laws.RangeString
import Derived.ProofKit
set_option linter.unusedVariables false
namespace Go.Proofs.YtkbgcnppkmkkiaaDoor
open Go Go.RowKit

/-- the rune that value.Right refuses -/
def oddRune (r : Nat) : Bool := decide ((r : Int) < 32) || decide ((r : Int) > 126)
theorem odd_at (w : World) : PredAt Tryd.prog 21 #[] encR oddRune w := fun W r _ => by
  unfold FnGives
  unfold oddRune
  by_cases h1 : (r : Int) < 32 <;> by_cases h2 : (r : Int) > 126
  all_goals
    go_enter Tryd.func21, Tryd.ntmps21
    go_wp2
    all_goals first | (exfalso; omega) | (go_ret; exact ⟨by simp [h1, h2], 0, rfl⟩)

def PlainTo (s : ByteArray) (k : Nat) : Prop := ∀ i (h : i < s.size), i < k → 32 ≤ s[i].toNat ∧ s[i].toNat ≤ 126
theorem idx_plain {s : ByteArray} (h : PlainTo s s.size) : ∀ f pos, Lib.idxFuncFrom oddRune true s f pos = -1
  | 0, pos => rfl
  | f + 1, pos => by
    unfold Lib.idxFuncFrom
    split
    · rename_i hp
      obtain ⟨h1, h2⟩ := h pos hp hp
      rw [decode_ascii s pos hp (by omega)]
      have : oddRune s[pos].toNat = false := by simp [oddRune]; omega
      rw [if_neg (by simp [this])]
      exact idx_plain h f _
    · rfl
theorem idx_odd {s : ByteArray} {i : Nat} (hi : i < s.size) (hb : ¬ (32 ≤ s[i].toNat ∧ s[i].toNat ≤ 126)) : ∀ f pos, s.size ≤ pos + f → pos ≤ i → 0 ≤ Lib.idxFuncFrom oddRune true s f pos
  | 0, pos, h1, h2 => by omega
  | f + 1, pos, h1, h2 => by
    have hp : pos < s.size := by omega
    unfold Lib.idxFuncFrom
    rw [if_pos hp]
    split
    · omega
    · rename_i hodd
      rcases Nat.lt_or_ge s[pos].toNat 128 with hlt | hge
      · rw [decode_ascii s pos hp hlt] at hodd ⊢
        have hfine : 32 ≤ s[pos].toNat ∧ s[pos].toNat ≤ 126 := by simp [oddRune] at hodd; omega
        have hne : pos ≠ i := fun e => by subst e; exact hb hfine
        exact idx_odd hi hb f _ (by simp only; omega) (by simp only; omega)
      · have := (decode_high s pos hp hge).1
        exact (hodd (by simp [oddRune]; omega)).elim
def odd (s : ByteArray) : Bool := decide (0 ≤ Lib.idxFunc oddRune true s)
theorem odd_false {s : ByteArray} (h : PlainTo s s.size) : odd s = false := by
  unfold odd Lib.idxFunc
  rw [idx_plain h]; rfl
theorem odd_true {s : ByteArray} {i : Nat} (hi : i < s.size) (hb : ¬ (32 ≤ s[i].toNat ∧ s[i].toNat ≤ 126)) : odd s = true := by
  unfold odd Lib.idxFunc
  have := idx_odd hi hb s.size 0 (by omega) (by omega)
  simpa using this

theorem ret_bool {a b : Bool} (h : a = b) : Ending.returned (.bool a) = .returned (.bool b) := by rw [h]
theorem plain_any (s : ByteArray) (w : World) (hs : s.size ≤ maxLen) : Calls Tryd.prog 22 #[.string s] w fun e w' => e = .returned (.bool (!odd s && decide (s.size ≤ 200))) ∧ w' = w := by
  unfold maxLen at hs
  go_enter Tryd.func22, Tryd.ntmps22
  go_wp2
  go_loop [3] (fun i => ∃ k : Nat, k ≤ s.size ∧ i = .int .i64 k ∧ PlainTo s k) (fun i => s.size - (intOf i).toNat)
  case atStart => exact ⟨0, Nat.zero_le _, rfl, fun i _ h => by omega⟩
  case round =>
    obtain ⟨k, hk, rfl, hpl⟩ := hrel
    by_cases hlt : k < s.size
    · by_cases h1 : (s[k].toNat : Int) < 32 <;> by_cases h2 : (s[k].toNat : Int) > 126
      · have hod := odd_true hlt (by omega)
        go_wp2
        go_ret
        exact ⟨by first | rfl | exact ret_bool (by rw [hod]; rfl), rfl⟩
      · have hod := odd_true hlt (by omega)
        go_wp2
        go_ret
        exact ⟨by first | rfl | exact ret_bool (by rw [hod]; rfl), rfl⟩
      · have hod := odd_true hlt (by omega)
        go_wp2
        go_ret
        exact ⟨by first | rfl | exact ret_bool (by rw [hod]; rfl), rfl⟩
      · have hnext : PlainTo s (k + 1) := fun i h hi => by
          rcases Nat.lt_or_ge i k with hik | hik
          · exact hpl i h hik
          · have : i = k := by omega
            subst this
            omega
        go_wp2
        go_round
        case rel => exact ⟨k + 1, by omega, by go_num, hnext⟩
        case measure => simp [intOf]; omega
    · have hof : odd s = false := odd_false fun i h _ => hpl i h (by omega)
      by_cases h200 : (s.size : Int) ≤ 200
      · have hd : decide (s.size ≤ 200) = true := by simp; omega
        go_wp2
        go_ret
        exact ⟨by first | rfl | exact ret_bool (by rw [hof, hd]; rfl), rfl⟩
      · have hd : decide (s.size ≤ 200) = false := by simp; omega
        go_wp2
        go_ret
        exact ⟨by first | rfl | exact ret_bool (by rw [hof, hd]; rfl), rfl⟩

/-- What value.Right and facsimileref03.Right answer. -/
def inR (kind n : Int) : Bool := if kind = 0 ∨ kind = 1 then decide (n = 0) else if kind = 2 then decide (0 ≤ n ∧ n ≤ 1) else if kind = 3 then decide (-1000000000000000 ≤ n ∧ n ≤ 1000000000000000)
  else if kind = 5 then decide (0 ≤ n ∧ n ≤ 1000000000) else if kind = 6 then decide (0 ≤ n ∧ n ≤ 23) else false
def rightS (kind n : Int) (s : ByteArray) : Bool := if kind = 4 then (decide (n = 0) && (decide (s.size ≤ 200) && !odd s)) else (decide (s.toList = []) && inR kind n)
set_option maxHeartbeats 4000000 in
theorem right13 (kind n : Int) (s : ByteArray) (w : World) : Calls Tryd.prog 13 #[.agg #[.int .i64 kind, .int .i64 n, .string s]] w fun e w' => e = .returned (.bool (rightS kind n s)) ∧ Below w.heap.size w w' := by
  have hC : ∀ W, Calls Tryd.prog 20 #[.string s, .func (.func 21) #[] #[]] W fun e w' => e = .returned (.bool (odd s)) ∧ Below W.heap.size W w' := fun W => Tryd.strings_ContainsFunc 21 #[] (enters_of Tryd.func21 (by kernel_rfl) rfl) oddRune s W (odd_at W)
  by_cases k4 : kind = 4
  · subst k4
    obtain ⟨o, ho⟩ : ∃ o, odd s = o := ⟨_, rfl⟩
    have hv : rightS 4 n s = (decide (n = 0) && (decide (s.size ≤ 200) && !o)) := by simp [rightS, ho]
    rw [hv]
    simp only [ho] at hC
    clear hv
    by_cases hn : n = 0
    · subst hn
      by_cases h2 : (s.size : Int) ≤ 200
      · have hd : decide (s.size ≤ 200) = true := by simp; omega
        rw [hd]
        clear hd ho
        cases o
        all_goals
          go_enter Tryd.func13, Tryd.ntmps13
          go_wp2_with (go_at_call 20; refine (hC _).mono ?_; rintro e w' ⟨rfl, hb⟩; have hb1 : w'.cell? ⟨w.heap.size, 1, none⟩ = some (.int .i64 0) := (hb.cell (p := ⟨w.heap.size, 1, none⟩) (by simp)).trans (by simp); have hb2 : w'.cell? ⟨w.heap.size, 2, none⟩ = some (.string s) := (hb.cell (p := ⟨w.heap.size, 2, none⟩) (by simp)).trans (by simp))
          go_ret
          exact ⟨rfl, ((Below.refl _ w).alloc (Nat.le_refl _) _).trans (hb.mono (by simp))⟩
      · have hd : decide (s.size ≤ 200) = false := by simp; omega
        rw [hd]
        clear hd ho
        go_enter Tryd.func13, Tryd.ntmps13
        go_wp2_with (go_at_call 20; refine (hC _).mono ?_; rintro e w' ⟨rfl, hb⟩; have hb1 : w'.cell? ⟨w.heap.size, 1, none⟩ = some (.int .i64 0) := (hb.cell (p := ⟨w.heap.size, 1, none⟩) (by simp)).trans (by simp); have hb2 : w'.cell? ⟨w.heap.size, 2, none⟩ = some (.string s) := (hb.cell (p := ⟨w.heap.size, 2, none⟩) (by simp)).trans (by simp))
        go_ret
        exact ⟨rfl, ((Below.refl _ w).alloc (Nat.le_refl _) _).trans (hb.mono (by simp))⟩
    · have hd : decide (n = 0) = false := by simpa using hn
      rw [hd]
      clear hd ho
      go_enter Tryd.func13, Tryd.ntmps13
      go_wp2_with (go_at_call 20; refine (hC _).mono ?_; rintro e w' ⟨rfl, hb⟩; have hb1 : w'.cell? ⟨w.heap.size, 1, none⟩ = some (.int .i64 n) := (hb.cell (p := ⟨w.heap.size, 1, none⟩) (by simp)).trans (by simp); have hb2 : w'.cell? ⟨w.heap.size, 2, none⟩ = some (.string s) := (hb.cell (p := ⟨w.heap.size, 2, none⟩) (by simp)).trans (by simp))
      go_ret
      exact ⟨rfl, ((Below.refl _ w).alloc (Nat.le_refl _) _).trans (hb.mono (by simp))⟩
  clear hC
  by_cases k0 : kind = 0
  · subst k0
    by_cases hs : s.toList = [] <;> by_cases h1 : 0 ≤ n <;> by_cases h2 : n ≤ 0
    all_goals first
    | (exfalso; omega)
    | (go_enter Tryd.func13, Tryd.ntmps13
       go_wp2
       go_ret
       exact ⟨by first | (refine ret_bool ?_; simp [rightS, inR, hs]; done) | (refine ret_bool ?_; simp [rightS, inR, hs]; omega), (Below.refl _ w).alloc (Nat.le_refl _) _⟩)
  by_cases k1 : kind = 1
  · subst k1
    by_cases hs : s.toList = [] <;> by_cases h1 : 0 ≤ n <;> by_cases h2 : n ≤ 0
    all_goals first
    | (exfalso; omega)
    | (go_enter Tryd.func13, Tryd.ntmps13
       go_wp2
       go_ret
       exact ⟨by first | (refine ret_bool ?_; simp [rightS, inR, hs]; done) | (refine ret_bool ?_; simp [rightS, inR, hs]; omega), (Below.refl _ w).alloc (Nat.le_refl _) _⟩)
  by_cases k2 : kind = 2
  · subst k2
    by_cases hs : s.toList = [] <;> by_cases h1 : 0 ≤ n <;> by_cases h2 : n ≤ 1
    all_goals first
    | (exfalso; omega)
    | (go_enter Tryd.func13, Tryd.ntmps13
       go_wp2
       go_ret
       exact ⟨by first | (refine ret_bool ?_; simp [rightS, inR, hs]; done) | (refine ret_bool ?_; simp [rightS, inR, hs]; omega), (Below.refl _ w).alloc (Nat.le_refl _) _⟩)
  by_cases k3 : kind = 3
  · subst k3
    by_cases hs : s.toList = [] <;> by_cases h1 : -1000000000000000 ≤ n <;> by_cases h2 : n ≤ 1000000000000000
    all_goals first
    | (exfalso; omega)
    | (go_enter Tryd.func13, Tryd.ntmps13
       go_wp2
       go_ret
       exact ⟨by first | (refine ret_bool ?_; simp [rightS, inR, hs]; done) | (refine ret_bool ?_; simp [rightS, inR, hs]; omega), (Below.refl _ w).alloc (Nat.le_refl _) _⟩)
  by_cases k5 : kind = 5
  · subst k5
    by_cases hs : s.toList = [] <;> by_cases h1 : 0 ≤ n <;> by_cases h2 : n ≤ 1000000000
    all_goals first
    | (exfalso; omega)
    | (go_enter Tryd.func13, Tryd.ntmps13
       go_wp2
       go_ret
       exact ⟨by first | (refine ret_bool ?_; simp [rightS, inR, hs]; done) | (refine ret_bool ?_; simp [rightS, inR, hs]; omega), (Below.refl _ w).alloc (Nat.le_refl _) _⟩)
  by_cases k6 : kind = 6
  · subst k6
    by_cases hs : s.toList = [] <;> by_cases h1 : 0 ≤ n <;> by_cases h2 : n ≤ 23
    all_goals first
    | (exfalso; omega)
    | (go_enter Tryd.func13, Tryd.ntmps13
       go_wp2
       go_ret
       exact ⟨by first | (refine ret_bool ?_; simp [rightS, inR, hs]; done) | (refine ret_bool ?_; simp [rightS, inR, hs]; omega), (Below.refl _ w).alloc (Nat.le_refl _) _⟩)
  go_enter Tryd.func13, Tryd.ntmps13
  go_wp2
  go_ret
  exact ⟨by refine ret_bool ?_; simp [rightS, inR, k0, k1, k2, k3, k4, k5, k6], (Below.refl _ w).alloc (Nat.le_refl _) _⟩
set_option maxHeartbeats 4000000 in
theorem right14 (kind n : Int) (s : ByteArray) (w : World) (hsz : s.size ≤ maxLen) : Calls Tryd.prog 14 #[.agg #[.int .i64 kind, .int .i64 n, .string s]] w fun e w' => e = .returned (.bool (rightS kind n s)) ∧ Below w.heap.size w w' := by
  have hC : ∀ W, Calls Tryd.prog 22 #[.string s] W fun e w' => e = .returned (.bool (!odd s && decide (s.size ≤ 200))) ∧ w' = W := fun W => plain_any s W hsz
  by_cases k4 : kind = 4
  · subst k4
    obtain ⟨o, ho⟩ : ∃ o, (!odd s && decide (s.size ≤ 200)) = o := ⟨_, rfl⟩
    have hv : rightS 4 n s = (decide (n = 0) && o) := by
      rw [← ho]
      simp only [rightS, if_true]
      cases odd s <;> cases decide (s.size ≤ 200) <;> rfl
    rw [hv]
    simp only [ho] at hC
    clear hv ho
    by_cases hn : n = 0
    · subst hn
      cases o
      all_goals
        go_enter Tryd.func14, Tryd.ntmps14
        go_wp2_with (go_at_call 22; refine (hC _).mono ?_; rintro e w' ⟨rfl, rfl⟩)
        go_ret
        exact ⟨rfl, (Below.refl _ w).alloc (Nat.le_refl _) _⟩
    · have hd : decide (n = 0) = false := by simpa using hn
      rw [hd]
      clear hd
      cases o
      all_goals
        go_enter Tryd.func14, Tryd.ntmps14
        go_wp2_with (go_at_call 22; refine (hC _).mono ?_; rintro e w' ⟨rfl, rfl⟩)
        go_ret
        exact ⟨by first | rfl | exact ret_bool (by simp [hn]), (Below.refl _ w).alloc (Nat.le_refl _) _⟩
  clear hC
  have hse : s.toList.isEmpty = decide (s.toList = []) := by cases s.toList <;> rfl
  by_cases hs : s.toList = []
  · have he : s.toList.isEmpty = true := by rw [hse]; simpa using hs
    clear hse
    by_cases k0 : kind = 0
    · subst k0
      by_cases h1 : n = 0
      · subst h1
        go_enter Tryd.func14, Tryd.ntmps14
        go_wp2
        go_ret
        exact ⟨by first | rfl | (refine ret_bool ?_; simp [rightS, inR, hs]; done) | (refine ret_bool ?_; simp [rightS, inR, hs]; omega) | (refine ret_bool ?_; simp [rightS, inR, hs, *]; done), (Below.refl _ w).alloc (Nat.le_refl _) _⟩
      · go_enter Tryd.func14, Tryd.ntmps14
        go_wp2
        go_ret
        exact ⟨by first | rfl | (refine ret_bool ?_; simp [rightS, inR, hs]; done) | (refine ret_bool ?_; simp [rightS, inR, hs]; omega) | (refine ret_bool ?_; simp [rightS, inR, hs, *]; done), (Below.refl _ w).alloc (Nat.le_refl _) _⟩
    by_cases k1 : kind = 1
    · subst k1
      by_cases h1 : n = 0
      · subst h1
        go_enter Tryd.func14, Tryd.ntmps14
        go_wp2
        go_ret
        exact ⟨by first | rfl | (refine ret_bool ?_; simp [rightS, inR, hs]; done) | (refine ret_bool ?_; simp [rightS, inR, hs]; omega) | (refine ret_bool ?_; simp [rightS, inR, hs, *]; done), (Below.refl _ w).alloc (Nat.le_refl _) _⟩
      · go_enter Tryd.func14, Tryd.ntmps14
        go_wp2
        go_ret
        exact ⟨by first | rfl | (refine ret_bool ?_; simp [rightS, inR, hs]; done) | (refine ret_bool ?_; simp [rightS, inR, hs]; omega) | (refine ret_bool ?_; simp [rightS, inR, hs, *]; done), (Below.refl _ w).alloc (Nat.le_refl _) _⟩
    by_cases k2 : kind = 2
    · subst k2
      by_cases h1 : n = 0
      · subst h1
        go_enter Tryd.func14, Tryd.ntmps14
        go_wp2
        go_ret
        exact ⟨by first | rfl | (refine ret_bool ?_; simp [rightS, inR, hs]; done) | (refine ret_bool ?_; simp [rightS, inR, hs]; omega) | (refine ret_bool ?_; simp [rightS, inR, hs, *]; done), (Below.refl _ w).alloc (Nat.le_refl _) _⟩
      · by_cases h2 : n = 1
        · subst h2
          go_enter Tryd.func14, Tryd.ntmps14
          go_wp2
          go_ret
          exact ⟨by first | rfl | (refine ret_bool ?_; simp [rightS, inR, hs]; done) | (refine ret_bool ?_; simp [rightS, inR, hs]; omega) | (refine ret_bool ?_; simp [rightS, inR, hs, *]; done), (Below.refl _ w).alloc (Nat.le_refl _) _⟩
        · have h3 : ¬ (0 ≤ n ∧ n ≤ 1) := by omega
          go_enter Tryd.func14, Tryd.ntmps14
          go_wp2
          go_ret
          exact ⟨by first | rfl | (refine ret_bool ?_; simp [rightS, inR, hs]; done) | (refine ret_bool ?_; simp [rightS, inR, hs]; omega) | (refine ret_bool ?_; simp [rightS, inR, hs, *]; done), (Below.refl _ w).alloc (Nat.le_refl _) _⟩
    by_cases k3 : kind = 3
    · subst k3
      by_cases h1 : -1000000000000000 ≤ n <;> by_cases h2 : n ≤ 1000000000000000
      all_goals first
      | (exfalso; omega)
      | (go_enter Tryd.func14, Tryd.ntmps14
         go_wp2
         go_ret
         exact ⟨by first | rfl | (refine ret_bool ?_; simp [rightS, inR, hs]; done) | (refine ret_bool ?_; simp [rightS, inR, hs]; omega), (Below.refl _ w).alloc (Nat.le_refl _) _⟩)
    by_cases k5 : kind = 5
    · subst k5
      by_cases h1 : 0 ≤ n <;> by_cases h2 : n ≤ 1000000000
      all_goals first
      | (exfalso; omega)
      | (go_enter Tryd.func14, Tryd.ntmps14
         go_wp2
         go_ret
         exact ⟨by first | rfl | (refine ret_bool ?_; simp [rightS, inR, hs]; done) | (refine ret_bool ?_; simp [rightS, inR, hs]; omega), (Below.refl _ w).alloc (Nat.le_refl _) _⟩)
    by_cases k6 : kind = 6
    · subst k6
      by_cases h1 : 0 ≤ n <;> by_cases h2 : n < 24
      all_goals first
      | (exfalso; omega)
      | (go_enter Tryd.func14, Tryd.ntmps14
         go_wp2
         go_ret
         exact ⟨by first | rfl | (refine ret_bool ?_; simp [rightS, inR, hs]; done) | (refine ret_bool ?_; simp [rightS, inR, hs]; omega), (Below.refl _ w).alloc (Nat.le_refl _) _⟩)
    go_enter Tryd.func14, Tryd.ntmps14
    go_wp2
    go_ret
    exact ⟨by first | rfl | (refine ret_bool ?_; simp [rightS, inR, hs]; done) | (refine ret_bool ?_; simp [rightS, inR, hs]; omega) | (refine ret_bool ?_; simp [rightS, inR, hs, k0, k1, k2, k3, k4, k5, k6]; done), (Below.refl _ w).alloc (Nat.le_refl _) _⟩
  · have he : s.toList.isEmpty = false := by rw [hse]; simpa using hs
    clear hse
    go_enter Tryd.func14, Tryd.ntmps14
    go_wp2
    go_ret
    exact ⟨by first | rfl | (refine ret_bool ?_; simp [rightS, inR, hs]; done) | (refine ret_bool ?_; simp [rightS, inR, hs]; omega) | (refine ret_bool ?_; simp [rightS, hs, k4]; done), (Below.refl _ w).alloc (Nat.le_refl _) _⟩
end Go.Proofs.YtkbgcnppkmkkiaaDoor
