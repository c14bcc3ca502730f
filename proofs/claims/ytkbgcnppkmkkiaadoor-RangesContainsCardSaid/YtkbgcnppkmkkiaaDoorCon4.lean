/- What the deeper calls of the law answer, as the reckoning takes it. -/
import Derived.Test.YtkbgcnppkmkkiaaDoorSan
import Derived.Test.YtkbgcnppkmkkiaaDoorCon3
set_option linter.unusedVariables false
set_option maxRecDepth 1000000
namespace Go.Proofs.YtkbgcnppkmkkiaaDoor
open Go Go.V Go.RowKit

theorem wrap_small {x : Int} (h0 : 0 ≤ x) (h1 : x < 9223372036854775808) : IntKind.i64.wrap x = x := by
  have e1 : (2 ^ IntKind.i64.bits : Int) = 18446744073709551616 := by rfl
  have e2 : (2 ^ (IntKind.i64.bits - 1) : Int) = 9223372036854775808 := by rfl
  have e3 : x % 18446744073709551616 = x := Int.emod_eq_of_lt h0 (by omega)
  unfold IntKind.wrap
  simp only [e1, e2, e3]
  rw [if_neg]
  simp only [Bool.and_eq_true, decide_eq_true_eq, not_and]
  omega
theorem and_small (x y : Nat) (hx : x < 9223372036854775808) (hy : y < 9223372036854775808) : bits BinOp.and IntKind.i64 (x : Int) (y : Int) = ((x &&& y : Nat) : Int) := by
  have h : (BitVec.ofInt IntKind.i64.bits (x : Int) &&& BitVec.ofInt IntKind.i64.bits (y : Int)).toNat = x &&& y := by
    have e1 : (BitVec.ofInt 64 (x : Int)).toNat = x := by
      rw [BitVec.toNat_ofInt]
      have : ((2 ^ 64 : Nat) : Int) = 18446744073709551616 := by rfl
      rw [this]; omega
    have e2 : (BitVec.ofInt 64 (y : Int)).toNat = y := by
      rw [BitVec.toNat_ofInt]
      have : ((2 ^ 64 : Nat) : Int) = 18446744073709551616 := by rfl
      rw [this]; omega
    show (BitVec.ofInt 64 (x : Int) &&& BitVec.ofInt 64 (y : Int)).toNat = x &&& y
    rw [BitVec.toNat_and, e1, e2]
  show IntKind.i64.wrap ((BitVec.ofInt IntKind.i64.bits (x : Int) &&& BitVec.ofInt IntKind.i64.bits (y : Int)).toNat : Int) = _
  rw [h]
  have : x &&& y ≤ x := Nat.and_le_left
  exact wrap_small (by omega) (by omega)
/- The two ways to look at a bit are the same where the kinds are of seven bits. -/
def sameBit (k j : Nat) : Bool := Nat.beq (Nat.land (Nat.div k (Nat.pow 2 j)) 1) 0 == Nat.beq (Nat.land k (Nat.pow 2 j)) 0
noncomputable def allBelow (p : Nat → Bool) (n : Nat) : Bool := Nat.rec true (fun k ih => p k && ih) n
theorem allBelow_of {p : Nat → Bool} : ∀ {n : Nat}, allBelow p n = true → ∀ k, k < n → p k = true
  | 0, _, k, hk => by omega
  | n + 1, h, k, hk => by
    have h : (p n && allBelow p n) = true := h
    rw [Bool.and_eq_true] at h
    by_cases hkn : k = n
    · subst hkn; exact h.1
    · exact allBelow_of h.2 k (by omega)
theorem bits_same : allBelow (fun k => allBelow (sameBit k) 7) 128 = true := by kernel_rfl
theorem bit_nat (m j : Nat) (hm : m < 128) (hj : j < 7) : bitA (m : Int) (j : Int) = bitB (m : Int) (j : Int) := by
  have h : (((m / 2 ^ j &&& 1) == 0)) = ((m &&& 2 ^ j) == 0) := by
    have h := allBelow_of (allBelow_of bits_same m hm) j hj
    have z : ∀ q : Nat, Nat.beq q 0 = (q == 0) := fun q => by cases q <;> rfl
    unfold sameBit at h
    rw [z, z] at h
    exact eq_of_beq h
  have hp : 2 ^ j < 9223372036854775808 := Nat.lt_of_le_of_lt (Nat.pow_le_pow_right (by omega) (show j ≤ 6 by omega)) (by decide)
  have hd : m / 2 ^ j ≤ m := Nat.div_le_self _ _
  unfold bitA bitB
  have c1 : (m : Int) / 2 ^ (j : Int).toNat = ((m / 2 ^ j : Nat) : Int) := by simp
  have c2 : (2 : Int) ^ (j : Int).toNat = ((2 ^ j : Nat) : Int) := by simp
  rw [c1, c2, and_small _ _ (by omega) hp]
  have h1 := and_small (m / 2 ^ j) 1 (by omega) (by omega)
  rw [show ((1 : Nat) : Int) = 1 from rfl] at h1
  rw [h1]
  have z : ∀ q : Nat, ((q : Int) == 0) = (q == 0) := fun q => by cases q <;> rfl
  rw [z, z]
  exact h
theorem bit_same {k kind : Int} (h0 : 0 ≤ k) (h1 : k < 128) (hk : kind = 0 ∨ kind = 1 ∨ kind = 2 ∨ kind = 3 ∨ kind = 4 ∨ kind = 5 ∨ kind = 6) : bitA k kind = bitB k kind := by
  have hj : kind.toNat < 7 ∧ kind = (kind.toNat : Int) := by omega
  have hm : k.toNat < 128 ∧ k = (k.toNat : Int) := by omega
  have h := bit_nat k.toNat kind.toNat hm.1 hj.1
  rw [← hj.2, ← hm.2] at h
  exact h
theorem cont_same {k : Int} (h0 : 0 ≤ k) (h1 : k < 128) (lo hi kind n : Int) (s : ByteArray) : contA k lo hi kind n s = contB k lo hi kind n s := by
  unfold contA contB
  cases hr : rightS kind n s with
  | false => rw [Bool.false_and, Bool.false_and]
  | true => rw [bit_same h0 h1 (right_kind hr)]
theorem bitA_zero (kind : Int) (hk : kind = 0 ∨ kind = 1 ∨ kind = 2 ∨ kind = 3 ∨ kind = 4 ∨ kind = 5 ∨ kind = 6) : bitA 0 kind = true := by
  have h := and_small 0 1 (by omega) (by omega)
  have h1 : ((0 &&& 1 : Nat) : Int) = 0 := by decide
  rw [h1] at h
  unfold bitA
  rw [Int.zero_ediv]
  have h2 : bits BinOp.and IntKind.i64 0 1 = 0 := h
  rw [h2]
  rfl
theorem cont_zero (lo hi kind n : Int) (s : ByteArray) : contA 0 lo hi kind n s = false := by
  unfold contA
  cases hr : rightS kind n s with
  | false => rw [Bool.false_and]
  | true => rw [bitA_zero kind (right_kind hr), Bool.not_true, Bool.false_and, Bool.and_false]

/- The number t0 & 127. -/
noncomputable def seven (q : Int) : Int := IntKind.i64.wrap (BitVec.ofInt 64 q &&& BitVec.ofInt 64 127).toNat
theorem seven_range (q : Int) : 0 ≤ seven q ∧ seven q < 128 := by
  have h : (BitVec.ofInt 64 q &&& BitVec.ofInt 64 127).toNat ≤ 127 := by
    rw [BitVec.toNat_and]
    exact Nat.and_le_right
  have hw := wrap_small (x := ((BitVec.ofInt 64 q &&& BitVec.ofInt 64 127).toNat : Int)) (by omega) (by omega)
  unfold seven
  rw [hw]
  omega

noncomputable def intC (x : C) : Option Int := match x with
  | .im (.v (.int .i64 n)) => some n
  | _ => none
noncomputable def txtC (x : C) : Option ByteArray := match x with
  | .im (.tx s) => some s
  | .im (.v (.string s)) => Bool.rec none (some s) (Nat.ble s.size 1000)
  | _ => none
/-- k, lo, hi, kind, n, s. -/
noncomputable def argsC (ds : List D) : Option ((Int × Int × Int) × (Int × Int × ByteArray)) := match ds with
  | [.a [a, b, c], .a [d, e, f]] => match intC a, intC b, intC c, intC d, intC e, txtC f with
    | some a, some b, some c, some d, some e, some f => some ((a, b, c), (d, e, f))
    | _, _, _, _, _, _ => none
  | _ => none
/-- Are they the widest bounds? -/
def wideB (k lo hi : Int) : Bool := k == 126 && (lo == -1000000000000000 && hi == 1000000000000000)
noncomputable def wideA (kind n : Int) (s : ByteArray) : Bool := contA 126 (-1000000000000000) 1000000000000000 kind n s
noncomputable def d7 : D := .a [.im (.v (.int .i64 126)), .im (.v (.int .i64 (-1000000000000000))), .im (.v (.int .i64 1000000000000000))]
/-- X, Y: what the two answer. -/
noncomputable def loX (X Y : Int → Int → Int → Int → Int → ByteArray → Bool) : Lo := ⟨fun f ds rs => match f with
  | 4 => match ds with
    | [] => some (bool true, rs)
    | _ => none
  | 5 => match argsC ds with
    | some ((k, lo, hi), (kind, n, s)) => some (bool (X k lo hi kind n s), rs)
    | none => none
  | 6 => match argsC ds with
    | some ((k, lo, hi), (kind, n, s)) => some (bool (Y k lo hi kind n s), rs)
    | none => none
  | 7 => match ds with
    | [] => some (d7, rs)
    | _ => none
  | _ => none, fun _ _ _ => none⟩

theorem intC_some {x : C} {n : Int} (h : intC x = some n) : x = .im (.v (.int .i64 n)) := by
  unfold intC at h
  split at h
  · simp only [Option.some.injEq] at h; subst h; rfl
  · simp at h
theorem txtC_some {E : Env} {av : Nat → Prop} {w : World} {x : C} {s : ByteArray} {v : Value} (h : txtC x = some s) (hr : CRel E av w x v) : v = .string s ∧ s.size ≤ maxLen := by
  unfold txtC at h
  split at h
  · simp only [Option.some.injEq] at h; subst h; exact hr
  · obtain ⟨h1, h2⟩ := Bool.rec_some h
    simp only [Option.some.injEq] at h2
    subst h2
    have := Nat.le_of_ble_eq_true h1
    exact ⟨hr.1, by unfold maxLen; omega⟩
  · simp at h
theorem int_rel {E : Env} {av : Nat → Prop} {w : World} {n : Int} {v : Value} (hr : CRel E av w (.im (.v (.int .i64 n))) v) : v = .int .i64 n := hr.1
theorem three_rel {E : Env} {av : Nat → Prop} {w : World} {a b c : C} {v : Value} (hr : DRel E av w (.a [a, b, c]) v) : ∃ x y z, v = .agg #[x, y, z] ∧ CRel E av w a x ∧ CRel E av w b y ∧ CRel E av w c z := by
  obtain ⟨⟨l⟩, rfl, h⟩ := hr
  cases h with
  | cons h1 h => cases h with
    | cons h2 h => cases h with
      | cons h3 h => cases h with
        | nil => exact ⟨_, _, _, rfl, h1, h2, h3⟩
theorem argsC_rel {E : Env} {av : Nat → Prop} {w : World} {ds : List D} {vs : List Value} {k lo hi kind n : Int} {s : ByteArray} (h : argsC ds = some ((k, lo, hi), (kind, n, s))) (hr : All2 (DRel E av w) ds vs) :
    vs = [.agg #[.int .i64 k, .int .i64 lo, .int .i64 hi], .agg #[.int .i64 kind, .int .i64 n, .string s]] ∧ s.size ≤ maxLen := by
  unfold argsC at h
  split at h
  case h_2 => simp at h
  split at h
  case h_2 => simp at h
  rename_i h1 h2 h3 h4 h5 h6
  simp only [Option.some.injEq, Prod.mk.injEq] at h
  obtain ⟨⟨rfl, rfl, rfl⟩, rfl, rfl, rfl⟩ := h
  cases hr with
  | cons r1 r => cases r with
    | cons r2 r => cases r with
      | nil =>
        obtain ⟨x, y, z, rfl, a1, a2, a3⟩ := three_rel r1
        obtain ⟨x', y', z', rfl, b1, b2, b3⟩ := three_rel r2
        rw [intC_some h1] at a1
        rw [intC_some h2] at a2
        rw [intC_some h3] at a3
        rw [intC_some h4] at b1
        rw [intC_some h5] at b2
        obtain rfl := int_rel a1
        obtain rfl := int_rel a2
        obtain rfl := int_rel a3
        obtain rfl := int_rel b1
        obtain rfl := int_rel b2
        obtain ⟨rfl, hs⟩ := txtC_some h6 b3
        exact ⟨rfl, hs⟩
noncomputable def is7 (x : Option (D × List Root)) : Bool := match x with
  | some (.a [.im (.v (.int .i64 a)), .im (.v (.int .i64 b)), .im (.v (.int .i64 c))], _) => a == 126 && (b == -1000000000000000 && c == 1000000000000000)
  | _ => false
theorem san7 : is7 (lo0.call 7 [] []) = true := by kernel_rfl
theorem is7_some {x : Option (D × List Root)} (h : is7 x = true) : ∃ rs, x = some (d7, rs) := by
  unfold is7 at h
  split at h
  · simp only [Bool.and_eq_true, beq_iff_eq] at h
    obtain ⟨rfl, rfl, rfl⟩ := h
    exact ⟨_, rfl⟩
  · simp at h
theorem known7 : V.Enters Tryd.prog 7 ∧ Pure1 tab Tryd.prog 7 [] d7 := by
  obtain ⟨rs, hr⟩ := is7_some san7
  exact ⟨(lo0_ok.call _ _ _ _ _ hr).1, lo0_ok.pure hr rfl⟩
theorem enters5 : V.Enters Tryd.prog 5 := ⟨_, Tryd.func5, by kernel_rfl, by kernel_rfl⟩
theorem enters6 : V.Enters Tryd.prog 6 := ⟨_, Tryd.func6, by kernel_rfl, by kernel_rfl⟩
theorem pure_lo {f : FuncId} {d : D} {rs : List Root} (h : V.Enters Tryd.prog f ∧ Pure1 tab Tryd.prog f [] d) :
    V.Enters Tryd.prog f ∧ ∀ (N : Nat) (av0 : Nat → Prop) (w0 : World) (sp : List (D × Value)) (sl : Slots) (df : List Nat) (a : Act) (w : World) (E : Env) (vs : List Value), R tab N av0 w0 sp ⟨sl, rs, df⟩ a w E → All2 (DRel E (AV av0 rs E) w) [] vs →
    Go.Calls Tryd.prog f vs.toArray w fun e w' => ∃ v E', e = .returned v ∧ Kept E E' ∧ R tab N av0 w0 sp ⟨sl, rs, df⟩ a w' E' ∧ DRel E' (AV av0 rs E') w' d v := by
  refine ⟨h.1, ?_⟩
  intro N av0 w0 sp sl df a w E vs hR hv
  cases hv
  have avlt : ∀ b, AV av0 rs E b → b < w.heap.size := by
    rintro b (q | ⟨r, x, sz, q1, q2, q3⟩)
    · have := hR.outer b q; have := hR.size_le; omega
    · exact (hR.blk r x b sz q1 q2 q3).2
  refine (h.2 (AV av0 rs E) w [] avlt hR.glob .nil).mono ?_
  rintro en w' ⟨v, rfl, hd, hb⟩
  exact ⟨v, E, rfl, Kept.refl E, hR.grown hb, DRel.mono (fun r e q => by simp at q) (Keeps.refl _ w') (fun b _ q => q) hd⟩
theorem loX_ok {X Y : Int → Int → Int → Int → Int → ByteArray → Bool} (hX : ∀ k lo hi kind n s, X k lo hi kind n s = contA k lo hi kind n s) (hY : ∀ k lo hi kind n s, Y k lo hi kind n s = contB k lo hi kind n s) : LoOK tab Tryd.prog (loX X Y) where
  call f ds rs d rs' e := by
    unfold loX at e
    dsimp only at e
    split at e
    · split at e
      case h_2 => simp at e
      simp only [Option.some.injEq, Prod.mk.injEq] at e
      obtain ⟨rfl, rfl⟩ := e
      exact pure_lo known4
    · split at e
      case h_2 => simp at e
      rename_i k lo hi kind n s ha
      simp only [Option.some.injEq, Prod.mk.injEq] at e
      obtain ⟨rfl, rfl⟩ := e
      refine ⟨enters5, ?_⟩
      intro N av0 w0 sp sl df a w E vs h hv
      obtain ⟨rfl, hs⟩ := argsC_rel ha hv
      refine (cont5 k lo hi kind n s w).mono ?_
      rintro en w' ⟨rfl, hb⟩
      exact ⟨_, E, rfl, Kept.refl E, h.grown hb, by rw [hX]; exact ⟨rfl, rfl⟩⟩
    · split at e
      case h_2 => simp at e
      rename_i k lo hi kind n s ha
      simp only [Option.some.injEq, Prod.mk.injEq] at e
      obtain ⟨rfl, rfl⟩ := e
      refine ⟨enters6, ?_⟩
      intro N av0 w0 sp sl df a w E vs h hv
      obtain ⟨rfl, hs⟩ := argsC_rel ha hv
      refine (cont6 k lo hi kind n s w hs).mono ?_
      rintro en w' ⟨rfl, hb⟩
      exact ⟨_, E, rfl, Kept.refl E, h.grown hb, by rw [hY]; exact ⟨rfl, rfl⟩⟩
    · split at e
      case h_2 => simp at e
      simp only [Option.some.injEq, Prod.mk.injEq] at e
      obtain ⟨rfl, rfl⟩ := e
      exact pure_lo known7
    · simp at e
  yld r ds rs d rs' e := by simp [loX] at e
end Go.Proofs.YtkbgcnppkmkkiaaDoor
