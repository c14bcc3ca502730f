/- Loops: what is to be shown. -/
import Derived.Test.YtgbbdaegmfjahaaGreatP5
set_option linter.unusedVariables false
set_option linter.unusedSimpArgs false
set_option maxRecDepth 1000000
namespace Go.Proofs.YtgbbdaegmfjahaaGreat
open Go Go.V
noncomputable def F6L : AnsL := [
  (113, fun ds rs => (bool (fieldsR (aIns ds 0)), [], []))]
noncomputable def F6 := ext F5 F6L
noncomputable def appSq {α : Type} (x y : Sq α) : Sq α := ⟨x.n + y.n, fun i => Bool.rec (y.get (i - x.n)) (x.get i) (Nat.blt i x.n)⟩
theorem appA_sq {α : Type} (x y : Sq α) (e : α → Nat → I) : appA x.n (fun i => e (x.get i)) (fun i => e (y.get i)) = fun i => e ((appSq x y).get i) := by
  funext i j
  show (Bool.rec (e (y.get (i - x.n)) j) (e (x.get i) j) (Nat.blt i x.n) : I) = e (Bool.rec (y.get (i - x.n)) (x.get i) (Nat.blt i x.n)) j
  cases Nat.blt i x.n <;> rfl
theorem rt_app {α : Type} (el sz : Nat) (x y : Sq α) (e : α → Nat → I) : RtLe (.arr el sz (x.n + y.n) (appA x.n (fun i => e (x.get i)) (fun i => e (y.get i)))) (.arr el sz (appSq x y).n fun i => e ((appSq x y).get i)) := by
  rw [appA_sq]; exact RtLe.refl _
theorem rt_nil (el sz : Nat) (g g' : Nat → Nat → I) : RtLe (.arr el sz 0 g) (.arr el sz 0 g') := RtLe.arr fun i hi => by omega
noncomputable def catU {α : Type} (g : Nat → Sq α) : Nat → Nat → Sq α → Sq α
  | 0, _, l => l
  | m + 1, k, l => catU g m (k + 1) (appSq l (g k))
def nilSq {α : Type} (a : α) : Sq α := ⟨0, fun _ => a⟩
noncomputable def frR (f : FrameL) : Bool := !(decide (f.fn < 0) || (decide (f.line < 0) || decide ((f.vars.n : Int) > 24)))
noncomputable def obR (t : TraceL) (e : ExitL) (k : Int) (j : Nat) : Bool := !(!valL t (e.objs.get j).value k || ((t.ins.get (e.objs.get j).value.toNat).op != 17 || (objL e.objs (e.objs.get j).value != (j : Int) || ((e.objs.get j).cls != (t.ins.get (e.objs.get j).value.toNat).n || (!sameSq eqS (e.objs.get j).names (t.ins.get (e.objs.get j).value.toNat).names || (((e.objs.get j).items.n : Int) != ((e.objs.get j).names.n : Int)))))))
noncomputable def usR (t : TraceL) (e : ExitL) (k v : Int) : Bool := v == -1 || !(!valL t v k || ((t.ins.get v.toNat).op == 17 && decide (objL e.objs v < 0)))
noncomputable def x21 (t : TraceL) (e : ExitL) (k : Int) (l : Sq Int) : Bool := allF (fun i => usR t e k (l.get i)) l.n
noncomputable def x12 (t : TraceL) (e : ExitL) (k : Int) (l : Sq Int) : Bool := allF (obR t e k) e.objs.n && x21 t e k (catU (fun j => (e.objs.get j).items) e.objs.n 0 l)
noncomputable def exitR (t : TraceL) (e : ExitL) (k : Int) : Bool := !(decide ((e.frames.n : Int) < 1) || (decide ((e.frames.n : Int) > 6) || decide (e.back < 0))) && (allF (fun j => frR (e.frames.get j)) e.frames.n && x12 t e k (catU (fun j => (e.frames.get j).vars) e.frames.n 0 (nilSq 0)))
noncomputable def XG116 : Spc := { F := F6 }
def sp116 : Nat → Bool := fun i => Nat.beq i 5 || Nat.beq i 12 || Nat.beq i 21
theorem fn116 : Fn 116 := ⟨by kernel_rfl, by kernel_rfl⟩
theorem vc116 (L : LP) (QD : D → Prop) (t : TraceL) (e : ExitL) (k : Int) (h : br (decide ((↑e.1.1 : Int) < 1)) ( QD (bool false)) ( br (decide ((↑e.1.1 : Int) > 6)) ( QD (bool false)) ( br (decide (e.3 < 0)) ( QD (bool false)) ( L (todoG 116 5) ⟨[(2, ((int k), [])), (3, ((.c (.rt 0 0 0)), [])), (4, ((.c (.rt 1 0 0)), [])), (7, ((.c (.im (.v (.slice .none 0 0)))), [])), (8, ((int 0), []))], [(.box (lift (lTrace (t)))), (.box (lift (lExit (e))))], []⟩)))) : vcF XG116 116 sp116 L (endP QD) [dTrace t, dExit e, int k] [] := Eq.mp (by kernel_rfl) h
noncomputable def st116_5 (t : TraceL) (e : ExitL) (k : Int) (l : Sq Int) (j : Nat) : VS := ⟨[(2, (.c (.im (.v (.int .i64 k)))), []), (3, (.c (.rt 0 0 0)), []), (4, (.c (.rt 1 0 0)), []), (7, .c (.sa 2 l.n), []), (8, int j, [])], [(.box (lift (lTrace (t)))), (.box (lift (lExit (e)))), .arr 3 1 l.n (fun i => eInt (l.get i))], []⟩
theorem vc116_5 (L : LP) (QD : D → Prop) (t : TraceL) (e : ExitL) (k : Int) (l : Sq Int) (j : Nat) (h : br (decide ((↑j : Int) < (↑e.1.1 : Int))) ( nd (inB (↑j : Int) e.1.1) ( br (decide ((e.frames.2 j).1 < 0)) ( QD (bool false)) ( br (decide ((e.frames.2 j).2 < 0)) ( QD (bool false)) ( br (decide ((↑(e.frames.2 j).3.1 : Int) > 24)) ( QD (bool false)) ( nd (roomB (l.1 + (e.frames.2 j).3.1) 8) ( nd (l.1.beq l.1) ( L (todoG 116 5) ⟨[(2, ((int k), [])), (3, ((.c (.rt 0 0 0)), [])), (4, ((.c (.rt 1 0 0)), [])), (7, ((.c (.sa 4 (l.1 + (e.frames.2 j).3.1))), [])), (8, ((int (IntKind.i64.wrap ((↑j : Int) + 1))), []))], [(.box (lift (lTrace (t)))), (.box (lift (lExit (e)))), .dead, (.box (lift (lFrame (e.frames.2 j)))), (.arr 3 1 (l.1 + (e.frames.2 j).3.1) (appA l.1 (fun i => eInt (l.2 i)) ((e.frames.2 j).3.1, fun i => eInt ((e.frames.get (↑j : Int).toNat).vars.2 i)).snd))], []⟩))))))) ( L (todoG 116 12) ⟨[(2, ((int k), [])), (3, ((.c (.rt 0 0 0)), [])), (4, ((.c (.rt 1 0 0)), [])), (7, ((.c (.sa 2 l.1)), [])), (10, ((int 0), []))], [(.box (lift (lTrace (t)))), (.box (lift (lExit (e)))), (.arr 3 1 l.1 (fun i => eInt (l.2 i)))], []⟩)) : vcR XG116 116 sp116 L (endP QD) 5 (st116_5 t e k l j) := Eq.mp (by kernel_rfl) h
noncomputable def st116_12 (t : TraceL) (e : ExitL) (k : Int) (l : Sq Int) (j : Nat) : VS := ⟨[(2, (.c (.im (.v (.int .i64 k)))), []), (3, (.c (.rt 0 0 0)), []), (4, (.c (.rt 1 0 0)), []), (7, .c (.sa 2 l.n), []), (10, int j, [])], [(.box (lift (lTrace (t)))), (.box (lift (lExit (e)))), .arr 3 1 l.n (fun i => eInt (l.get i))], []⟩
theorem vc116_12 (L : LP) (QD : D → Prop) (t : TraceL) (e : ExitL) (k : Int) (l : Sq Int) (j : Nat) (h : br (decide ((↑j : Int) < (↑e.2.1 : Int))) ( nd (inB (↑j : Int) e.2.1) ( ( LC 114 [(.a (lift (lTrace (t)))), (int ((e.objs.2 j).1)), (int k)] [] (bool (valL t (e.objs.2 j).1 k)) [] ∧ br (!valL t (e.objs.2 j).1 k) ( QD (bool false)) ( nd (inB (e.objs.2 j).1 t.2.1) ( br ((t.ins.2 (e.objs.2 j).1.toNat).1 != 17) ( QD (bool false)) ( ( LC 137 [(.a (lift (lExit (e)))), (int ((e.objs.2 j).1))] [] (int (objL e.2 (e.objs.2 j).1)) [] ∧ br (objL e.2 (e.objs.2 j).1 != (↑j : Int)) ( QD (bool false)) ( nd (inB (e.objs.2 j).1 t.2.1) ( br ((e.objs.2 j).2 != (t.ins.2 (e.objs.2 j).1.toNat).5) ( QD (bool false)) ( nd (inB (e.objs.2 j).1 t.2.1) ( ( LC 22 [(.c (.im (.sl 1 ((e.objs.2 j).3.1) (fun i => eStr ((e.objs.get (↑j : Int).toNat).names.2 i))))), (.c (.im (.sl 1 ((t.ins.2 (e.objs.2 j).1.toNat).8.1) (fun i => eStr ((t.ins.get (e.objs.get (↑j : Int).toNat).value.toNat).names.2 i)))))] [] (bool (sameSq eqS (e.objs.2 j).3 (t.ins.2 (e.objs.2 j).1.toNat).8)) [] ∧ br (!sameSq eqS (e.objs.2 j).3 (t.ins.2 (e.objs.2 j).1.toNat).8) ( QD (bool false)) ( br ((↑(e.objs.2 j).4.1 : Int) != (↑(e.objs.2 j).3.1 : Int)) ( QD (bool false)) ( nd (roomB (l.1 + (e.objs.2 j).4.1) 8) ( nd (l.1.beq l.1) ( L (todoG 116 12) ⟨[(2, ((int k), [])), (3, ((.c (.rt 0 0 0)), [])), (4, ((.c (.rt 1 0 0)), [])), (7, ((.c (.sa 5 (l.1 + (e.objs.2 j).4.1))), [])), (10, ((int (IntKind.i64.wrap ((↑j : Int) + 1))), []))], [(.box (lift (lTrace (t)))), (.box (lift (lExit (e)))), .dead, (.box (lift (lVirt (e.objs.2 j)))), .dead, (.arr 3 1 (l.1 + (e.objs.2 j).4.1) (appA l.1 (fun i => eInt (l.2 i)) ((e.objs.2 j).4.1, fun i => eInt ((e.objs.get (↑j : Int).toNat).items.2 i)).snd))], []⟩)))))))))))))))) ( L (todoG 116 21) ⟨[(2, ((int k), [])), (3, ((.c (.rt 0 0 0)), [])), (4, ((.c (.rt 1 0 0)), [])), (7, ((.c (.sa 2 l.1)), [])), (12, ((int 0), []))], [(.box (lift (lTrace (t)))), (.box (lift (lExit (e)))), (.arr 3 1 l.1 (fun i => eInt (l.2 i)))], []⟩)) : vcR XG116 116 sp116 L (endP QD) 12 (st116_12 t e k l j) := Eq.mp (by kernel_rfl) h
noncomputable def st116_21 (t : TraceL) (e : ExitL) (k : Int) (l : Sq Int) (j : Nat) : VS := ⟨[(2, (.c (.im (.v (.int .i64 k)))), []), (3, (.c (.rt 0 0 0)), []), (4, (.c (.rt 1 0 0)), []), (7, .c (.sa 2 l.n), []), (12, int j, [])], [(.box (lift (lTrace (t)))), (.box (lift (lExit (e)))), .arr 3 1 l.n (fun i => eInt (l.get i))], []⟩
theorem vc116_21 (L : LP) (QD : D → Prop) (t : TraceL) (e : ExitL) (k : Int) (l : Sq Int) (j : Nat) (h : br (decide ((↑j : Int) < (↑l.1 : Int))) ( nd (inB (↑j : Int) l.1) ( nd (j.blt l.1) ( br (l.2 j == -1) ( L (todoG 116 21) ⟨[(2, ((int k), [])), (3, ((.c (.rt 0 0 0)), [])), (4, ((.c (.rt 1 0 0)), [])), (7, ((.c (.sa 2 l.1)), [])), (12, ((int (IntKind.i64.wrap ((↑j : Int) + 1))), []))], [(.box (lift (lTrace (t)))), (.box (lift (lExit (e)))), (.arr 3 1 l.1 (fun i => eInt (l.2 i)))], []⟩) ( nd (inB (↑j : Int) l.1) ( nd (j.blt l.1) ( ( LC 114 [(.a (lift (lTrace (t)))), (int (l.2 j)), (int k)] [] (bool (valL t (l.2 j) k)) [] ∧ br (!valL t (l.2 j) k) ( QD (bool false)) ( nd (inB (↑j : Int) l.1) ( nd (j.blt l.1) ( nd (inB (l.2 j) t.2.1) ( br ((t.ins.2 (l.2 j).toNat).1 == 17) ( nd (inB (↑j : Int) l.1) ( nd (j.blt l.1) ( ( LC 137 [(.a (lift (lExit (e)))), (int (l.2 j))] [] (int (objL e.2 (l.2 j))) [] ∧ br (decide (objL e.2 (l.2 j) < 0)) ( QD (bool false)) ( L (todoG 116 21) ⟨[(2, ((int k), [])), (3, ((.c (.rt 0 0 0)), [])), (4, ((.c (.rt 1 0 0)), [])), (7, ((.c (.sa 2 l.1)), [])), (12, ((int (IntKind.i64.wrap ((↑j : Int) + 1))), []))], [(.box (lift (lTrace (t)))), (.box (lift (lExit (e)))), (.arr 3 1 l.1 (fun i => eInt (l.2 i))), .dead, .dead], []⟩))))) ( L (todoG 116 21) ⟨[(2, ((int k), [])), (3, ((.c (.rt 0 0 0)), [])), (4, ((.c (.rt 1 0 0)), [])), (7, ((.c (.sa 2 l.1)), [])), (12, ((int (IntKind.i64.wrap ((↑j : Int) + 1))), []))], [(.box (lift (lTrace (t)))), (.box (lift (lExit (e)))), (.arr 3 1 l.1 (fun i => eInt (l.2 i))), .dead, .dead], []⟩)))))))))))) ( QD (bool true))) : vcR XG116 116 sp116 L (endP QD) 21 (st116_21 t e k l j) := Eq.mp (by kernel_rfl) h
structure SmallE (e : ExitL) : Prop where
  frames : e.frames.n ≤ 1000
  vars : ∀ j, j < e.frames.n → (e.frames.get j).vars.n ≤ 1000
  objs : e.objs.n ≤ 1000
  names : ∀ j, j < e.objs.n → (e.objs.get j).names.n ≤ 1000
  items : ∀ j, j < e.objs.n → (e.objs.get j).items.n ≤ 1000
structure SmallT (t : TraceL) : Prop where
  ins : t.ins.n ≤ 1000
  exits : t.exits.n ≤ 1000
  args : ∀ k, k < t.ins.n → (t.ins.get k).args.n ≤ 1000
  names : ∀ k, k < t.ins.n → (t.ins.get k).names.n ≤ 1000
  str : ∀ k, k < t.ins.n → (t.ins.get k).k.s.size ≤ 1000
  ex : ∀ k, k < t.exits.n → SmallE (t.exits.get k)
theorem valL_lt {t : TraceL} {v k : Int} (h : valL t v k = true) : 0 ≤ v ∧ v < k := by
  simp only [valL, Bool.and_eq_true, decide_eq_true_eq] at h
  omega
theorem valL_in {t : TraceL} {v k : Int} (h : valL t v k = true) (hk : k ≤ t.ins.n) : inB v t.ins.n = true := by
  have := valL_lt h
  exact inB_int this.1 (by omega)
theorem room_ok {n : Nat} {b : Nat} (h : n ≤ 2000000) (hb : b ≤ 1000) : roomB n b = true := by
  have h2 : n * b ≤ 2000000 * 1000 := Nat.mul_le_mul h hb
  unfold roomB
  simp only [Bool.and_eq_true]
  exact ⟨Nat.ble_eq_true_of_le (Nat.le_trans h (by decide)), Nat.ble_eq_true_of_le (Nat.le_trans h2 (by decide))⟩
theorem blt_ok {a b : Nat} (h : a < b) : Nat.blt a b = true := by simpa [Nat.blt_eq] using h
theorem lp116_21 (t : TraceL) (e : ExitL) (k : Int) (l : Sq Int) (a : Bool) (hk : k ≤ t.ins.n) (hl : l.n ≤ 2000000) : ∀ j, j ≤ l.n → scanA (fun i => usR t e k (l.get i)) (l.n - j) j = a → GoalF 116 0 (EndsP (bool a)) (todoG 116 21) (st116_21 t e k l j) := by
  refine count_rule (fun j hj ih ha => ?_) (fun ha => ?_)
  · have q : l.n - j = (l.n - (j + 1)) + 1 := by omega
    rw [q] at ha
    have no : usR t e k (l.get j) = false → DLe (bool false) (bool a) := fun q => by rw [scanA_false (p := fun i => usR t e k (l.get i)) q] at ha; subst ha; exact DLe.refl _
    have go : usR t e k (l.get j) = true → GoalF 116 0 (EndsP (bool a)) (todoG 116 21) (st116_21 t e k l (j + 1)) := fun q => by rw [scanA_true (p := fun i => usR t e k (l.get i)) q] at ha; exact ih ha
    refine reachP (X := XG116) (stop := sp116) (vc116_21 _ _ t e k l j ?_)
    rw [wrap1 hj (Nat.le_trans hl (by decide))]
    refine br_mk (fun h => ?_) (fun h => (dec_lt h hj).elim)
    refine nd_mk (inB_nat hj) (nd_mk (blt_ok hj) ?_)
    refine br_mk (fun h1 => go (by simp only [usR, show (l.get j == -1) = true from h1, Bool.true_or])) (fun h1 => ?_)
    have h1 : (l.get j == -1) = false := h1
    refine nd_mk (inB_nat hj) (nd_mk (blt_ok hj) ⟨con114 _ _ _ hk, ?_⟩)
    refine br_mk (fun h2 => no (by simp only [usR, h1, show (!valL t (l.get j) k) = true from h2, boolL])) (fun h2 => ?_)
    have h2 : valL t (l.get j) k = true := by simpa using h2
    refine nd_mk (inB_nat hj) (nd_mk (blt_ok hj) (nd_mk (valL_in h2 hk) ?_))
    refine br_mk (fun h3 => ?_) (fun h3 => ?_)
    · have h3 : ((t.ins.get (l.get j).toNat).op == 17) = true := h3
      refine nd_mk (inB_nat hj) (nd_mk (blt_ok hj) ⟨con137 _ _, ?_⟩)
      refine br_mk (fun h4 => no (by simp only [usR, h1, h2, h3, show decide (objL e.objs (l.get j) < 0) = true from h4, boolL])) (fun h4 => ?_)
      exact GoalF.rename [0, 1, 2] rfl (go (by simp only [usR, h1, h2, h3, show decide (objL e.objs (l.get j) < 0) = false from h4, boolL]))
    · exact GoalF.rename [0, 1, 2] rfl (go (by simp only [usR, h1, h2, show ((t.ins.get (l.get j).toNat).op == 17) = false from h3, boolL]))
  · rw [Nat.sub_self] at ha
    refine reachP (X := XG116) (stop := sp116) (vc116_21 _ _ t e k l _ ?_)
    refine br_mk (fun h => lt_self h) (fun h => ?_)
    subst ha; exact DLe.refl _
theorem lp116_12 (t : TraceL) (e : ExitL) (k : Int) (a : Bool) (hk : k ≤ t.ins.n) (hS : SmallE e) : ∀ j, j ≤ e.objs.n → ∀ l : Sq Int, l.n ≤ 144 + 1000 * j → (scanA (obR t e k) (e.objs.n - j) j && x21 t e k (catU (fun i => (e.objs.get i).items) (e.objs.n - j) j l)) = a → GoalF 116 0 (EndsP (bool a)) (todoG 116 12) (st116_12 t e k l j) := by
  have hN := hS.objs
  refine count_rule (fun j hj ih l hl ha => ?_) (fun l hl ha => ?_)
  · have q : e.objs.n - j = (e.objs.n - (j + 1)) + 1 := by omega
    rw [q] at ha
    have hi := hS.items j hj
    have no : obR t e k j = false → DLe (bool false) (bool a) := fun q => by rw [scanA_false q, Bool.false_and] at ha; subst ha; exact DLe.refl _
    have go : obR t e k j = true → GoalF 116 0 (EndsP (bool a)) (todoG 116 12) (st116_12 t e k (appSq l (e.objs.get j).items) (j + 1)) := fun q => by rw [scanA_true q] at ha; exact ih _ (by show l.n + _ ≤ _; omega) ha
    refine reachP (X := XG116) (stop := sp116) (vc116_12 _ _ t e k l j ?_)
    rw [wrap1 hj (Nat.le_trans hN (by decide))]
    refine br_mk (fun h => ?_) (fun h => (dec_lt h hj).elim)
    refine nd_mk (inB_nat hj) ⟨con114 _ _ _ hk, ?_⟩
    refine br_mk (fun h1 => no (by simp only [obR, show (!valL t (e.objs.get j).value k) = true from h1, boolL])) (fun h1 => ?_)
    have h1 : valL t (e.objs.get j).value k = true := by simpa using h1
    have hb := valL_in h1 hk
    refine nd_mk hb (br_mk (fun h2 => no (by simp only [obR, h1, show ((t.ins.get (e.objs.get j).value.toNat).op != 17) = true from h2, boolL])) (fun h2 => ⟨con137 _ _, ?_⟩))
    have h2 : ((t.ins.get (e.objs.get j).value.toNat).op != 17) = false := h2
    refine br_mk (fun h3 => no (by simp only [obR, h1, h2, show (objL e.objs (e.objs.get j).value != (j : Int)) = true from h3, boolL])) (fun h3 => nd_mk hb ?_)
    have h3 : (objL e.objs (e.objs.get j).value != (j : Int)) = false := h3
    refine br_mk (fun h4 => no (by simp only [obR, h1, h2, h3, show ((e.objs.get j).cls != (t.ins.get (e.objs.get j).value.toNat).n) = true from h4, boolL])) (fun h4 => nd_mk hb ⟨con22 _ _, ?_⟩)
    have h4 : ((e.objs.get j).cls != (t.ins.get (e.objs.get j).value.toNat).n) = false := h4
    refine br_mk (fun h5 => no (by simp only [obR, h1, h2, h3, h4, show (!sameSq eqS (e.objs.get j).names (t.ins.get (e.objs.get j).value.toNat).names) = true from h5, boolL])) (fun h5 => ?_)
    have h5 : (!sameSq eqS (e.objs.get j).names (t.ins.get (e.objs.get j).value.toNat).names) = false := h5
    refine br_mk (fun h6 => no (by simp only [obR, h1, h2, h3, h4, h5, show (((e.objs.get j).items.n : Int) != ((e.objs.get j).names.n : Int)) = true from h6, boolL])) (fun h6 => ?_)
    have h6 : (((e.objs.get j).items.n : Int) != ((e.objs.get j).names.n : Int)) = false := h6
    refine nd_mk (room_ok (by show l.n + (e.objs.get j).items.n ≤ _; omega) (by omega)) (nd_mk (Nat.beq_refl _) ?_)
    refine GoalF.rename [0, 1, 5] rfl (GoalF.le (st116_12 t e k (appSq l (e.objs.get j).items) (j + 1)) (by repeat' (first | exact trivial | refine wk1 rfl ?_)) (rc (rc (.cons (rt_app 3 1 l (e.objs.get j).items eInt) .nil))) rfl (go ?_))
    simp only [obR, h1, h2, h3, h4, h5, h6, boolL]
  · rw [Nat.sub_self] at ha
    refine reachP (X := XG116) (stop := sp116) (vc116_12 _ _ t e k l _ ?_)
    refine br_mk (fun h => lt_self h) (fun h => ?_)
    exact lp116_21 t e k l a hk (by omega) 0 (Nat.zero_le _) (by simpa [scanA, catU, x21, allF] using ha)
theorem lp116_5 (t : TraceL) (e : ExitL) (k : Int) (a : Bool) (hk : k ≤ t.ins.n) (hS : SmallE e) (hN : e.frames.n ≤ 6) : ∀ j, j ≤ e.frames.n → ∀ l : Sq Int, l.n ≤ 24 * j → (scanA (fun j => frR (e.frames.get j)) (e.frames.n - j) j && x12 t e k (catU (fun i => (e.frames.get i).vars) (e.frames.n - j) j l)) = a → GoalF 116 0 (EndsP (bool a)) (todoG 116 5) (st116_5 t e k l j) := by
  refine count_rule (fun j hj ih l hl ha => ?_) (fun l hl ha => ?_)
  · have q : e.frames.n - j = (e.frames.n - (j + 1)) + 1 := by omega
    rw [q] at ha
    have no : frR (e.frames.get j) = false → DLe (bool false) (bool a) := fun q => by rw [scanA_false (p := fun j => frR (e.frames.get j)) q, Bool.false_and] at ha; subst ha; exact DLe.refl _
    have go : frR (e.frames.get j) = true → (e.frames.get j).vars.n ≤ 24 → GoalF 116 0 (EndsP (bool a)) (todoG 116 5) (st116_5 t e k (appSq l (e.frames.get j).vars) (j + 1)) := fun q hv => by rw [scanA_true (p := fun j => frR (e.frames.get j)) q] at ha; exact ih _ (by show l.n + _ ≤ _; omega) ha
    refine reachP (X := XG116) (stop := sp116) (vc116_5 _ _ t e k l j ?_)
    rw [wrap1 hj (Nat.le_trans hN (by decide))]
    refine br_mk (fun h => ?_) (fun h => (dec_lt h hj).elim)
    refine nd_mk (inB_nat hj) ?_
    refine br_mk (fun h1 => no (by simp only [frR, show decide ((e.frames.get j).fn < 0) = true from h1, boolL])) (fun h1 => ?_)
    have h1 : decide ((e.frames.get j).fn < 0) = false := h1
    refine br_mk (fun h2 => no (by simp only [frR, h1, show decide ((e.frames.get j).line < 0) = true from h2, boolL])) (fun h2 => ?_)
    have h2 : decide ((e.frames.get j).line < 0) = false := h2
    refine br_mk (fun h3 => no (by simp only [frR, h1, h2, show decide (((e.frames.get j).vars.n : Int) > 24) = true from h3, boolL])) (fun h3 => ?_)
    have h3 : decide (((e.frames.get j).vars.n : Int) > 24) = false := h3
    have hv : (e.frames.get j).vars.n ≤ 24 := by have := of_decide_eq_false h3; omega
    refine nd_mk (room_ok (by show l.n + (e.frames.get j).vars.n ≤ _; omega) (by omega)) (nd_mk (Nat.beq_refl _) ?_)
    refine GoalF.rename [0, 1, 4] rfl (GoalF.le (st116_5 t e k (appSq l (e.frames.get j).vars) (j + 1)) (by repeat' (first | exact trivial | refine wk1 rfl ?_)) (rc (rc (.cons (rt_app 3 1 l (e.frames.get j).vars eInt) .nil))) rfl (go ?_ hv))
    simp only [frR, h1, h2, h3, boolL]
  · rw [Nat.sub_self] at ha
    refine reachP (X := XG116) (stop := sp116) (vc116_5 _ _ t e k l _ ?_)
    refine br_mk (fun h => lt_self h) (fun h => ?_)
    exact lp116_12 t e k a hk hS 0 (Nat.zero_le _) l (by omega) (by simpa [scanA, catU, x12, allF] using ha)
theorem con116 (t : TraceL) (e : ExitL) (k : Int) (hk : k ≤ t.ins.n) (hS : SmallE e) : LC 116 [dTrace t, dExit e, int k] [] (bool (exitR t e k)) [] := by
  refine pure_vc (X := XG116) (stop := sp116) fn116 (nlb (by kernel_rfl)) (vc116 _ _ t e k ?_)
  refine br_mk (fun h1 => ?_) (fun h1 => br_mk (fun h2 => ?_) (fun h2 => br_mk (fun h3 => ?_) (fun h3 => ?_)))
  · rw [show exitR t e k = false from by simp only [exitR, show decide ((e.frames.n : Int) < 1) = true from h1, boolL]]; exact DLe.refl _
  · rw [show exitR t e k = false from by simp only [exitR, show decide ((e.frames.n : Int) > 6) = true from h2, boolL]]; exact DLe.refl _
  · rw [show exitR t e k = false from by simp only [exitR, show decide (e.back < 0) = true from h3, boolL]]; exact DLe.refl _
  · have hN : e.frames.n ≤ 6 := by have := of_decide_eq_false h2; omega
    refine GoalF.adopt 7 3 1 rfl (GoalF.le (st116_5 t e k (nilSq 0) 0) (by repeat' (first | exact trivial | refine wk1 rfl ?_)) (rc (rc (.cons (rt_nil 3 1 _ _) .nil))) rfl ?_)
    refine lp116_5 t e k _ hk hS hN 0 (Nat.zero_le _) (nilSq 0) (Nat.zero_le _) ?_
    simp only [exitR, allF, Nat.sub_zero, show decide ((e.frames.n : Int) < 1) = false from h1, show decide ((e.frames.n : Int) > 6) = false from h2, show decide (e.back < 0) = false from h3, boolL]
open Go Go.V
noncomputable def F7L : AnsL := [
  (116, fun ds rs => (bool (exitR (aTrace ds 0) (aExit ds 1) (aI ds 2)), [], []))]
noncomputable def F7 := ext F6 F7L
def eBool (b : Bool) : Nat → I := fun _ => iB b
theorem usedL_n (x : InsL) (h : x.args.n ≤ 1000) : (usedL x).n ≤ 1000 := by
  unfold usedL
  cases x.op == 20
  · show (m95 x.op).toNat ≤ 1000
    rcases m95_cases x.op with h | h | h | h <;> rw [h] <;> decide
  · exact h
noncomputable def XG73 : Spc := { F := F7 }
def sp73 : Nat → Bool := fun i => Nat.beq i 6 || Nat.beq i 12 || Nat.beq i 16 || Nat.beq i 20 || Nat.beq i 22
theorem fn73 : Fn 73 := ⟨by kernel_rfl, by kernel_rfl⟩
theorem vc73 (L : LP) (QD : D → Prop) (t : TraceL) (h : ( LC 112 [(.a (lift (lTrace (t))))] [] (int ((↑(parL t.2) : Int))) [] ∧ br (decide (t.1.1 < 0)) ( QD (bool false)) ( br (decide (t.1.2 < 0)) ( QD (bool false)) ( br ((↑t.2.1 : Int) == 0) ( QD (bool false)) ( nd (t.3.1.ble maxLen && (t.3.1 * 1).ble 281474976710656) ( nd (t.3.1.beq t.3.1) ( L (todoG 73 6) ⟨[(1, ((.c (.rt 0 0 0)), [])), (3, ((int ((↑(parL t.2) : Int))), [])), (4, ((.c (.sa 1 t.3.1)), [])), (5, ((int 0), []))], [(.box (lift (lTrace (t)))), (.arr 4 1 t.3.1 (fun x => getL [I.v (Value.bool false)]))], []⟩))))))) : vcF XG73 73 sp73 L (endP QD) [dTrace t] [] := Eq.mp (by kernel_rfl) h
noncomputable def st73_6 (t : TraceL) (w : Nat → Bool) (k : Nat) : VS := ⟨[(1, (.c (.rt 0 0 0)), []), (3, (.c (.im (.v (.int .i64 ((↑(parL t.2) : Int)))))), []), (4, .c (.sa 1 t.exits.n), []), (5, int k, [])], [(.box (lift (lTrace (t)))), .arr 4 1 t.exits.n (fun i => eBool (w i))], []⟩
theorem vc73_6 (L : LP) (QD : D → Prop) (t : TraceL) (w : Nat → Bool) (k : Nat) (h : br (decide ((↑k : Int) < (↑t.2.1 : Int))) ( nd (inB (↑k : Int) t.2.1) ( br ((t.ins.2 k).1 == 20) ( br (!true == ((↑k : Int) == IntKind.i64.wrap ((↑t.2.1 : Int) - 1))) ( QD (bool false)) ( br ((t.ins.2 k).1 == 1) ( br (decide ((↑k : Int) ≥ (↑(parL t.2) : Int))) ( QD (bool false)) ( ( LC 113 [(.a (lift (lIns (t.ins.2 k))))] [] (bool (fieldsR (t.ins.2 k))) [] ∧ br (!fieldsR (t.ins.2 k)) ( QD (bool false)) ( L (todoG 73 12) ⟨[(1, ((.c (.rt 0 0 0)), [])), (3, ((int ((↑(parL t.2) : Int))), [])), (4, ((.c (.sa 1 t.3.1)), [])), (5, ((int (↑k : Int)), [])), (6, ((.c (.rt 2 0 0)), [])), (74, ((bool false), []))], [(.box (lift (lTrace (t)))), (.arr 4 1 t.3.1 (fun i => eBool (w i))), (.box (lift (lIns (t.ins.2 k))))], []⟩)))) ( ( LC 113 [(.a (lift (lIns (t.ins.2 k))))] [] (bool (fieldsR (t.ins.2 k))) [] ∧ br (!fieldsR (t.ins.2 k)) ( QD (bool false)) ( L (todoG 73 12) ⟨[(1, ((.c (.rt 0 0 0)), [])), (3, ((int ((↑(parL t.2) : Int))), [])), (4, ((.c (.sa 1 t.3.1)), [])), (5, ((int (↑k : Int)), [])), (6, ((.c (.rt 2 0 0)), [])), (74, ((bool false), []))], [(.box (lift (lTrace (t)))), (.arr 4 1 t.3.1 (fun i => eBool (w i))), (.box (lift (lIns (t.ins.2 k))))], []⟩))))) ( br (!((t.ins.2 k).1 == 21) == ((↑k : Int) == IntKind.i64.wrap ((↑t.2.1 : Int) - 1))) ( QD (bool false)) ( br ((t.ins.2 k).1 == 1) ( br (decide ((↑k : Int) ≥ (↑(parL t.2) : Int))) ( QD (bool false)) ( ( LC 113 [(.a (lift (lIns (t.ins.2 k))))] [] (bool (fieldsR (t.ins.2 k))) [] ∧ br (!fieldsR (t.ins.2 k)) ( QD (bool false)) ( L (todoG 73 12) ⟨[(1, ((.c (.rt 0 0 0)), [])), (3, ((int ((↑(parL t.2) : Int))), [])), (4, ((.c (.sa 1 t.3.1)), [])), (5, ((int (↑k : Int)), [])), (6, ((.c (.rt 2 0 0)), [])), (74, ((bool false), []))], [(.box (lift (lTrace (t)))), (.arr 4 1 t.3.1 (fun i => eBool (w i))), (.box (lift (lIns (t.ins.2 k))))], []⟩)))) ( ( LC 113 [(.a (lift (lIns (t.ins.2 k))))] [] (bool (fieldsR (t.ins.2 k))) [] ∧ br (!fieldsR (t.ins.2 k)) ( QD (bool false)) ( L (todoG 73 12) ⟨[(1, ((.c (.rt 0 0 0)), [])), (3, ((int ((↑(parL t.2) : Int))), [])), (4, ((.c (.sa 1 t.3.1)), [])), (5, ((int (↑k : Int)), [])), (6, ((.c (.rt 2 0 0)), [])), (74, ((bool false), []))], [(.box (lift (lTrace (t)))), (.arr 4 1 t.3.1 (fun i => eBool (w i))), (.box (lift (lIns (t.ins.2 k))))], []⟩))))))) ( QD (bool true))) : vcR XG73 73 sp73 L (endP QD) 6 (st73_6 t w k) := Eq.mp (by kernel_rfl) h
noncomputable def st73_12 (t : TraceL) (w : Nat → Bool) (k : Nat) : VS := ⟨[(1, (.c (.rt 0 0 0)), []), (3, (.c (.im (.v (.int .i64 ((↑(parL t.2) : Int)))))), []), (4, (.c (.sa 1 t.3.1)), []), (5, (.c (.im (.v (.int .i64 (↑k : Int))))), []), (6, (.c (.rt 2 0 0)), [])], [(.box (lift (lTrace (t)))), (.arr 4 1 t.3.1 (fun i => eBool (w i))), (.box (lift (lIns (t.ins.2 k))))], []⟩
theorem vc73_12 (L : LP) (QD : D → Prop) (t : TraceL) (w : Nat → Bool) (k : Nat) (h : br ((t.ins.2 k).1 == 1) ( br (decide ((↑k : Int) > 0)) ( nd (inB (IntKind.i64.wrap ((↑k : Int) - 1)) t.2.1) ( br (decide ((t.ins.2 k).7.2 ≤ (t.ins.2 (IntKind.i64.wrap ((↑k : Int) - 1)).toNat).7.2)) ( QD (bool false)) ( br ((t.ins.2 k).1 == 20) ( br ((↑(t.ins.2 k).6.1 : Int) != (↑(parL t.2) : Int)) ( QD (bool false)) ( ( LC 74 [(.a (lift (lIns (t.ins.2 k))))] [] (.c (.im (.sl 1 ((usedL (t.ins.2 k)).1) (fun i => eInt ((usedL (aIns [D.a (lift [iI (t.ins.get k).op, iI (t.ins.get k).a, iI (t.ins.get k).b, iI (t.ins.get k).c, iI (t.ins.get k).n, sqI 1 eInt (t.ins.get k).args, iI (t.ins.get k).k.kind, iI (t.ins.get k).k.n, iS (t.ins.get k).k.s, sqI 1 eStr (t.ins.get k).names, iI (t.ins.get k).place.fn, iI (t.ins.get k).place.line, iI (t.ins.get k).exit, iB (t.ins.get k).once])] 0)).2 i))))) [] ∧ L (todoG 73 16) ⟨[(1, ((.c (.rt 0 0 0)), [])), (3, ((int ((↑(parL t.2) : Int))), [])), (4, ((.c (.sa 1 t.3.1)), [])), (5, ((int (↑k : Int)), [])), (6, ((.c (.rt 2 0 0)), [])), (8, ((.c (.im (.sl 1 ((usedL (t.ins.2 k)).1) (fun i => eInt ((usedL (aIns [D.a (lift [iI (t.ins.get k).op, iI (t.ins.get k).a, iI (t.ins.get k).b, iI (t.ins.get k).c, iI (t.ins.get k).n, sqI 1 eInt (t.ins.get k).args, iI (t.ins.get k).k.kind, iI (t.ins.get k).k.n, iS (t.ins.get k).k.s, sqI 1 eStr (t.ins.get k).names, iI (t.ins.get k).place.fn, iI (t.ins.get k).place.line, iI (t.ins.get k).exit, iB (t.ins.get k).once])] 0)).2 i))))), [])), (9, ((int 0), []))], [(.box (lift (lTrace (t)))), (.arr 4 1 t.3.1 (fun i => eBool (w i))), (.box (lift (lIns (t.ins.2 k))))], []⟩))) ( ( LC 74 [(.a (lift (lIns (t.ins.2 k))))] [] (.c (.im (.sl 1 ((usedL (t.ins.2 k)).1) (fun i => eInt ((usedL (aIns [D.a (lift [iI (t.ins.get k).op, iI (t.ins.get k).a, iI (t.ins.get k).b, iI (t.ins.get k).c, iI (t.ins.get k).n, sqI 1 eInt (t.ins.get k).args, iI (t.ins.get k).k.kind, iI (t.ins.get k).k.n, iS (t.ins.get k).k.s, sqI 1 eStr (t.ins.get k).names, iI (t.ins.get k).place.fn, iI (t.ins.get k).place.line, iI (t.ins.get k).exit, iB (t.ins.get k).once])] 0)).2 i))))) [] ∧ L (todoG 73 16) ⟨[(1, ((.c (.rt 0 0 0)), [])), (3, ((int ((↑(parL t.2) : Int))), [])), (4, ((.c (.sa 1 t.3.1)), [])), (5, ((int (↑k : Int)), [])), (6, ((.c (.rt 2 0 0)), [])), (8, ((.c (.im (.sl 1 ((usedL (t.ins.2 k)).1) (fun i => eInt ((usedL (aIns [D.a (lift [iI (t.ins.get k).op, iI (t.ins.get k).a, iI (t.ins.get k).b, iI (t.ins.get k).c, iI (t.ins.get k).n, sqI 1 eInt (t.ins.get k).args, iI (t.ins.get k).k.kind, iI (t.ins.get k).k.n, iS (t.ins.get k).k.s, sqI 1 eStr (t.ins.get k).names, iI (t.ins.get k).place.fn, iI (t.ins.get k).place.line, iI (t.ins.get k).exit, iB (t.ins.get k).once])] 0)).2 i))))), [])), (9, ((int 0), []))], [(.box (lift (lTrace (t)))), (.arr 4 1 t.3.1 (fun i => eBool (w i))), (.box (lift (lIns (t.ins.2 k))))], []⟩))))) ( br ((t.ins.2 k).1 == 20) ( br ((↑(t.ins.2 k).6.1 : Int) != (↑(parL t.2) : Int)) ( QD (bool false)) ( ( LC 74 [(.a (lift (lIns (t.ins.2 k))))] [] (.c (.im (.sl 1 ((usedL (t.ins.2 k)).1) (fun i => eInt ((usedL (aIns [D.a (lift [iI (t.ins.get k).op, iI (t.ins.get k).a, iI (t.ins.get k).b, iI (t.ins.get k).c, iI (t.ins.get k).n, sqI 1 eInt (t.ins.get k).args, iI (t.ins.get k).k.kind, iI (t.ins.get k).k.n, iS (t.ins.get k).k.s, sqI 1 eStr (t.ins.get k).names, iI (t.ins.get k).place.fn, iI (t.ins.get k).place.line, iI (t.ins.get k).exit, iB (t.ins.get k).once])] 0)).2 i))))) [] ∧ L (todoG 73 16) ⟨[(1, ((.c (.rt 0 0 0)), [])), (3, ((int ((↑(parL t.2) : Int))), [])), (4, ((.c (.sa 1 t.3.1)), [])), (5, ((int (↑k : Int)), [])), (6, ((.c (.rt 2 0 0)), [])), (8, ((.c (.im (.sl 1 ((usedL (t.ins.2 k)).1) (fun i => eInt ((usedL (aIns [D.a (lift [iI (t.ins.get k).op, iI (t.ins.get k).a, iI (t.ins.get k).b, iI (t.ins.get k).c, iI (t.ins.get k).n, sqI 1 eInt (t.ins.get k).args, iI (t.ins.get k).k.kind, iI (t.ins.get k).k.n, iS (t.ins.get k).k.s, sqI 1 eStr (t.ins.get k).names, iI (t.ins.get k).place.fn, iI (t.ins.get k).place.line, iI (t.ins.get k).exit, iB (t.ins.get k).once])] 0)).2 i))))), [])), (9, ((int 0), []))], [(.box (lift (lTrace (t)))), (.arr 4 1 t.3.1 (fun i => eBool (w i))), (.box (lift (lIns (t.ins.2 k))))], []⟩))) ( ( LC 74 [(.a (lift (lIns (t.ins.2 k))))] [] (.c (.im (.sl 1 ((usedL (t.ins.2 k)).1) (fun i => eInt ((usedL (aIns [D.a (lift [iI (t.ins.get k).op, iI (t.ins.get k).a, iI (t.ins.get k).b, iI (t.ins.get k).c, iI (t.ins.get k).n, sqI 1 eInt (t.ins.get k).args, iI (t.ins.get k).k.kind, iI (t.ins.get k).k.n, iS (t.ins.get k).k.s, sqI 1 eStr (t.ins.get k).names, iI (t.ins.get k).place.fn, iI (t.ins.get k).place.line, iI (t.ins.get k).exit, iB (t.ins.get k).once])] 0)).2 i))))) [] ∧ L (todoG 73 16) ⟨[(1, ((.c (.rt 0 0 0)), [])), (3, ((int ((↑(parL t.2) : Int))), [])), (4, ((.c (.sa 1 t.3.1)), [])), (5, ((int (↑k : Int)), [])), (6, ((.c (.rt 2 0 0)), [])), (8, ((.c (.im (.sl 1 ((usedL (t.ins.2 k)).1) (fun i => eInt ((usedL (aIns [D.a (lift [iI (t.ins.get k).op, iI (t.ins.get k).a, iI (t.ins.get k).b, iI (t.ins.get k).c, iI (t.ins.get k).n, sqI 1 eInt (t.ins.get k).args, iI (t.ins.get k).k.kind, iI (t.ins.get k).k.n, iS (t.ins.get k).k.s, sqI 1 eStr (t.ins.get k).names, iI (t.ins.get k).place.fn, iI (t.ins.get k).place.line, iI (t.ins.get k).exit, iB (t.ins.get k).once])] 0)).2 i))))), [])), (9, ((int 0), []))], [(.box (lift (lTrace (t)))), (.arr 4 1 t.3.1 (fun i => eBool (w i))), (.box (lift (lIns (t.ins.2 k))))], []⟩)))) ( br ((t.ins.2 k).1 == 20) ( br ((↑(t.ins.2 k).6.1 : Int) != (↑(parL t.2) : Int)) ( QD (bool false)) ( ( LC 74 [(.a (lift (lIns (t.ins.2 k))))] [] (.c (.im (.sl 1 ((usedL (t.ins.2 k)).1) (fun i => eInt ((usedL (aIns [D.a (lift [iI (t.ins.get k).op, iI (t.ins.get k).a, iI (t.ins.get k).b, iI (t.ins.get k).c, iI (t.ins.get k).n, sqI 1 eInt (t.ins.get k).args, iI (t.ins.get k).k.kind, iI (t.ins.get k).k.n, iS (t.ins.get k).k.s, sqI 1 eStr (t.ins.get k).names, iI (t.ins.get k).place.fn, iI (t.ins.get k).place.line, iI (t.ins.get k).exit, iB (t.ins.get k).once])] 0)).2 i))))) [] ∧ L (todoG 73 16) ⟨[(1, ((.c (.rt 0 0 0)), [])), (3, ((int ((↑(parL t.2) : Int))), [])), (4, ((.c (.sa 1 t.3.1)), [])), (5, ((int (↑k : Int)), [])), (6, ((.c (.rt 2 0 0)), [])), (8, ((.c (.im (.sl 1 ((usedL (t.ins.2 k)).1) (fun i => eInt ((usedL (aIns [D.a (lift [iI (t.ins.get k).op, iI (t.ins.get k).a, iI (t.ins.get k).b, iI (t.ins.get k).c, iI (t.ins.get k).n, sqI 1 eInt (t.ins.get k).args, iI (t.ins.get k).k.kind, iI (t.ins.get k).k.n, iS (t.ins.get k).k.s, sqI 1 eStr (t.ins.get k).names, iI (t.ins.get k).place.fn, iI (t.ins.get k).place.line, iI (t.ins.get k).exit, iB (t.ins.get k).once])] 0)).2 i))))), [])), (9, ((int 0), []))], [(.box (lift (lTrace (t)))), (.arr 4 1 t.3.1 (fun i => eBool (w i))), (.box (lift (lIns (t.ins.2 k))))], []⟩))) ( ( LC 74 [(.a (lift (lIns (t.ins.2 k))))] [] (.c (.im (.sl 1 ((usedL (t.ins.2 k)).1) (fun i => eInt ((usedL (aIns [D.a (lift [iI (t.ins.get k).op, iI (t.ins.get k).a, iI (t.ins.get k).b, iI (t.ins.get k).c, iI (t.ins.get k).n, sqI 1 eInt (t.ins.get k).args, iI (t.ins.get k).k.kind, iI (t.ins.get k).k.n, iS (t.ins.get k).k.s, sqI 1 eStr (t.ins.get k).names, iI (t.ins.get k).place.fn, iI (t.ins.get k).place.line, iI (t.ins.get k).exit, iB (t.ins.get k).once])] 0)).2 i))))) [] ∧ L (todoG 73 16) ⟨[(1, ((.c (.rt 0 0 0)), [])), (3, ((int ((↑(parL t.2) : Int))), [])), (4, ((.c (.sa 1 t.3.1)), [])), (5, ((int (↑k : Int)), [])), (6, ((.c (.rt 2 0 0)), [])), (8, ((.c (.im (.sl 1 ((usedL (t.ins.2 k)).1) (fun i => eInt ((usedL (aIns [D.a (lift [iI (t.ins.get k).op, iI (t.ins.get k).a, iI (t.ins.get k).b, iI (t.ins.get k).c, iI (t.ins.get k).n, sqI 1 eInt (t.ins.get k).args, iI (t.ins.get k).k.kind, iI (t.ins.get k).k.n, iS (t.ins.get k).k.s, sqI 1 eStr (t.ins.get k).names, iI (t.ins.get k).place.fn, iI (t.ins.get k).place.line, iI (t.ins.get k).exit, iB (t.ins.get k).once])] 0)).2 i))))), [])), (9, ((int 0), []))], [(.box (lift (lTrace (t)))), (.arr 4 1 t.3.1 (fun i => eBool (w i))), (.box (lift (lIns (t.ins.2 k))))], []⟩)))) : vcR XG73 73 sp73 L (endP QD) 12 (st73_12 t w k) := Eq.mp (by kernel_rfl) h
noncomputable def st73_16 (t : TraceL) (w : Nat → Bool) (k : Nat) (j : Nat) : VS := ⟨[(1, (.c (.rt 0 0 0)), []), (3, (.c (.im (.v (.int .i64 ((↑(parL t.2) : Int)))))), []), (4, (.c (.sa 1 t.3.1)), []), (5, (.c (.im (.v (.int .i64 (↑k : Int))))), []), (6, (.c (.rt 2 0 0)), []), (8, dSq 1 eInt (usedL (t.ins.get k)), []), (9, int j, [])], [(.box (lift (lTrace (t)))), (.arr 4 1 t.3.1 (fun i => eBool (w i))), (.box (lift (lIns (t.ins.2 k))))], []⟩
theorem vc73_16 (L : LP) (QD : D → Prop) (t : TraceL) (w : Nat → Bool) (k : Nat) (j : Nat) (h : br (decide ((↑j : Int) < (↑(usedL (t.ins.2 k)).1 : Int))) ( nd (inB (↑j : Int) (usedL (t.ins.2 k)).1) ( ( LC 114 [(.a (lift (lTrace (t)))), (int ((usedL (t.ins.get k)).2 j)), (int (↑k : Int))] [] (bool (valL t ((usedL (t.ins.get k)).2 j) (Int.ofNat k))) [] ∧ br (!valL t ((usedL (t.ins.get k)).2 j) (Int.ofNat k)) ( QD (bool false)) ( nd (inB (↑j : Int) (usedL (t.ins.2 k)).1) ( nd (inB ((usedL (t.ins.get k)).2 j) t.2.1) ( br ((t.ins.2 ((usedL (t.ins.get k)).2 j).toNat).1 == 17) ( QD (bool false)) ( L (todoG 73 16) ⟨[(1, ((.c (.rt 0 0 0)), [])), (3, ((int ((↑(parL t.2) : Int))), [])), (4, ((.c (.sa 1 t.3.1)), [])), (5, ((int (↑k : Int)), [])), (6, ((.c (.rt 2 0 0)), [])), (8, ((.c (.im (.sl 1 ((usedL (t.ins.2 k)).1) (fun i => eInt ((usedL (t.ins.get k)).2 i))))), [])), (9, ((int (IntKind.i64.wrap ((↑j : Int) + 1))), []))], [(.box (lift (lTrace (t)))), (.arr 4 1 t.3.1 (fun i => eBool (w i))), (.box (lift (lIns (t.ins.2 k)))), .dead], []⟩))))))) ( L (todoG 73 20) ⟨[(1, ((.c (.rt 0 0 0)), [])), (3, ((int ((↑(parL t.2) : Int))), [])), (4, ((.c (.sa 1 t.3.1)), [])), (5, ((int (↑k : Int)), [])), (6, ((.c (.rt 2 0 0)), [])), (8, ((.c (.im (.sl 1 ((usedL (t.ins.2 k)).1) (fun i => eInt ((usedL (t.ins.get k)).2 i))))), [])), (9, ((int (↑j : Int)), [])), (113, ((bool false), []))], [(.box (lift (lTrace (t)))), (.arr 4 1 t.3.1 (fun i => eBool (w i))), (.box (lift (lIns (t.ins.2 k))))], []⟩)) : vcR XG73 73 sp73 L (endP QD) 16 (st73_16 t w k j) := Eq.mp (by kernel_rfl) h
noncomputable def st73_20 (t : TraceL) (w : Nat → Bool) (k : Nat) : VS := ⟨[(1, (.c (.rt 0 0 0)), []), (3, (.c (.im (.v (.int .i64 ((↑(parL t.2) : Int)))))), []), (4, (.c (.sa 1 t.3.1)), []), (5, (.c (.im (.v (.int .i64 (↑k : Int))))), []), (6, (.c (.rt 2 0 0)), [])], [(.box (lift (lTrace (t)))), (.arr 4 1 t.3.1 (fun i => eBool (w i))), (.box (lift (lIns (t.ins.2 k))))], []⟩
theorem vc73_20 (L : LP) (QD : D → Prop) (t : TraceL) (w : Nat → Bool) (k : Nat) (h : br ((t.ins.2 k).11) ( ( LC 80 [(int ((t.ins.2 k).1))] [] (bool (m80 (t.ins.2 k).1)) [] ∧ br (!m80 (t.ins.2 k).1) ( QD (bool false)) ( br (decide ((t.ins.2 k).10 < -1)) ( QD (bool false)) ( br (decide ((t.ins.2 k).10 ≥ (↑t.3.1 : Int))) ( QD (bool false)) ( br (decide ((t.ins.2 k).10 ≥ 0)) ( ( LC 115 [(int ((t.ins.2 k).1))] [] (int (m115 (t.ins.2 k).1)) [] ∧ br (m115 (t.ins.2 k).1 == 0) ( QD (bool false)) ( br (decide ((t.ins.2 k).10 < 0)) ( ( LC 115 [(int ((t.ins.2 k).1))] [] (int (m115 (t.ins.2 k).1)) [] ∧ br (m115 (t.ins.2 k).1 == 2) ( QD (bool false)) ( L (todoG 73 22) ⟨[(1, ((.c (.rt 0 0 0)), [])), (3, ((int ((↑(parL t.2) : Int))), [])), (4, ((.c (.sa 1 t.3.1)), [])), (5, ((int (↑k : Int)), [])), (6, ((.c (.rt 2 0 0)), [])), (178, ((bool false), []))], [(.box (lift (lTrace (t)))), (.arr 4 1 t.3.1 (fun i => eBool (w i))), (.box (lift (lIns (t.ins.2 k))))], []⟩))) ( L (todoG 73 22) ⟨[(1, ((.c (.rt 0 0 0)), [])), (3, ((int ((↑(parL t.2) : Int))), [])), (4, ((.c (.sa 1 t.3.1)), [])), (5, ((int (↑k : Int)), [])), (6, ((.c (.rt 2 0 0)), [])), (178, ((bool false), []))], [(.box (lift (lTrace (t)))), (.arr 4 1 t.3.1 (fun i => eBool (w i))), (.box (lift (lIns (t.ins.2 k))))], []⟩)))) ( br (decide ((t.ins.2 k).10 < 0)) ( ( LC 115 [(int ((t.ins.2 k).1))] [] (int (m115 (t.ins.2 k).1)) [] ∧ br (m115 (t.ins.2 k).1 == 2) ( QD (bool false)) ( L (todoG 73 22) ⟨[(1, ((.c (.rt 0 0 0)), [])), (3, ((int ((↑(parL t.2) : Int))), [])), (4, ((.c (.sa 1 t.3.1)), [])), (5, ((int (↑k : Int)), [])), (6, ((.c (.rt 2 0 0)), [])), (178, ((bool false), []))], [(.box (lift (lTrace (t)))), (.arr 4 1 t.3.1 (fun i => eBool (w i))), (.box (lift (lIns (t.ins.2 k))))], []⟩))) ( L (todoG 73 22) ⟨[(1, ((.c (.rt 0 0 0)), [])), (3, ((int ((↑(parL t.2) : Int))), [])), (4, ((.c (.sa 1 t.3.1)), [])), (5, ((int (↑k : Int)), [])), (6, ((.c (.rt 2 0 0)), [])), (178, ((bool false), []))], [(.box (lift (lTrace (t)))), (.arr 4 1 t.3.1 (fun i => eBool (w i))), (.box (lift (lIns (t.ins.2 k))))], []⟩))))))) ( br (decide ((t.ins.2 k).10 < -1)) ( QD (bool false)) ( br (decide ((t.ins.2 k).10 ≥ (↑t.3.1 : Int))) ( QD (bool false)) ( br (decide ((t.ins.2 k).10 ≥ 0)) ( ( LC 115 [(int ((t.ins.2 k).1))] [] (int (m115 (t.ins.2 k).1)) [] ∧ br (m115 (t.ins.2 k).1 == 0) ( QD (bool false)) ( br (decide ((t.ins.2 k).10 < 0)) ( ( LC 115 [(int ((t.ins.2 k).1))] [] (int (m115 (t.ins.2 k).1)) [] ∧ br (m115 (t.ins.2 k).1 == 2) ( QD (bool false)) ( L (todoG 73 22) ⟨[(1, ((.c (.rt 0 0 0)), [])), (3, ((int ((↑(parL t.2) : Int))), [])), (4, ((.c (.sa 1 t.3.1)), [])), (5, ((int (↑k : Int)), [])), (6, ((.c (.rt 2 0 0)), [])), (178, ((bool false), []))], [(.box (lift (lTrace (t)))), (.arr 4 1 t.3.1 (fun i => eBool (w i))), (.box (lift (lIns (t.ins.2 k))))], []⟩))) ( L (todoG 73 22) ⟨[(1, ((.c (.rt 0 0 0)), [])), (3, ((int ((↑(parL t.2) : Int))), [])), (4, ((.c (.sa 1 t.3.1)), [])), (5, ((int (↑k : Int)), [])), (6, ((.c (.rt 2 0 0)), [])), (178, ((bool false), []))], [(.box (lift (lTrace (t)))), (.arr 4 1 t.3.1 (fun i => eBool (w i))), (.box (lift (lIns (t.ins.2 k))))], []⟩)))) ( br (decide ((t.ins.2 k).10 < 0)) ( ( LC 115 [(int ((t.ins.2 k).1))] [] (int (m115 (t.ins.2 k).1)) [] ∧ br (m115 (t.ins.2 k).1 == 2) ( QD (bool false)) ( L (todoG 73 22) ⟨[(1, ((.c (.rt 0 0 0)), [])), (3, ((int ((↑(parL t.2) : Int))), [])), (4, ((.c (.sa 1 t.3.1)), [])), (5, ((int (↑k : Int)), [])), (6, ((.c (.rt 2 0 0)), [])), (178, ((bool false), []))], [(.box (lift (lTrace (t)))), (.arr 4 1 t.3.1 (fun i => eBool (w i))), (.box (lift (lIns (t.ins.2 k))))], []⟩))) ( L (todoG 73 22) ⟨[(1, ((.c (.rt 0 0 0)), [])), (3, ((int ((↑(parL t.2) : Int))), [])), (4, ((.c (.sa 1 t.3.1)), [])), (5, ((int (↑k : Int)), [])), (6, ((.c (.rt 2 0 0)), [])), (178, ((bool false), []))], [(.box (lift (lTrace (t)))), (.arr 4 1 t.3.1 (fun i => eBool (w i))), (.box (lift (lIns (t.ins.2 k))))], []⟩)))))) : vcR XG73 73 sp73 L (endP QD) 20 (st73_20 t w k) := Eq.mp (by kernel_rfl) h
noncomputable def st73_22 (t : TraceL) (w : Nat → Bool) (k : Nat) : VS := ⟨[(1, (.c (.rt 0 0 0)), []), (3, (.c (.im (.v (.int .i64 ((↑(parL t.2) : Int)))))), []), (4, (.c (.sa 1 t.3.1)), []), (5, (.c (.im (.v (.int .i64 (↑k : Int))))), []), (6, (.c (.rt 2 0 0)), [])], [(.box (lift (lTrace (t)))), (.arr 4 1 t.3.1 (fun i => eBool (w i))), (.box (lift (lIns (t.ins.2 k))))], []⟩
theorem vc73_22 (L : LP) (QD : D → Prop) (t : TraceL) (w : Nat → Bool) (k : Nat) (h : br (decide ((t.ins.2 k).10 ≥ 0)) ( nd (inB (t.ins.2 k).10 t.3.1) ( nd ((t.ins.2 k).10.toNat.blt t.3.1) ( br (w (t.ins.2 k).10.toNat) ( QD (bool false)) ( nd (inB (t.ins.2 k).10 t.3.1) ( ( LC 116 [(.a (lift (lTrace (t)))), (.a (lift (lExit (t.exits.2 (t.ins.2 k).10.toNat)))), (int (↑k : Int))] [] (bool (exitR t (t.exits.2 (t.ins.2 k).10.toNat) (Int.ofNat k))) [] ∧ br (!exitR t (t.exits.2 (t.ins.2 k).10.toNat) (Int.ofNat k)) ( QD (bool false)) ( nd (inB (t.ins.2 k).10 t.3.1) ( nd ((t.ins.2 k).10.toNat.blt t.3.1) ( L (todoG 73 6) ⟨[(1, ((.c (.rt 0 0 0)), [])), (3, ((int ((↑(parL t.2) : Int))), [])), (4, ((.c (.sa 1 t.3.1)), [])), (5, ((int (IntKind.i64.wrap ((↑k : Int) + 1))), []))], [(.box (lift (lTrace (t)))), (.arr 4 1 t.3.1 (updA (fun i => eBool (w i)) (t.ins.2 k).10.toNat 0 [I.v (Value.bool true)])), (.box (lift (lIns (t.ins.2 k)))), .dead], []⟩))))))))) ( L (todoG 73 6) ⟨[(1, ((.c (.rt 0 0 0)), [])), (3, ((int ((↑(parL t.2) : Int))), [])), (4, ((.c (.sa 1 t.3.1)), [])), (5, ((int (IntKind.i64.wrap ((↑k : Int) + 1))), []))], [(.box (lift (lTrace (t)))), (.arr 4 1 t.3.1 (fun i => eBool (w i))), (.box (lift (lIns (t.ins.2 k))))], []⟩)) : vcR XG73 73 sp73 L (endP QD) 22 (st73_22 t w k) := Eq.mp (by kernel_rfl) h
def endsI (x : InsL) : Bool := x.op == 20 || x.op == 21
noncomputable def a6 (t : TraceL) (k : Nat) : Bool := !(endsI (t.ins.get k) != ((k : Int) == (t.ins.n : Int) - 1)) && (!((t.ins.get k).op == 1 && decide ((k : Int) ≥ (parL t.ins : Int))) && fieldsR (t.ins.get k))
noncomputable def a12 (t : TraceL) (k : Nat) : Bool := !((t.ins.get k).op == 1 && (decide ((k : Int) > 0) && decide ((t.ins.get k).k.n ≤ (t.ins.get (k - 1)).k.n))) && !((t.ins.get k).op == 20 && (((t.ins.get k).args.n : Int) != (parL t.ins : Int)))
noncomputable def u16 (t : TraceL) (k : Nat) (v : Int) : Bool := valL t v k && !((t.ins.get v.toNat).op == 17)
noncomputable def a16 (t : TraceL) (k : Nat) : Bool := allF (fun j => u16 t k ((usedL (t.ins.get k)).get j)) (usedL (t.ins.get k)).n
noncomputable def a20 (t : TraceL) (k : Nat) : Bool := !((t.ins.get k).once && !m80 (t.ins.get k).op) && (!decide ((t.ins.get k).exit < -1) && (!decide ((t.ins.get k).exit ≥ (t.exits.n : Int)) && (!(decide ((t.ins.get k).exit ≥ 0) && m115 (t.ins.get k).op == 0) && !(decide ((t.ins.get k).exit < 0) && m115 (t.ins.get k).op == 2))))
def takenR (t : TraceL) (k : Nat) (i : Nat) : Bool := !allF (fun j => !((t.ins.get j).exit == (i : Int))) k
noncomputable def a22 (t : TraceL) (k : Nat) : Bool := !decide ((t.ins.get k).exit ≥ 0) || (!takenR t k (t.ins.get k).exit.toNat && exitR t (t.exits.get (t.ins.get k).exit.toNat) k)
noncomputable def insR (t : TraceL) (k : Nat) : Bool := a6 t k && (a12 t k && (a16 t k && (a20 t k && a22 t k)))
noncomputable def bodyR (t : TraceL) : Bool := !(decide (t.place.fn < 0) || (decide (t.place.line < 0) || ((t.ins.n : Int) == 0))) && allF (insR t) t.ins.n
theorem scanA_congr {p q : Nat → Bool} : ∀ {m k : Nat}, (∀ i, k ≤ i → i < k + m → p i = q i) → scanA p m k = scanA q m k
  | 0, k, _ => rfl
  | m + 1, k, h => by
    unfold scanA
    rw [h k (Nat.le_refl _) (by omega), scanA_congr fun i h1 h2 => h i (by omega) (by omega)]
theorem scanA_end {p : Nat → Bool} : ∀ {m k : Nat}, scanA p (m + 1) k = (scanA p m k && p (k + m))
  | 0, k => by simp [scanA]
  | m + 1, k => by
    rw [show scanA p (m + 1 + 1) k = (bif p k then scanA p (m + 1) (k + 1) else false) from rfl, scanA_end (m := m) (k := k + 1), show scanA p (m + 1) k = (bif p k then scanA p m (k + 1) else false) from rfl, show k + 1 + m = k + (m + 1) by omega]
    cases p k <;> simp
theorem takenR_next (t : TraceL) (k i : Nat) : takenR t (k + 1) i = (takenR t k i || ((t.ins.get k).exit == (i : Int))) := by
  unfold takenR allF
  rw [scanA_end, Nat.zero_add]
  cases scanA (fun j => !((t.ins.get j).exit == (i : Int))) k 0 <;> simp
theorem taken_upd (t : TraceL) (k n : Nat) (h0 : 0 ≤ (t.ins.get k).exit) : RtLe (.arr 4 1 n (updA (fun i => eBool (takenR t k i)) (t.ins.get k).exit.toNat 0 [I.v (Value.bool true)])) (.arr 4 1 n fun i => eBool (takenR t (k + 1) i)) := by
  refine RtLe.arr fun i hi j hj => ?_
  have hj : j = 0 := by omega
  subst hj
  show ILe (Bool.rec (iB (takenR t k i)) (getL [I.v (Value.bool true)] 0) (Nat.beq i (t.ins.get k).exit.toNat && true) : I) (iB (takenR t (k + 1) i))
  rw [takenR_next, Bool.and_true]
  obtain ⟨m, hm⟩ := Int.eq_ofNat_of_zero_le h0
  rw [hm, Int.toNat_natCast, int_eq]
  cases hb : Nat.beq i m with
  | true =>
    have := Nat.eq_of_beq_eq_true hb
    subst this
    simp only [beq_self_eq_true, Bool.or_true]
    exact ILe.refl _
  | false =>
    have : (m == i) = false := by
      have := Nat.ne_of_beq_eq_false hb
      simp only [beq_eq_false_iff_ne]
      omega
    rw [this, Bool.or_false]
    exact ILe.refl _
theorem taken_same (t : TraceL) (k n : Nat) (h0 : (t.ins.get k).exit < 0) : RtLe (.arr 4 1 n (fun i => eBool (takenR t k i))) (.arr 4 1 n fun i => eBool (takenR t (k + 1) i)) := by
  refine RtLe.arr fun i hi j hj => ?_
  show ILe (iB (takenR t k i)) (iB (takenR t (k + 1) i))
  rw [takenR_next, show ((t.ins.get k).exit == (i : Int)) = false from by simp only [beq_eq_false_iff_ne]; omega, Bool.or_false]
  exact ILe.refl _
theorem wrap_pred {n : Nat} (h : 0 < n) (hn : n ≤ 1000) : IntKind.i64.wrap ((n : Int) - 1) = (n : Int) - 1 := wrap_int (by omega) (by omega)
def R73 (t : TraceL) (a : Bool) (k : Nat) : Prop := GoalF 73 0 (EndsP (bool a)) (todoG 73 6) (st73_6 t (takenR t (k + 1)) (k + 1))
theorem lp73_22 (t : TraceL) (k : Nat) (a : Bool) (hS : SmallT t) (hk : k < t.ins.n) (hE : (t.ins.get k).exit < t.exits.n) (no : a22 t k = false → a = false) (go : a22 t k = true → R73 t a k) : GoalF 73 0 (EndsP (bool a)) (todoG 73 22) (st73_22 t (takenR t k) k) := by
  have no : a22 t k = false → DLe (bool false) (bool a) := fun q => by rw [no q]; exact DLe.refl _
  refine reachP (X := XG73) (stop := sp73) (vc73_22 _ _ t (takenR t k) k ?_)
  rw [wrap1 hk (Nat.le_trans hS.ins (by decide))]
  refine br_mk (fun h => ?_) (fun h => ?_)
  · have h0 : 0 ≤ (t.ins.get k).exit := of_decide_eq_true h
    have h : decide ((t.ins.get k).exit ≥ 0) = true := h
    have hb := inB_int h0 hE
    have hb2 : Nat.blt (t.ins.get k).exit.toNat t.exits.n = true := blt_ok (by omega)
    refine nd_mk hb (nd_mk hb2 (br_mk (fun h1 => no (by simp only [a22, h, show takenR t k (t.ins.get k).exit.toNat = true from h1, boolL])) (fun h1 => nd_mk hb ⟨con116 _ _ _ (by omega) (hS.ex _ (by omega)), ?_⟩)))
    have h1 : takenR t k (t.ins.get k).exit.toNat = false := h1
    refine br_mk (fun h2 => no (by simp only [a22, h, h1, show exitR t (t.exits.get (t.ins.get k).exit.toNat) k = false from by simpa using h2, boolL])) (fun h2 => nd_mk hb (nd_mk hb2 ?_))
    have h2 : exitR t (t.exits.get (t.ins.get k).exit.toNat) k = true := by simpa using h2
    exact GoalF.rename [0, 1] rfl (GoalF.le (st73_6 t (takenR t (k + 1)) (k + 1)) (by repeat' (first | exact trivial | refine wk1 rfl ?_)) (rc (.cons (taken_upd t k _ h0) .nil)) rfl (go (by simp only [a22, h, h1, h2, boolL])))
  · have h0 : (t.ins.get k).exit < 0 := by have := of_decide_eq_false h; omega
    exact GoalF.rename [0, 1] rfl (GoalF.le (st73_6 t (takenR t (k + 1)) (k + 1)) (by repeat' (first | exact trivial | refine wk1 rfl ?_)) (rc (.cons (taken_same t k _ h0) .nil)) rfl (go (by simp only [a22, show decide ((t.ins.get k).exit ≥ 0) = false from h, boolL])))
theorem lp73_20 (t : TraceL) (k : Nat) (a : Bool) (hS : SmallT t) (hk : k < t.ins.n) (no : (a20 t k && a22 t k) = false → a = false) (go : (a20 t k && a22 t k) = true → R73 t a k) : GoalF 73 0 (EndsP (bool a)) (todoG 73 20) (st73_20 t (takenR t k) k) := by
  have no1 : a20 t k = false → DLe (bool false) (bool a) := fun q => by rw [no (by rw [q]; rfl)]; exact DLe.refl _
  have go1 : a20 t k = true → GoalF 73 0 (EndsP (bool a)) (todoG 73 22) (st73_22 t (takenR t k) k) := fun q => by
    rw [q, Bool.true_and] at no go
    have hE : (t.ins.get k).exit < t.exits.n := by
      simp only [a20, Bool.and_eq_true, Bool.not_eq_true', decide_eq_false_iff_not] at q
      omega
    exact lp73_22 t k a hS hk hE no go
  refine reachP (X := XG73) (stop := sp73) (vc73_20 _ _ t (takenR t k) k ?_)
  repeat' (first | refine br_mk (fun h => ?_) (fun h => ?_) | refine ⟨con80 _, ?_⟩ | refine ⟨con115 _, ?_⟩ | done)
  all_goals (try simp only [Bool.not_eq_true', Bool.not_eq_false'] at *)
  all_goals first
    | exact no1 (by simp only [a20, *, boolL])
    | exact GoalF.le (st73_22 t (takenR t k) k) (by repeat' (first | exact trivial | refine wk1 rfl ?_)) (rc (rc (rc .nil))) rfl (go1 (by simp only [a20, *, boolL]))
    | (exfalso; simp only [decide_eq_true_eq, decide_eq_false_iff_not] at *; omega)
theorem lp73_16 (t : TraceL) (k : Nat) (a : Bool) (hS : SmallT t) (hk : k < t.ins.n) : ∀ j, j ≤ (usedL (t.ins.get k)).n → ((scanA (fun j => u16 t k ((usedL (t.ins.get k)).get j)) ((usedL (t.ins.get k)).n - j) j && (a20 t k && a22 t k)) = false → a = false) → ((scanA (fun j => u16 t k ((usedL (t.ins.get k)).get j)) ((usedL (t.ins.get k)).n - j) j && (a20 t k && a22 t k)) = true → R73 t a k) → GoalF 73 0 (EndsP (bool a)) (todoG 73 16) (st73_16 t (takenR t k) k j) := by
  have hN : (usedL (t.ins.get k)).n ≤ 1000 := usedL_n _ (hS.args k hk)
  refine count_rule (fun j hj ih no go => ?_) (fun no go => ?_)
  · have q : (usedL (t.ins.get k)).n - j = ((usedL (t.ins.get k)).n - (j + 1)) + 1 := by omega
    rw [q] at no go
    have no1 : u16 t k ((usedL (t.ins.get k)).get j) = false → DLe (bool false) (bool a) := fun q => by rw [no (by rw [scanA_false (p := fun j => u16 t k ((usedL (t.ins.get k)).get j)) q]; rfl)]; exact DLe.refl _
    have go1 : u16 t k ((usedL (t.ins.get k)).get j) = true → GoalF 73 0 (EndsP (bool a)) (todoG 73 16) (st73_16 t (takenR t k) k (j + 1)) := fun q => by rw [scanA_true (p := fun j => u16 t k ((usedL (t.ins.get k)).get j)) q] at no go; exact ih no go
    refine reachP (X := XG73) (stop := sp73) (vc73_16 _ _ t (takenR t k) k j ?_)
    rw [wrap1 hj (Nat.le_trans hN (by decide))]
    refine br_mk (fun h => ?_) (fun h => (dec_lt h hj).elim)
    refine nd_mk (inB_nat hj) ⟨con114 _ _ _ (by show (k : Int) ≤ _; omega), ?_⟩
    refine br_mk (fun h1 => no1 (by simp only [u16, show valL t ((usedL (t.ins.get k)).get j) k = false from by simpa using h1, boolL])) (fun h1 => ?_)
    have h1 : valL t ((usedL (t.ins.get k)).get j) k = true := by simpa using h1
    refine nd_mk (inB_nat hj) (nd_mk (valL_in h1 (by omega)) (br_mk (fun h2 => no1 (by simp only [u16, h1, show ((t.ins.get ((usedL (t.ins.get k)).get j).toNat).op == 17) = true from h2, boolL])) (fun h2 => ?_)))
    exact GoalF.rename [0, 1, 2] rfl (go1 (by simp only [u16, h1, show ((t.ins.get ((usedL (t.ins.get k)).get j).toNat).op == 17) = false from h2, boolL]))
  · rw [Nat.sub_self] at no go
    refine reachP (X := XG73) (stop := sp73) (vc73_16 _ _ t (takenR t k) k _ ?_)
    refine br_mk (fun h => lt_self h) (fun h => ?_)
    exact GoalF.le (st73_20 t (takenR t k) k) (by repeat' (first | exact trivial | refine wk1 rfl ?_)) (rc (rc (rc .nil))) rfl (lp73_20 t k a hS hk (by simpa [scanA] using no) (by simpa [scanA] using go))
theorem lp73_12 (t : TraceL) (k : Nat) (a : Bool) (hS : SmallT t) (hk : k < t.ins.n) (no : (a12 t k && (a16 t k && (a20 t k && a22 t k))) = false → a = false) (go : (a12 t k && (a16 t k && (a20 t k && a22 t k))) = true → R73 t a k) : GoalF 73 0 (EndsP (bool a)) (todoG 73 12) (st73_12 t (takenR t k) k) := by
  have no1 : a12 t k = false → DLe (bool false) (bool a) := fun q => by rw [no (by rw [q]; rfl)]; exact DLe.refl _
  have go1 : a12 t k = true → GoalF 73 0 (EndsP (bool a)) (todoG 73 16) (st73_16 t (takenR t k) k 0) := fun q => by
    rw [q, Bool.true_and] at no go
    exact lp73_16 t k a hS hk 0 (Nat.zero_le _) no go
  refine reachP (X := XG73) (stop := sp73) (vc73_12 _ _ t (takenR t k) k ?_)
  have w1 : decide ((k : Int) > 0) = true → IntKind.i64.wrap ((k : Int) - 1) = ((k - 1 : Nat) : Int) := fun h => by
    have h := of_decide_eq_true h
    rw [wrap_int (by omega) (by have := hS.ins; omega)]
    omega
  refine br_mk (fun h => ?_) (fun h => ?_)
  · have h : ((t.ins.get k).op == 1) = true := h
    refine br_mk (fun h1 => ?_) (fun h1 => ?_)
    · rw [w1 h1]
      have h1' : decide ((k : Int) > 0) = true := h1
      have h1'' := of_decide_eq_true h1
      clear h1
      refine nd_mk (inB_nat (by omega)) (br_mk (fun h2 => no1 ?_) (fun h2 => ?_))
      · have h2 : decide ((t.ins.get k).k.n ≤ (t.ins.get (k - 1)).k.n) = true := h2
        simp only [a12, h, h1', h2, boolL]
      · have h2 : decide ((t.ins.get k).k.n ≤ (t.ins.get (k - 1)).k.n) = false := h2
        clear h1''
        repeat' (first | refine br_mk (fun h => ?_) (fun h => ?_) | refine ⟨con74 _, ?_⟩ | done)
        all_goals first
          | exact no1 (by simp only [a12, *, boolL])
          | exact GoalF.le (st73_16 t (takenR t k) k 0) (by repeat' (first | exact trivial | refine wk1 rfl ?_)) (rc (rc (rc .nil))) rfl (go1 (by simp only [a12, *, boolL]))
    · have h1 : decide ((k : Int) > 0) = false := h1
      repeat' (first | refine br_mk (fun h => ?_) (fun h => ?_) | refine ⟨con74 _, ?_⟩ | done)
      all_goals first
        | exact no1 (by simp only [a12, *, boolL])
        | exact GoalF.le (st73_16 t (takenR t k) k 0) (by repeat' (first | exact trivial | refine wk1 rfl ?_)) (rc (rc (rc .nil))) rfl (go1 (by simp only [a12, *, boolL]))
  · have h : ((t.ins.get k).op == 1) = false := h
    repeat' (first | refine br_mk (fun h => ?_) (fun h => ?_) | refine ⟨con74 _, ?_⟩ | done)
    all_goals first
      | exact no1 (by simp only [a12, *, boolL])
      | exact GoalF.le (st73_16 t (takenR t k) k 0) (by repeat' (first | exact trivial | refine wk1 rfl ?_)) (rc (rc (rc .nil))) rfl (go1 (by simp only [a12, *, boolL]))
theorem lp73_6 (t : TraceL) (a : Bool) (hS : SmallT t) (hn : 0 < t.ins.n) : ∀ k, k ≤ t.ins.n → scanA (insR t) (t.ins.n - k) k = a → GoalF 73 0 (EndsP (bool a)) (todoG 73 6) (st73_6 t (takenR t k) k) := by
  have hN := hS.ins
  refine count_rule (fun k hk ih ha => ?_) (fun ha => ?_)
  · have q : t.ins.n - k = (t.ins.n - (k + 1)) + 1 := by omega
    rw [q] at ha
    have no : insR t k = false → a = false := fun q => by rw [scanA_false q] at ha; exact ha.symm
    have go : insR t k = true → R73 t a k := fun q => by rw [scanA_true q] at ha; exact ih ha
    have no1 : a6 t k = false → DLe (bool false) (bool a) := fun q => by rw [no (by unfold insR; rw [q]; rfl)]; exact DLe.refl _
    have go1 : a6 t k = true → GoalF 73 0 (EndsP (bool a)) (todoG 73 12) (st73_12 t (takenR t k) k) := fun q => by
      unfold insR at no go
      rw [q, Bool.true_and] at no go
      exact lp73_12 t k a hS hk no go
    clear no go
    refine reachP (X := XG73) (stop := sp73) (vc73_6 _ _ t (takenR t k) k ?_)
    rw [wrap_pred hn hN]
    refine br_mk (fun h => ?_) (fun h => (dec_lt h hk).elim)
    refine nd_mk (inB_nat hk) ?_
    have hs : (t.ins.get k).k.s.size ≤ maxLen := Nat.le_trans (hS.str k hk) (by decide)
    refine br_mk (fun h => ?_) (fun h => ?_)
    · have h0 : endsI (t.ins.get k) = true := by simp only [endsI, show ((t.ins.get k).op == 20) = true from h, boolL]
      clear h
      refine br_mk (fun h1 => ?_) (fun h1 => ?_)
      · have h1 : (true != ((k : Int) == (t.ins.n : Int) - 1)) = true := h1
        exact no1 (by simp only [a6, h0, h1, boolL])
      have h1 : (true != ((k : Int) == (t.ins.n : Int) - 1)) = false := h1
      repeat' (first | refine br_mk (fun h => ?_) (fun h => ?_) | refine ⟨con113 _ hs, ?_⟩ | done)
      all_goals (try simp only [Bool.not_eq_true', Bool.not_eq_false'] at *)
      all_goals first
        | exact no1 (by simp only [a6, *, boolL])
        | exact GoalF.le (st73_12 t (takenR t k) k) (by repeat' (first | exact trivial | refine wk1 rfl ?_)) (rc (rc (rc .nil))) rfl (go1 (by simp only [a6, *, boolL]))
    · have h0 : endsI (t.ins.get k) = ((t.ins.get k).op == 21) := by simp only [endsI, show ((t.ins.get k).op == 20) = false from h, boolL]
      clear h
      refine br_mk (fun h1 => ?_) (fun h1 => ?_)
      · have h1 : (((t.ins.get k).op == 21) != ((k : Int) == (t.ins.n : Int) - 1)) = true := h1
        exact no1 (by simp only [a6, h0, h1, boolL])
      have h1 : (((t.ins.get k).op == 21) != ((k : Int) == (t.ins.n : Int) - 1)) = false := h1
      repeat' (first | refine br_mk (fun h => ?_) (fun h => ?_) | refine ⟨con113 _ hs, ?_⟩ | done)
      all_goals (try simp only [Bool.not_eq_true', Bool.not_eq_false'] at *)
      all_goals first
        | exact no1 (by simp only [a6, *, boolL])
        | exact GoalF.le (st73_12 t (takenR t k) k) (by repeat' (first | exact trivial | refine wk1 rfl ?_)) (rc (rc (rc .nil))) rfl (go1 (by simp only [a6, *, boolL]))
  · rw [Nat.sub_self] at ha
    refine reachP (X := XG73) (stop := sp73) (vc73_6 _ _ t _ _ ?_)
    refine br_mk (fun h => lt_self h) (fun h => ?_)
    subst ha; exact DLe.refl _
theorem con73 (t : TraceL) (hS : SmallT t) : LC 73 [dTrace t] [] (bool (bodyR t)) [] := by
  refine pure_vc (X := XG73) (stop := sp73) fn73 (nlb (by kernel_rfl)) (vc73 _ _ t ⟨con112 _, ?_⟩)
  have hE := hS.exits
  refine br_mk (fun h1 => ?_) (fun h1 => br_mk (fun h2 => ?_) (fun h2 => br_mk (fun h3 => ?_) (fun h3 => nd_mk ?_ (nd_mk (Nat.beq_refl _) ?_))))
  · rw [show bodyR t = false from by simp only [bodyR, show decide (t.place.fn < 0) = true from h1, boolL]]; exact DLe.refl _
  · rw [show bodyR t = false from by simp only [bodyR, show decide (t.place.line < 0) = true from h2, boolL]]; exact DLe.refl _
  · rw [show bodyR t = false from by simp only [bodyR, show ((t.ins.n : Int) == 0) = true from h3, boolL]]; exact DLe.refl _
  · simp only [Bool.and_eq_true, Nat.ble_eq]
    exact ⟨Nat.le_trans hE (by decide), Nat.le_trans (Nat.mul_le_mul hE (Nat.le_refl 1)) (by decide)⟩
  · have hn : 0 < t.ins.n := by
      have h3 : ((t.ins.n : Int) == 0) = false := h3
      simp only [beq_eq_false_iff_ne] at h3
      omega
    refine GoalF.le (st73_6 t (takenR t 0) 0) (by repeat' (first | exact trivial | refine wk1 rfl ?_)) (rc (.cons (RtLe.arr fun i hi j hj => by
      have : j = 0 := by omega
      subst this
      exact ILe.refl _) .nil)) rfl ?_
    exact lp73_6 t _ hS hn 0 (Nat.zero_le _) (by simp only [bodyR, allF, Nat.sub_zero, show decide (t.place.fn < 0) = false from h1, show decide (t.place.line < 0) = false from h2, show ((t.ins.n : Int) == 0) = false from h3, boolL])
open Go Go.V
noncomputable def F8L : AnsL := [
  (73, fun ds rs => (bool (bodyR (aTrace ds 0)), [], [])),
  (92, fun ds rs => (bool (valL (aTrace ds 0) (aI ds 1) (aI ds 2)), [], [])),
  (56, fun ds rs => (.c (.clo 96 [rs.length]), [], [.box (lift (lExit (aExit ds 0)))]))]
noncomputable def F8 := ext F7 F8L
noncomputable def lChk (t : TraceL) (q : Nat) : List C := [.im (iI t.place.fn), .im (iI t.place.line), .im (sqI 14 eIns t.ins), .im (sqI 3 eExit t.exits), .mp q]
noncomputable def dChk (t : TraceL) (q : Nat) : D := .a (lChk t q)
theorem hasP (op : Int) : memL op [1, 2, 3, 4, 10, 12, 14, 16, 17] = m68 op := by
  simp [memL, m68]
noncomputable def X8 : Spc := { F := F8 }
noncomputable def XG40 : Spc := { F := F8 }
def sp40 : Nat → Bool := noStop
theorem fn40 : Fn 40 := ⟨by kernel_rfl, by kernel_rfl⟩
theorem vc40 (L : LP) (QD : D → Prop) (t : TraceL) (h : br (decide ((↑t.2.1 : Int) > 200)) ( QD (int 2)) ( br (decide ((↑t.3.1 : Int) > 60)) ( QD (int 2)) ( ( LC 73 [(.a (lift (lTrace (t))))] [] (bool (bodyR t)) [] ∧ br (!bodyR t) ( QD (int 31)) ( QD (int 0)))))) : vcF XG40 40 sp40 L (endP QD) [dTrace t] [] := Eq.mp (by kernel_rfl) h
noncomputable def rightR (t : TraceL) : Int := bif decide ((t.ins.n : Int) > 200) then 2 else bif decide ((t.exits.n : Int) > 60) then 2 else bif bodyR t then 0 else 31
theorem con40 (t : TraceL) (hS : SmallT t) : LC 40 [dTrace t] [] (int (rightR t)) [] := by
  refine pure_vc (X := XG40) (stop := sp40) fn40 (nlb (by kernel_rfl)) (vc40 _ _ t ?_)
  refine br_mk (fun h1 => ?_) (fun h1 => br_mk (fun h2 => ?_) (fun h2 => ⟨con73 _ hS, br_mk (fun h3 => ?_) (fun h3 => ?_)⟩))
  · rw [show rightR t = 2 from by simp only [rightR, show decide ((t.ins.n : Int) > 200) = true from h1, boolL]]; exact DLe.refl _
  · rw [show rightR t = 2 from by simp only [rightR, show decide ((t.ins.n : Int) > 200) = false from h1, show decide ((t.exits.n : Int) > 60) = true from h2, boolL]]; exact DLe.refl _
  · rw [show rightR t = 31 from by simp only [rightR, show decide ((t.ins.n : Int) > 200) = false from h1, show decide ((t.exits.n : Int) > 60) = false from h2, show bodyR t = false from by simpa using h3, boolL]]; exact DLe.refl _
  · rw [show rightR t = 0 from by simp only [rightR, show decide ((t.ins.n : Int) > 200) = false from h1, show decide ((t.exits.n : Int) > 60) = false from h2, show bodyR t = true from by simpa using h3, boolL]]; exact DLe.refl _
noncomputable def XG56 : Spc := { F := F8 }
def sp56 : Nat → Bool := noStop
theorem fn56 : Fn 56 := ⟨by kernel_rfl, by kernel_rfl⟩
theorem vc56 (L : LP) (QE : D → List Root → Prop) (e : ExitL) (r0 r1 r2 r3 r4 r5 r6 r7 r8 r9 r10 r11 : Root) (h : QE (.c (.clo 96 [12])) [r0, r1, r2, r3, r4, r5, r6, r7, r8, r9, r10, r11, (.box (lift (lExit (e))))]) : vcF XG56 56 sp56 L QE [dExit e] [r0, r1, r2, r3, r4, r5, r6, r7, r8, r9, r10, r11] := Eq.mp (by kernel_rfl) h
theorem con56 (e : ExitL) (r0 r1 r2 r3 r4 r5 r6 r7 r8 r9 r10 r11 : Root) : LC 56 [dExit e] [r0, r1, r2, r3, r4, r5, r6, r7, r8, r9, r10, r11] (.c (.clo 96 [12])) [r0, r1, r2, r3, r4, r5, r6, r7, r8, r9, r10, r11, .box (lift (lExit e))] :=
  root_con fn56 (nlb (by kernel_rfl)) (reachF (X := XG56) (stop := sp56) (vc56 _ _ e r0 r1 r2 r3 r4 r5 r6 r7 r8 r9 r10 r11 ⟨13, nlb rfl, nlb rfl, rfl, rfl, DLe.refl _, by repeat' (first | exact trivial | refine ⟨.inl (.inl rfl), ?_⟩ | refine ⟨rfl, ?_⟩ | done)⟩))
def sp92 : Nat → Bool := noStop
theorem fn92 : Fn 92 := ⟨by kernel_rfl, by kernel_rfl⟩
theorem vc92_5 (L : LP) (QE : D → List Root → Prop) (t : TraceL) (n before : Int) (r0 r1 r2 r3 r4 : Root) (h : br (decide (n ≥ 0)) ( br (decide (n < before)) ( nd (inB n t.2.1) ( ( LC 124 [(int ((t.ins.2 n.toNat).1))] [] (bool (memL (t.ins.2 n.toNat).1 [1, 2, 3, 4, 10, 12, 14, 16, 17])) [] ∧ QE (bool (memL (t.ins.2 n.toNat).1 [1, 2, 3, 4, 10, 12, 14, 16, 17])) [r0, r1, r2, r3, r4, (.box (lChk (t) 1))]))) ( QE (bool false) [r0, r1, r2, r3, r4, (.box (lChk (t) 1))])) ( QE (bool false) [r0, r1, r2, r3, r4, (.box (lChk (t) 1))])) : vcF X8 92 sp92 L QE [dChk t 1, int n, int before] [r0, r1, r2, r3, r4] := Eq.mp (by kernel_rfl) h
theorem con92_5 (t : TraceL) (n before : Int) (r0 r1 r2 r3 r4 : Root) (hb : before ≤ t.ins.n) : LC 92 [dChk t 1, int n, int before] [r0, r1, r2, r3, r4] (bool (valL t n before)) [r0, r1, r2, r3, r4] := by
  refine root_con fn92 (nlb (by kernel_rfl)) (reachF (X := X8) (stop := sp92) (vc92_5 _ _ t n before r0 r1 r2 r3 r4 ?_))
  refine br_mk (fun h => br_mk (fun h2 => nd_mk (inB_int (of_decide_eq_true h) (by have := of_decide_eq_true h2; omega)) ⟨con124 _, ?_⟩) (fun h2 => ?_)) (fun h => ?_)
  · rw [show valL t n before = memL (t.ins.get n.toNat).op [1, 2, 3, 4, 10, 12, 14, 16, 17] from by simp only [valL, show decide (n ≥ 0) = true from h, show decide (n < before) = true from h2, Bool.true_and, hasP]]; exact ⟨5, nlb rfl, nlb rfl, rfl, rfl, DLe.refl _, endsR_refl _ _⟩
  · rw [show valL t n before = false from by simp only [valL, show decide (n < before) = false from h2, Bool.false_and, Bool.and_false]]; exact ⟨5, nlb rfl, nlb rfl, rfl, rfl, DLe.refl _, endsR_refl _ _⟩
  · rw [show valL t n before = false from by simp only [valL, show decide (n ≥ 0) = false from h, Bool.false_and]]; exact ⟨5, nlb rfl, nlb rfl, rfl, rfl, DLe.refl _, endsR_refl _ _⟩
theorem vc92_13 (L : LP) (QE : D → List Root → Prop) (t : TraceL) (n before : Int) (r0 r1 r2 r3 r4 r5 r6 r7 r8 r9 r10 r11 r12 : Root) (h : br (decide (n ≥ 0)) ( br (decide (n < before)) ( nd (inB n t.2.1) ( ( LC 124 [(int ((t.ins.2 n.toNat).1))] [] (bool (memL (t.ins.2 n.toNat).1 [1, 2, 3, 4, 10, 12, 14, 16, 17])) [] ∧ QE (bool (memL (t.ins.2 n.toNat).1 [1, 2, 3, 4, 10, 12, 14, 16, 17])) [r0, r1, r2, r3, r4, r5, r6, r7, r8, r9, r10, r11, r12, (.box (lChk (t) 1))]))) ( QE (bool false) [r0, r1, r2, r3, r4, r5, r6, r7, r8, r9, r10, r11, r12, (.box (lChk (t) 1))])) ( QE (bool false) [r0, r1, r2, r3, r4, r5, r6, r7, r8, r9, r10, r11, r12, (.box (lChk (t) 1))])) : vcF X8 92 sp92 L QE [dChk t 1, int n, int before] [r0, r1, r2, r3, r4, r5, r6, r7, r8, r9, r10, r11, r12] := Eq.mp (by kernel_rfl) h
theorem con92_13 (t : TraceL) (n before : Int) (r0 r1 r2 r3 r4 r5 r6 r7 r8 r9 r10 r11 r12 : Root) (hb : before ≤ t.ins.n) : LC 92 [dChk t 1, int n, int before] [r0, r1, r2, r3, r4, r5, r6, r7, r8, r9, r10, r11, r12] (bool (valL t n before)) [r0, r1, r2, r3, r4, r5, r6, r7, r8, r9, r10, r11, r12] := by
  refine root_con fn92 (nlb (by kernel_rfl)) (reachF (X := X8) (stop := sp92) (vc92_13 _ _ t n before r0 r1 r2 r3 r4 r5 r6 r7 r8 r9 r10 r11 r12 ?_))
  refine br_mk (fun h => br_mk (fun h2 => nd_mk (inB_int (of_decide_eq_true h) (by have := of_decide_eq_true h2; omega)) ⟨con124 _, ?_⟩) (fun h2 => ?_)) (fun h => ?_)
  · rw [show valL t n before = memL (t.ins.get n.toNat).op [1, 2, 3, 4, 10, 12, 14, 16, 17] from by simp only [valL, show decide (n ≥ 0) = true from h, show decide (n < before) = true from h2, Bool.true_and, hasP]]; exact ⟨13, nlb rfl, nlb rfl, rfl, rfl, DLe.refl _, endsR_refl _ _⟩
  · rw [show valL t n before = false from by simp only [valL, show decide (n < before) = false from h2, Bool.false_and, Bool.and_false]]; exact ⟨13, nlb rfl, nlb rfl, rfl, rfl, DLe.refl _, endsR_refl _ _⟩
  · rw [show valL t n before = false from by simp only [valL, show decide (n ≥ 0) = false from h, Bool.false_and]]; exact ⟨13, nlb rfl, nlb rfl, rfl, rfl, DLe.refl _, endsR_refl _ _⟩
theorem vc92_16 (L : LP) (QE : D → List Root → Prop) (t : TraceL) (n before : Int) (r0 r1 r2 r3 r4 r5 r6 r7 r8 r9 r10 r11 r12 r13 r14 r15 : Root) (h : br (decide (n ≥ 0)) ( br (decide (n < before)) ( nd (inB n t.2.1) ( ( LC 124 [(int ((t.ins.2 n.toNat).1))] [] (bool (memL (t.ins.2 n.toNat).1 [1, 2, 3, 4, 10, 12, 14, 16, 17])) [] ∧ QE (bool (memL (t.ins.2 n.toNat).1 [1, 2, 3, 4, 10, 12, 14, 16, 17])) [r0, r1, r2, r3, r4, r5, r6, r7, r8, r9, r10, r11, r12, r13, r14, r15, (.box (lChk (t) 1))]))) ( QE (bool false) [r0, r1, r2, r3, r4, r5, r6, r7, r8, r9, r10, r11, r12, r13, r14, r15, (.box (lChk (t) 1))])) ( QE (bool false) [r0, r1, r2, r3, r4, r5, r6, r7, r8, r9, r10, r11, r12, r13, r14, r15, (.box (lChk (t) 1))])) : vcF X8 92 sp92 L QE [dChk t 1, int n, int before] [r0, r1, r2, r3, r4, r5, r6, r7, r8, r9, r10, r11, r12, r13, r14, r15] := Eq.mp (by kernel_rfl) h
theorem con92_16 (t : TraceL) (n before : Int) (r0 r1 r2 r3 r4 r5 r6 r7 r8 r9 r10 r11 r12 r13 r14 r15 : Root) (hb : before ≤ t.ins.n) : LC 92 [dChk t 1, int n, int before] [r0, r1, r2, r3, r4, r5, r6, r7, r8, r9, r10, r11, r12, r13, r14, r15] (bool (valL t n before)) [r0, r1, r2, r3, r4, r5, r6, r7, r8, r9, r10, r11, r12, r13, r14, r15] := by
  refine root_con fn92 (nlb (by kernel_rfl)) (reachF (X := X8) (stop := sp92) (vc92_16 _ _ t n before r0 r1 r2 r3 r4 r5 r6 r7 r8 r9 r10 r11 r12 r13 r14 r15 ?_))
  refine br_mk (fun h => br_mk (fun h2 => nd_mk (inB_int (of_decide_eq_true h) (by have := of_decide_eq_true h2; omega)) ⟨con124 _, ?_⟩) (fun h2 => ?_)) (fun h => ?_)
  · rw [show valL t n before = memL (t.ins.get n.toNat).op [1, 2, 3, 4, 10, 12, 14, 16, 17] from by simp only [valL, show decide (n ≥ 0) = true from h, show decide (n < before) = true from h2, Bool.true_and, hasP]]; exact ⟨16, nlb rfl, nlb rfl, rfl, rfl, DLe.refl _, endsR_refl _ _⟩
  · rw [show valL t n before = false from by simp only [valL, show decide (n < before) = false from h2, Bool.false_and, Bool.and_false]]; exact ⟨16, nlb rfl, nlb rfl, rfl, rfl, DLe.refl _, endsR_refl _ _⟩
  · rw [show valL t n before = false from by simp only [valL, show decide (n ≥ 0) = false from h, Bool.false_and]]; exact ⟨16, nlb rfl, nlb rfl, rfl, rfl, DLe.refl _, endsR_refl _ _⟩
open Go Go.V
def rfC : Code → Option (List Tmp × Code × Code)
  | .rangeFunc _ ps a b => some (ps.toList, a, b)
  | .seq a b => match rfC a with
    | some x => some x
    | none => rfC b
  | .cond _ a b => match rfC a with
    | some x => some x
    | none => rfC b
  | .block _ a => rfC a
  | .loop a => rfC a
  | _ => none
noncomputable def asG (f : FuncId) : Code := match rfC (bodyG f) with
  | some x => x.2.1
  | none => .skip
noncomputable def bdG (f : FuncId) : Code := match rfC (bodyG f) with
  | some x => x.2.2
  | none => .skip
noncomputable def vcY (X : Spc) (f : FuncId) (r : Nat) (Q : D → List Root → Prop) (sl : Slots) (rs : List Root) : Prop :=
  runW tab Tryz.prog X hints (fnG f).ntmps f (some r) noStop (fun _ _ => False) (leafY r Q) 10000 false [.code (asG f), .beginRound, .code (bdG f)] ⟨sl, rs, []⟩
theorem y_con {X : Spc} {f : FuncId} {r : Nat} {sl0 sl1 : Slots} {ps : List Tmp} {ds : List D} {rs : List Root} {d : D} {rs' : List Root} (hr : rs[r]? = some (.loop f (fnG f).ntmps sl0 ps (asG f) (bdG f) .ready none)) (hsl1 : setP (fnG f).ntmps ps ds sl0 = some sl1) (h : vcY X f r (Go.V.Ends rs d rs') sl1 rs) : YCon tab Tryz.prog r ds rs d rs' :=
  round_con ty_ok hr hsl1 fun b cs hb => runW_ok (L := fun _ _ => False) ty_ok mixed hb (fun _ _ q => q.elim) (fun _ _ q => q) 10000 h
def loopL (b : Bool) (x : Option Root) : Root := match x with
  | some (.loop f N sl ps c d _ _) => .loop f N sl ps c d (bif b then .ready else .done) (bif b then none else some .ret)
  | _ => .dead
noncomputable def lowSl (n : Nat) (sl : Slots) : Bool := List.rec true (fun x _ ih => Bool.rec false ih (lowD n x.2.1)) sl
theorem lowSl_mem {n : Nat} : ∀ {sl : Slots}, lowSl n sl = true → ∀ x ∈ sl, lowD n x.2.1 = true
  | [], _, x, hx => by cases hx
  | y :: l, h, x, hx => by
    obtain ⟨h1, h2⟩ := Bool.rec_true (show (Bool.rec false (lowSl n l) (lowD n y.2.1) : Bool) = true from h)
    rcases List.mem_cons.1 hx with rfl | hx
    · exact h1
    · exact lowSl_mem h2 x hx
def LowRs (n : Nat) : List Root → Prop
  | [] => True
  | x :: l => LowRoot n x ∧ LowRs n l
theorem LowRs.mem {n : Nat} : ∀ {l : List Root}, LowRs n l → ∀ x ∈ l, LowRoot n x
  | [], _, x, hx => by cases hx
  | y :: l, h, x, hx => by
    rcases List.mem_cons.1 hx with rfl | hx
    · exact h.1
    · exact LowRs.mem h.2 x hx
theorem LowRs.mono {n m : Nat} (hnm : n ≤ m) : ∀ {l : List Root}, LowRs n l → LowRs m l
  | [], _ => trivial
  | _ :: _, h => ⟨h.1.mono hnm, LowRs.mono hnm h.2⟩
theorem loop_low {n : Nat} {f N : Nat} {sl : Slots} {ps : List Tmp} {a b : Code} {st : LoopState} {pd : Option Code} (h : lowSl n sl = true) : LowRoot n (.loop f N sl ps a b st pd) :=
  .inr ⟨f, N, sl, ps, a, b, st, pd, rfl, fun t d c q => lowSl_mem h _ (look_memX q)⟩
theorem GoalF.cut {f : FuncId} {n0 : Nat} {Q : D → List Root → Prop} {todo : List Item} {s : VS} (n : Nat) (h0 : n0 ≤ n) (hn : n ≤ s.rs.length) (hsl : lowSl n s.sl = true) (hdf : s.df = []) (hrs : LowRs n (s.rs.take n)) (g : GoalF f n0 Q todo ⟨s.sl, s.rs.take n, s.df⟩) : GoalF f n0 Q todo s :=
  fun b cs hb => Goal.ghost (g b cs hb) fun av0 w0 sp a w E hlow hn0 hR hnil => by
    refine ⟨E.take n, by rw [List.take_take, Nat.min_eq_left h0], ?_, hnil⟩
    exact hR.cut hn (fun x hx => lowD_mono h0 (hlow x hx)) (fun t d q => lowSl_mem hsl _ (look_memX q)) (fun t d c q => hnil _ (look_memX q)) (by rw [hdf]; intro r hr; cases hr) (fun q x e => hrs.mem x (List.mem_of_getElem? e))
open Go Go.V
noncomputable def X96 (p : Int → Bool) : Spc := { F := F8, S := [14], FY := fun r ds rs => (bool (p (aI ds 0)), [(r, loopL (p (aI ds 0)) (nthF rs r))], []) }
def allM (p : Int → Bool) (e : ExitL) : Bool := allF (fun j => allF (fun i => p ((e.frames.get j).vars.get i)) (e.frames.get j).vars.n) e.frames.n && allF (fun j => allF (fun i => p ((e.objs.get j).items.get i)) (e.objs.get j).items.n) e.objs.n
def sp96 : Nat → Bool := fun i => Nat.beq i 1 || Nat.beq i 4 || Nat.beq i 10 || Nat.beq i 13
theorem fn96 : Fn 96 := ⟨by kernel_rfl, by kernel_rfl⟩
theorem vc96 (L : LP) (QE : D → List Root → Prop) (p : Int → Bool) (e : ExitL) (r0 r1 r2 r3 r4 r5 r6 r7 r8 r9 r10 r11 r13 : Root) (f N : Nat) (sl : Slots) (ps : List Tmp) (ca cb : Code) (h : L (todoG 96 1) ⟨[(0, ((.c (.yl 14)), [])), (1, ((.c (.rt 12 0 0)), [])), (12, ((.c (.im (.sl 3 e.1.1 (fun i => eFrame (e.frames.2 i))))), [])), (13, ((int (↑e.1.1 : Int)), [])), (14, ((int 0), []))], [r0, r1, r2, r3, r4, r5, r6, r7, r8, r9, r10, r11, (.box (lift (lExit (e)))), r13, (.loop f N sl ps ca cb .ready none)], []⟩) : vcF (X96 p) 96 sp96 L QE [.c (.yl 14), .c (.rt 12 0 0)] [r0, r1, r2, r3, r4, r5, r6, r7, r8, r9, r10, r11, .box (lift (lExit e)), r13, .loop f N sl ps ca cb .ready none] := Eq.mp (by kernel_rfl) h
noncomputable def st96_1 (p : Int → Bool) (e : ExitL) (r0 r1 r2 r3 r4 r5 r6 r7 r8 r9 r10 r11 r13 : Root) (f N : Nat) (sl : Slots) (ps : List Tmp) (ca cb : Code) (j : Nat) : VS := ⟨[(0, (.c (.yl 14)), []), (1, (.c (.rt 12 0 0)), []), (12, (.c (.im (.sl 3 e.1.1 (fun i => eFrame (e.frames.2 i))))), []), (13, (.c (.im (.v (.int .i64 (↑e.1.1 : Int))))), []), (14, int j, [])], [r0, r1, r2, r3, r4, r5, r6, r7, r8, r9, r10, r11, (.box (lift (lExit (e)))), r13, (.loop f N sl ps ca cb .ready none)], []⟩
theorem vc96_1 (L : LP) (QE : D → List Root → Prop) (p : Int → Bool) (e : ExitL) (r0 r1 r2 r3 r4 r5 r6 r7 r8 r9 r10 r11 r13 : Root) (f N : Nat) (sl : Slots) (ps : List Tmp) (ca cb : Code) (j : Nat) (h : br (decide ((↑j : Int) < (↑e.1.1 : Int))) ( nd (inB (↑j : Int) e.1.1) ( L (todoG 96 4) ⟨[(0, ((.c (.yl 14)), [])), (1, ((.c (.rt 12 0 0)), [])), (12, ((.c (.im (.sl 3 e.1.1 (fun i => eFrame (e.frames.2 i))))), [])), (13, ((int (↑e.1.1 : Int)), [])), (14, ((int (↑j : Int)), [])), (19, ((.c (.im (.sl 1 ((e.frames.2 j).3.1) (fun i => eInt ((e.frames.get (↑j : Int).toNat).vars.2 i))))), [])), (20, ((int ((↑(e.frames.2 j).3.1 : Int))), [])), (21, ((int 0), []))], [r0, r1, r2, r3, r4, r5, r6, r7, r8, r9, r10, r11, (.box (lift (lExit (e)))), r13, (.loop f N sl ps ca cb .ready none), (.box (lift (lFrame (e.frames.2 j))))], []⟩)) ( L (todoG 96 10) ⟨[(0, ((.c (.yl 14)), [])), (32, ((.c (.im (.sl 4 e.2.1 (fun i => eVirt (e.objs.2 i))))), [])), (33, ((int (↑e.2.1 : Int)), [])), (34, ((int 0), []))], [r0, r1, r2, r3, r4, r5, r6, r7, r8, r9, r10, r11, (.box (lift (lExit (e)))), r13, (.loop f N sl ps ca cb .ready none)], []⟩)) : vcR (X96 p) 96 sp96 L QE 1 (st96_1 p e r0 r1 r2 r3 r4 r5 r6 r7 r8 r9 r10 r11 r13 f N sl ps ca cb j) := Eq.mp (by kernel_rfl) h
noncomputable def st96_4 (p : Int → Bool) (e : ExitL) (r0 r1 r2 r3 r4 r5 r6 r7 r8 r9 r10 r11 r13 : Root) (f N : Nat) (sl : Slots) (ps : List Tmp) (ca cb : Code) (j i : Nat) : VS := ⟨[(0, (.c (.yl 14)), []), (1, (.c (.rt 12 0 0)), []), (12, (.c (.im (.sl 3 e.1.1 (fun i => eFrame (e.frames.2 i))))), []), (13, (.c (.im (.v (.int .i64 (↑e.1.1 : Int))))), []), (14, int j, []), (19, (.c (.im (.sl 1 ((e.frames.2 j).3.1) (fun i => eInt ((e.frames.get (↑j : Int).toNat).vars.2 i))))), []), (20, (.c (.im (.v (.int .i64 ((↑(e.frames.2 j).3.1 : Int)))))), []), (21, int i, [])], [r0, r1, r2, r3, r4, r5, r6, r7, r8, r9, r10, r11, (.box (lift (lExit (e)))), r13, (.loop f N sl ps ca cb .ready none), (.box (lift (lFrame (e.frames.2 j))))], []⟩
theorem vc96_4 (L : LP) (QE : D → List Root → Prop) (p : Int → Bool) (e : ExitL) (r0 r1 r2 r3 r4 r5 r6 r7 r8 r9 r10 r11 r13 : Root) (f N : Nat) (sl : Slots) (ps : List Tmp) (ca cb : Code) (j i : Nat) (h : br (decide ((↑i : Int) < (↑(e.frames.2 j).3.1 : Int))) ( nd (inB (↑i : Int) (e.frames.2 j).3.1) ( ( YCon tab Tryz.prog 14 [(int ((e.frames.get (↑j : Int).toNat).vars.2 i))] [r0, r1, r2, r3, r4, r5, r6, r7, r8, r9, r10, r11, (.box (lift (lExit (e)))), r13, (.loop f N sl ps ca cb .ready none), (.box (lift (lFrame (e.frames.2 j))))] (bool (p ((e.frames.get (↑j : Int).toNat).vars.2 i))) [r0, r1, r2, r3, r4, r5, r6, r7, r8, r9, r10, r11, (.box (lift (lExit (e)))), r13, (.loop f N sl ps ca cb (bif p ((e.frames.get (↑j : Int).toNat).vars.2 i) then LoopState.ready else LoopState.done) (bif p ((e.frames.get (↑j : Int).toNat).vars.2 i) then none else some Code.ret)), (.box (lift (lFrame (e.frames.2 j))))] ∧ br (!p ((e.frames.get (↑j : Int).toNat).vars.2 i)) ( QE (.t []) [r0, r1, r2, r3, r4, r5, r6, r7, r8, r9, r10, r11, (.box (lift (lExit (e)))), r13, (.loop f N sl ps ca cb (bif p ((e.frames.get (↑j : Int).toNat).vars.2 i) then LoopState.ready else LoopState.done) (bif p ((e.frames.get (↑j : Int).toNat).vars.2 i) then none else some Code.ret)), (.box (lift (lFrame (e.frames.2 j))))]) ( L (todoG 96 4) ⟨[(0, ((.c (.yl 14)), [])), (1, ((.c (.rt 12 0 0)), [])), (12, ((.c (.im (.sl 3 e.1.1 (fun i => eFrame (e.frames.2 i))))), [])), (13, ((int (↑e.1.1 : Int)), [])), (14, ((int (↑j : Int)), [])), (19, ((.c (.im (.sl 1 ((e.frames.2 j).3.1) (fun i => eInt ((e.frames.get (↑j : Int).toNat).vars.2 i))))), [])), (20, ((int ((↑(e.frames.2 j).3.1 : Int))), [])), (21, ((int (IntKind.i64.wrap ((↑i : Int) + 1))), []))], [r0, r1, r2, r3, r4, r5, r6, r7, r8, r9, r10, r11, (.box (lift (lExit (e)))), r13, (.loop f N sl ps ca cb (bif p ((e.frames.get (↑j : Int).toNat).vars.2 i) then LoopState.ready else LoopState.done) (bif p ((e.frames.get (↑j : Int).toNat).vars.2 i) then none else some Code.ret)), (.box (lift (lFrame (e.frames.2 j))))], []⟩)))) ( L (todoG 96 1) ⟨[(0, ((.c (.yl 14)), [])), (1, ((.c (.rt 12 0 0)), [])), (12, ((.c (.im (.sl 3 e.1.1 (fun i => eFrame (e.frames.2 i))))), [])), (13, ((int (↑e.1.1 : Int)), [])), (14, ((int (IntKind.i64.wrap ((↑j : Int) + 1))), []))], [r0, r1, r2, r3, r4, r5, r6, r7, r8, r9, r10, r11, (.box (lift (lExit (e)))), r13, (.loop f N sl ps ca cb .ready none), (.box (lift (lFrame (e.frames.2 j))))], []⟩)) : vcR (X96 p) 96 sp96 L QE 4 (st96_4 p e r0 r1 r2 r3 r4 r5 r6 r7 r8 r9 r10 r11 r13 f N sl ps ca cb j i) := Eq.mp (by kernel_rfl) h
noncomputable def st96_10 (p : Int → Bool) (e : ExitL) (r0 r1 r2 r3 r4 r5 r6 r7 r8 r9 r10 r11 r13 : Root) (f N : Nat) (sl : Slots) (ps : List Tmp) (ca cb : Code) (j : Nat) : VS := ⟨[(0, (.c (.yl 14)), []), (32, (.c (.im (.sl 4 e.2.1 (fun i => eVirt (e.objs.2 i))))), []), (33, (.c (.im (.v (.int .i64 (↑e.2.1 : Int))))), []), (34, int j, [])], [r0, r1, r2, r3, r4, r5, r6, r7, r8, r9, r10, r11, (.box (lift (lExit (e)))), r13, (.loop f N sl ps ca cb .ready none)], []⟩
theorem vc96_10 (L : LP) (QE : D → List Root → Prop) (p : Int → Bool) (e : ExitL) (r0 r1 r2 r3 r4 r5 r6 r7 r8 r9 r10 r11 r13 : Root) (f N : Nat) (sl : Slots) (ps : List Tmp) (ca cb : Code) (j : Nat) (h : br (decide ((↑j : Int) < (↑e.2.1 : Int))) ( nd (inB (↑j : Int) e.2.1) ( L (todoG 96 13) ⟨[(0, ((.c (.yl 14)), [])), (32, ((.c (.im (.sl 4 e.2.1 (fun i => eVirt (e.objs.2 i))))), [])), (33, ((int (↑e.2.1 : Int)), [])), (34, ((int (↑j : Int)), [])), (39, ((.c (.im (.sl 1 ((e.objs.2 j).4.1) (fun i => eInt ((e.objs.get (↑j : Int).toNat).items.2 i))))), [])), (40, ((int ((↑(e.objs.2 j).4.1 : Int))), [])), (41, ((int 0), []))], [r0, r1, r2, r3, r4, r5, r6, r7, r8, r9, r10, r11, (.box (lift (lExit (e)))), r13, (.loop f N sl ps ca cb .ready none), (.box (lift (lVirt (e.objs.2 j))))], []⟩)) ( QE (.t []) [r0, r1, r2, r3, r4, r5, r6, r7, r8, r9, r10, r11, (.box (lift (lExit (e)))), r13, (.loop f N sl ps ca cb .ready none)])) : vcR (X96 p) 96 sp96 L QE 10 (st96_10 p e r0 r1 r2 r3 r4 r5 r6 r7 r8 r9 r10 r11 r13 f N sl ps ca cb j) := Eq.mp (by kernel_rfl) h
noncomputable def st96_13 (p : Int → Bool) (e : ExitL) (r0 r1 r2 r3 r4 r5 r6 r7 r8 r9 r10 r11 r13 : Root) (f N : Nat) (sl : Slots) (ps : List Tmp) (ca cb : Code) (j i : Nat) : VS := ⟨[(0, (.c (.yl 14)), []), (32, (.c (.im (.sl 4 e.2.1 (fun i => eVirt (e.objs.2 i))))), []), (33, (.c (.im (.v (.int .i64 (↑e.2.1 : Int))))), []), (34, int j, []), (39, (.c (.im (.sl 1 ((e.objs.2 j).4.1) (fun i => eInt ((e.objs.get (↑j : Int).toNat).items.2 i))))), []), (40, (.c (.im (.v (.int .i64 ((↑(e.objs.2 j).4.1 : Int)))))), []), (41, int i, [])], [r0, r1, r2, r3, r4, r5, r6, r7, r8, r9, r10, r11, (.box (lift (lExit (e)))), r13, (.loop f N sl ps ca cb .ready none), (.box (lift (lVirt (e.objs.2 j))))], []⟩
theorem vc96_13 (L : LP) (QE : D → List Root → Prop) (p : Int → Bool) (e : ExitL) (r0 r1 r2 r3 r4 r5 r6 r7 r8 r9 r10 r11 r13 : Root) (f N : Nat) (sl : Slots) (ps : List Tmp) (ca cb : Code) (j i : Nat) (h : br (decide ((↑i : Int) < (↑(e.objs.2 j).4.1 : Int))) ( nd (inB (↑i : Int) (e.objs.2 j).4.1) ( ( YCon tab Tryz.prog 14 [(int ((e.objs.get (↑j : Int).toNat).items.2 i))] [r0, r1, r2, r3, r4, r5, r6, r7, r8, r9, r10, r11, (.box (lift (lExit (e)))), r13, (.loop f N sl ps ca cb .ready none), (.box (lift (lVirt (e.objs.2 j))))] (bool (p ((e.objs.get (↑j : Int).toNat).items.2 i))) [r0, r1, r2, r3, r4, r5, r6, r7, r8, r9, r10, r11, (.box (lift (lExit (e)))), r13, (.loop f N sl ps ca cb (bif p ((e.objs.get (↑j : Int).toNat).items.2 i) then LoopState.ready else LoopState.done) (bif p ((e.objs.get (↑j : Int).toNat).items.2 i) then none else some Code.ret)), (.box (lift (lVirt (e.objs.2 j))))] ∧ br (!p ((e.objs.get (↑j : Int).toNat).items.2 i)) ( QE (.t []) [r0, r1, r2, r3, r4, r5, r6, r7, r8, r9, r10, r11, (.box (lift (lExit (e)))), r13, (.loop f N sl ps ca cb (bif p ((e.objs.get (↑j : Int).toNat).items.2 i) then LoopState.ready else LoopState.done) (bif p ((e.objs.get (↑j : Int).toNat).items.2 i) then none else some Code.ret)), (.box (lift (lVirt (e.objs.2 j))))]) ( L (todoG 96 13) ⟨[(0, ((.c (.yl 14)), [])), (32, ((.c (.im (.sl 4 e.2.1 (fun i => eVirt (e.objs.2 i))))), [])), (33, ((int (↑e.2.1 : Int)), [])), (34, ((int (↑j : Int)), [])), (39, ((.c (.im (.sl 1 ((e.objs.2 j).4.1) (fun i => eInt ((e.objs.get (↑j : Int).toNat).items.2 i))))), [])), (40, ((int ((↑(e.objs.2 j).4.1 : Int))), [])), (41, ((int (IntKind.i64.wrap ((↑i : Int) + 1))), []))], [r0, r1, r2, r3, r4, r5, r6, r7, r8, r9, r10, r11, (.box (lift (lExit (e)))), r13, (.loop f N sl ps ca cb (bif p ((e.objs.get (↑j : Int).toNat).items.2 i) then LoopState.ready else LoopState.done) (bif p ((e.objs.get (↑j : Int).toNat).items.2 i) then none else some Code.ret)), (.box (lift (lVirt (e.objs.2 j))))], []⟩)))) ( L (todoG 96 10) ⟨[(0, ((.c (.yl 14)), [])), (32, ((.c (.im (.sl 4 e.2.1 (fun i => eVirt (e.objs.2 i))))), [])), (33, ((int (↑e.2.1 : Int)), [])), (34, ((int (IntKind.i64.wrap ((↑j : Int) + 1))), []))], [r0, r1, r2, r3, r4, r5, r6, r7, r8, r9, r10, r11, (.box (lift (lExit (e)))), r13, (.loop f N sl ps ca cb .ready none), (.box (lift (lVirt (e.objs.2 j))))], []⟩)) : vcR (X96 p) 96 sp96 L QE 13 (st96_13 p e r0 r1 r2 r3 r4 r5 r6 r7 r8 r9 r10 r11 r13 f N sl ps ca cb j i) := Eq.mp (by kernel_rfl) h
theorem lp96_13 (p : Int → Bool) (e : ExitL) (r0 r1 r2 r3 r4 r5 r6 r7 r8 r9 r10 r11 r13 : Root) (f N : Nat) (sl : Slots) (ps : List Tmp) (ca cb : Code) (hy : ∀ (n : Int) (x : Root), YCon tab Tryz.prog 14 [int n] [r0, r1, r2, r3, r4, r5, r6, r7, r8, r9, r10, r11, .box (lift (lExit e)), r13, .loop f N sl ps ca cb .ready none, x] (bool (p n)) [r0, r1, r2, r3, r4, r5, r6, r7, r8, r9, r10, r11, .box (lift (lExit e)), r13, .loop f N sl ps ca cb (bif p n then .ready else .done) (bif p n then none else some .ret), x]) (hS : SmallE e) (hw : LowRs 15 [r0, r1, r2, r3, r4, r5, r6, r7, r8, r9, r10, r11, .box (lift (lExit e)), r13, .loop f N sl ps ca cb .ready none]) (a : Bool) (j : Nat) (hj : j < e.objs.n) (end_ : scanA (fun j => allF (fun i => p ((e.objs.get j).items.get i)) (e.objs.get j).items.n) (e.objs.n - (j + 1)) (j + 1) = a → GoalF 96 15 (Go.V.Ends [r0, r1, r2, r3, r4, r5, r6, r7, r8, r9, r10, r11, .box (lift (lExit e)), r13, .loop f N sl ps ca cb .ready none] (.t []) [r0, r1, r2, r3, r4, r5, r6, r7, r8, r9, r10, r11, .box (lift (lExit e)), r13, .loop f N sl ps ca cb (bif a then .ready else .done) (bif a then none else some .ret)]) (todoG 96 10) (st96_10 p e r0 r1 r2 r3 r4 r5 r6 r7 r8 r9 r10 r11 r13 f N sl ps ca cb (j + 1))) : ∀ i, i ≤ (e.objs.get j).items.n → (scanA (fun i => p ((e.objs.get j).items.get i)) ((e.objs.get j).items.n - i) i && scanA (fun j => allF (fun i => p ((e.objs.get j).items.get i)) (e.objs.get j).items.n) (e.objs.n - (j + 1)) (j + 1)) = a → GoalF 96 15 (Go.V.Ends [r0, r1, r2, r3, r4, r5, r6, r7, r8, r9, r10, r11, .box (lift (lExit e)), r13, .loop f N sl ps ca cb .ready none] (.t []) [r0, r1, r2, r3, r4, r5, r6, r7, r8, r9, r10, r11, .box (lift (lExit e)), r13, .loop f N sl ps ca cb (bif a then .ready else .done) (bif a then none else some .ret)]) (todoG 96 13) (st96_13 p e r0 r1 r2 r3 r4 r5 r6 r7 r8 r9 r10 r11 r13 f N sl ps ca cb j i) := by
  have hV : (e.objs.get j).items.n ≤ 1000 := hS.items j hj
  have hN : e.objs.n ≤ 1000 := hS.objs
  refine count_rule (fun i hi ih ha => ?_) (fun ha => ?_)
  · have q : (e.objs.get j).items.n - i = ((e.objs.get j).items.n - (i + 1)) + 1 := by omega
    rw [q] at ha
    refine reachR (X := X96 p) (stop := sp96) (vc96_13 _ _ p e r0 r1 r2 r3 r4 r5 r6 r7 r8 r9 r10 r11 r13 f N sl ps ca cb j i ?_)
    rw [wrap1 hi (Nat.le_trans hV (by decide))]
    refine br_mk (fun h => ?_) (fun h => (dec_lt h hi).elim)
    refine nd_mk (inB_nat hi) ⟨hy _ _, ?_⟩
    refine br_mk (fun h1 => ?_) (fun h1 => ?_)
    · have h1 := (Bool.not_eq_true' _).mp h1
      rw [h1]
      rw [scanA_false (p := (fun i => p ((e.objs.get j).items.get i))) h1, Bool.false_and] at ha
      subst ha
      refine ⟨15, nlb rfl, nlb rfl, rfl, rfl, DLe.refl _, ?_⟩
      repeat' (first | exact trivial | refine ⟨.inl (.inl rfl), ?_⟩ | refine ⟨.inl (.inr ⟨_, _, _, _, _, _, _, _, _, _, rfl, rfl⟩), ?_⟩ | done)
    · have h1 := (Bool.not_eq_false' _ ▸ h1 : p _ = true)
      rw [h1]
      rw [scanA_true (p := (fun i => p ((e.objs.get j).items.get i))) h1] at ha
      exact ih ha
  · rw [Nat.sub_self] at ha
    refine reachR (X := X96 p) (stop := sp96) (vc96_13 _ _ p e r0 r1 r2 r3 r4 r5 r6 r7 r8 r9 r10 r11 r13 f N sl ps ca cb j _ ?_)
    rw [wrap1 hj (Nat.le_trans hN (by decide))]
    refine br_mk (fun h => lt_self h) (fun h => ?_)
    exact GoalF.cut 15 (Nat.le_refl _) (nlb rfl) rfl rfl hw (end_ (by simpa [scanA] using ha))
theorem lp96_10 (p : Int → Bool) (e : ExitL) (r0 r1 r2 r3 r4 r5 r6 r7 r8 r9 r10 r11 r13 : Root) (f N : Nat) (sl : Slots) (ps : List Tmp) (ca cb : Code) (hy : ∀ (n : Int) (x : Root), YCon tab Tryz.prog 14 [int n] [r0, r1, r2, r3, r4, r5, r6, r7, r8, r9, r10, r11, .box (lift (lExit e)), r13, .loop f N sl ps ca cb .ready none, x] (bool (p n)) [r0, r1, r2, r3, r4, r5, r6, r7, r8, r9, r10, r11, .box (lift (lExit e)), r13, .loop f N sl ps ca cb (bif p n then .ready else .done) (bif p n then none else some .ret), x]) (hS : SmallE e) (hw : LowRs 15 [r0, r1, r2, r3, r4, r5, r6, r7, r8, r9, r10, r11, .box (lift (lExit e)), r13, .loop f N sl ps ca cb .ready none]) (a : Bool) : ∀ j, j ≤ e.objs.n → (scanA (fun j => allF (fun i => p ((e.objs.get j).items.get i)) (e.objs.get j).items.n) (e.objs.n - j) j) = a → GoalF 96 15 (Go.V.Ends [r0, r1, r2, r3, r4, r5, r6, r7, r8, r9, r10, r11, .box (lift (lExit e)), r13, .loop f N sl ps ca cb .ready none] (.t []) [r0, r1, r2, r3, r4, r5, r6, r7, r8, r9, r10, r11, .box (lift (lExit e)), r13, .loop f N sl ps ca cb (bif a then .ready else .done) (bif a then none else some .ret)]) (todoG 96 10) (st96_10 p e r0 r1 r2 r3 r4 r5 r6 r7 r8 r9 r10 r11 r13 f N sl ps ca cb j) := by
  have hN : e.objs.n ≤ 1000 := hS.objs
  refine count_rule (fun j hj ih ha => ?_) (fun ha => ?_)
  · have q : e.objs.n - j = (e.objs.n - (j + 1)) + 1 := by omega
    rw [q] at ha
    refine reachR (X := X96 p) (stop := sp96) (vc96_10 _ _ p e r0 r1 r2 r3 r4 r5 r6 r7 r8 r9 r10 r11 r13 f N sl ps ca cb j ?_)
    refine br_mk (fun h => ?_) (fun h => (dec_lt h hj).elim)
    refine nd_mk (inB_nat hj) ?_
    refine lp96_13 p e r0 r1 r2 r3 r4 r5 r6 r7 r8 r9 r10 r11 r13 f N sl ps ca cb hy hS hw a j hj (fun q => ih q) 0 (Nat.zero_le _) ?_
    have e2 : scanA (fun j => allF (fun i => p ((e.objs.get j).items.get i)) (e.objs.get j).items.n) (e.objs.n - (j + 1) + 1) j = (scanA (fun i => p ((e.objs.get j).items.get i)) (e.objs.get j).items.n 0 && scanA (fun j => allF (fun i => p ((e.objs.get j).items.get i)) (e.objs.get j).items.n) (e.objs.n - (j + 1)) (j + 1)) := by
      show (bif allF (fun i => p ((e.objs.get j).items.get i)) (e.objs.get j).items.n then scanA (fun j => allF (fun i => p ((e.objs.get j).items.get i)) (e.objs.get j).items.n) (e.objs.n - (j + 1)) (j + 1) else false) = _
      unfold allF
      cases scanA (fun i => p ((e.objs.get j).items.get i)) (e.objs.get j).items.n 0 <;> rfl
    rw [e2] at ha
    rw [Nat.sub_zero]
    simpa [Bool.and_assoc] using ha
  · rw [Nat.sub_self] at ha
    refine reachR (X := X96 p) (stop := sp96) (vc96_10 _ _ p e r0 r1 r2 r3 r4 r5 r6 r7 r8 r9 r10 r11 r13 f N sl ps ca cb _ ?_)
    refine br_mk (fun h => lt_self h) (fun h => ?_)
    have ha : true = a := ha
    subst ha
    refine ⟨15, nlb rfl, nlb rfl, rfl, rfl, DLe.refl _, ?_⟩
    repeat' (first | exact trivial | refine ⟨.inl (.inl rfl), ?_⟩ | refine ⟨.inl (.inr ⟨_, _, _, _, _, _, _, _, _, _, rfl, rfl⟩), ?_⟩ | done)
theorem lp96_4 (p : Int → Bool) (e : ExitL) (r0 r1 r2 r3 r4 r5 r6 r7 r8 r9 r10 r11 r13 : Root) (f N : Nat) (sl : Slots) (ps : List Tmp) (ca cb : Code) (hy : ∀ (n : Int) (x : Root), YCon tab Tryz.prog 14 [int n] [r0, r1, r2, r3, r4, r5, r6, r7, r8, r9, r10, r11, .box (lift (lExit e)), r13, .loop f N sl ps ca cb .ready none, x] (bool (p n)) [r0, r1, r2, r3, r4, r5, r6, r7, r8, r9, r10, r11, .box (lift (lExit e)), r13, .loop f N sl ps ca cb (bif p n then .ready else .done) (bif p n then none else some .ret), x]) (hS : SmallE e) (hw : LowRs 15 [r0, r1, r2, r3, r4, r5, r6, r7, r8, r9, r10, r11, .box (lift (lExit e)), r13, .loop f N sl ps ca cb .ready none]) (a : Bool) (j : Nat) (hj : j < e.frames.n) (end_ : (scanA (fun j => allF (fun i => p ((e.frames.get j).vars.get i)) (e.frames.get j).vars.n) (e.frames.n - (j + 1)) (j + 1) && allF (fun j => allF (fun i => p ((e.objs.get j).items.get i)) (e.objs.get j).items.n) e.objs.n) = a → GoalF 96 15 (Go.V.Ends [r0, r1, r2, r3, r4, r5, r6, r7, r8, r9, r10, r11, .box (lift (lExit e)), r13, .loop f N sl ps ca cb .ready none] (.t []) [r0, r1, r2, r3, r4, r5, r6, r7, r8, r9, r10, r11, .box (lift (lExit e)), r13, .loop f N sl ps ca cb (bif a then .ready else .done) (bif a then none else some .ret)]) (todoG 96 1) (st96_1 p e r0 r1 r2 r3 r4 r5 r6 r7 r8 r9 r10 r11 r13 f N sl ps ca cb (j + 1))) : ∀ i, i ≤ (e.frames.get j).vars.n → (scanA (fun i => p ((e.frames.get j).vars.get i)) ((e.frames.get j).vars.n - i) i && (scanA (fun j => allF (fun i => p ((e.frames.get j).vars.get i)) (e.frames.get j).vars.n) (e.frames.n - (j + 1)) (j + 1) && allF (fun j => allF (fun i => p ((e.objs.get j).items.get i)) (e.objs.get j).items.n) e.objs.n)) = a → GoalF 96 15 (Go.V.Ends [r0, r1, r2, r3, r4, r5, r6, r7, r8, r9, r10, r11, .box (lift (lExit e)), r13, .loop f N sl ps ca cb .ready none] (.t []) [r0, r1, r2, r3, r4, r5, r6, r7, r8, r9, r10, r11, .box (lift (lExit e)), r13, .loop f N sl ps ca cb (bif a then .ready else .done) (bif a then none else some .ret)]) (todoG 96 4) (st96_4 p e r0 r1 r2 r3 r4 r5 r6 r7 r8 r9 r10 r11 r13 f N sl ps ca cb j i) := by
  have hV : (e.frames.get j).vars.n ≤ 1000 := hS.vars j hj
  have hN : e.frames.n ≤ 1000 := hS.frames
  refine count_rule (fun i hi ih ha => ?_) (fun ha => ?_)
  · have q : (e.frames.get j).vars.n - i = ((e.frames.get j).vars.n - (i + 1)) + 1 := by omega
    rw [q] at ha
    refine reachR (X := X96 p) (stop := sp96) (vc96_4 _ _ p e r0 r1 r2 r3 r4 r5 r6 r7 r8 r9 r10 r11 r13 f N sl ps ca cb j i ?_)
    rw [wrap1 hi (Nat.le_trans hV (by decide))]
    refine br_mk (fun h => ?_) (fun h => (dec_lt h hi).elim)
    refine nd_mk (inB_nat hi) ⟨hy _ _, ?_⟩
    refine br_mk (fun h1 => ?_) (fun h1 => ?_)
    · have h1 := (Bool.not_eq_true' _).mp h1
      rw [h1]
      rw [scanA_false (p := (fun i => p ((e.frames.get j).vars.get i))) h1, Bool.false_and] at ha
      subst ha
      refine ⟨15, nlb rfl, nlb rfl, rfl, rfl, DLe.refl _, ?_⟩
      repeat' (first | exact trivial | refine ⟨.inl (.inl rfl), ?_⟩ | refine ⟨.inl (.inr ⟨_, _, _, _, _, _, _, _, _, _, rfl, rfl⟩), ?_⟩ | done)
    · have h1 := (Bool.not_eq_false' _ ▸ h1 : p _ = true)
      rw [h1]
      rw [scanA_true (p := (fun i => p ((e.frames.get j).vars.get i))) h1] at ha
      exact ih ha
  · rw [Nat.sub_self] at ha
    refine reachR (X := X96 p) (stop := sp96) (vc96_4 _ _ p e r0 r1 r2 r3 r4 r5 r6 r7 r8 r9 r10 r11 r13 f N sl ps ca cb j _ ?_)
    rw [wrap1 hj (Nat.le_trans hN (by decide))]
    refine br_mk (fun h => lt_self h) (fun h => ?_)
    exact GoalF.cut 15 (Nat.le_refl _) (nlb rfl) rfl rfl hw (end_ (by simpa [scanA] using ha))
theorem lp96_1 (p : Int → Bool) (e : ExitL) (r0 r1 r2 r3 r4 r5 r6 r7 r8 r9 r10 r11 r13 : Root) (f N : Nat) (sl : Slots) (ps : List Tmp) (ca cb : Code) (hy : ∀ (n : Int) (x : Root), YCon tab Tryz.prog 14 [int n] [r0, r1, r2, r3, r4, r5, r6, r7, r8, r9, r10, r11, .box (lift (lExit e)), r13, .loop f N sl ps ca cb .ready none, x] (bool (p n)) [r0, r1, r2, r3, r4, r5, r6, r7, r8, r9, r10, r11, .box (lift (lExit e)), r13, .loop f N sl ps ca cb (bif p n then .ready else .done) (bif p n then none else some .ret), x]) (hS : SmallE e) (hw : LowRs 15 [r0, r1, r2, r3, r4, r5, r6, r7, r8, r9, r10, r11, .box (lift (lExit e)), r13, .loop f N sl ps ca cb .ready none]) (a : Bool) : ∀ j, j ≤ e.frames.n → (scanA (fun j => allF (fun i => p ((e.frames.get j).vars.get i)) (e.frames.get j).vars.n) (e.frames.n - j) j && allF (fun j => allF (fun i => p ((e.objs.get j).items.get i)) (e.objs.get j).items.n) e.objs.n) = a → GoalF 96 15 (Go.V.Ends [r0, r1, r2, r3, r4, r5, r6, r7, r8, r9, r10, r11, .box (lift (lExit e)), r13, .loop f N sl ps ca cb .ready none] (.t []) [r0, r1, r2, r3, r4, r5, r6, r7, r8, r9, r10, r11, .box (lift (lExit e)), r13, .loop f N sl ps ca cb (bif a then .ready else .done) (bif a then none else some .ret)]) (todoG 96 1) (st96_1 p e r0 r1 r2 r3 r4 r5 r6 r7 r8 r9 r10 r11 r13 f N sl ps ca cb j) := by
  have hN : e.frames.n ≤ 1000 := hS.frames
  refine count_rule (fun j hj ih ha => ?_) (fun ha => ?_)
  · have q : e.frames.n - j = (e.frames.n - (j + 1)) + 1 := by omega
    rw [q] at ha
    refine reachR (X := X96 p) (stop := sp96) (vc96_1 _ _ p e r0 r1 r2 r3 r4 r5 r6 r7 r8 r9 r10 r11 r13 f N sl ps ca cb j ?_)
    refine br_mk (fun h => ?_) (fun h => (dec_lt h hj).elim)
    refine nd_mk (inB_nat hj) ?_
    refine lp96_4 p e r0 r1 r2 r3 r4 r5 r6 r7 r8 r9 r10 r11 r13 f N sl ps ca cb hy hS hw a j hj (fun q => ih q) 0 (Nat.zero_le _) ?_
    have e2 : scanA (fun j => allF (fun i => p ((e.frames.get j).vars.get i)) (e.frames.get j).vars.n) (e.frames.n - (j + 1) + 1) j = (scanA (fun i => p ((e.frames.get j).vars.get i)) (e.frames.get j).vars.n 0 && scanA (fun j => allF (fun i => p ((e.frames.get j).vars.get i)) (e.frames.get j).vars.n) (e.frames.n - (j + 1)) (j + 1)) := by
      show (bif allF (fun i => p ((e.frames.get j).vars.get i)) (e.frames.get j).vars.n then scanA (fun j => allF (fun i => p ((e.frames.get j).vars.get i)) (e.frames.get j).vars.n) (e.frames.n - (j + 1)) (j + 1) else false) = _
      unfold allF
      cases scanA (fun i => p ((e.frames.get j).vars.get i)) (e.frames.get j).vars.n 0 <;> rfl
    rw [e2] at ha
    rw [Nat.sub_zero]
    simpa [Bool.and_assoc] using ha
  · rw [Nat.sub_self] at ha
    refine reachR (X := X96 p) (stop := sp96) (vc96_1 _ _ p e r0 r1 r2 r3 r4 r5 r6 r7 r8 r9 r10 r11 r13 f N sl ps ca cb _ ?_)
    refine br_mk (fun h => lt_self h) (fun h => ?_)
    exact lp96_10 p e r0 r1 r2 r3 r4 r5 r6 r7 r8 r9 r10 r11 r13 f N sl ps ca cb hy hS hw a 0 (Nat.zero_le _) (by simpa [scanA, allF] using ha)
theorem con96 (p : Int → Bool) (e : ExitL) (r0 r1 r2 r3 r4 r5 r6 r7 r8 r9 r10 r11 r13 : Root) (f N : Nat) (sl : Slots) (ps : List Tmp) (ca cb : Code) (hy : ∀ (n : Int) (x : Root), YCon tab Tryz.prog 14 [int n] [r0, r1, r2, r3, r4, r5, r6, r7, r8, r9, r10, r11, .box (lift (lExit e)), r13, .loop f N sl ps ca cb .ready none, x] (bool (p n)) [r0, r1, r2, r3, r4, r5, r6, r7, r8, r9, r10, r11, .box (lift (lExit e)), r13, .loop f N sl ps ca cb (bif p n then .ready else .done) (bif p n then none else some .ret), x]) (hS : SmallE e) (hw : LowRs 15 [r0, r1, r2, r3, r4, r5, r6, r7, r8, r9, r10, r11, .box (lift (lExit e)), r13, .loop f N sl ps ca cb .ready none]) : LC 96 [.c (.yl 14), .c (.rt 12 0 0)] [r0, r1, r2, r3, r4, r5, r6, r7, r8, r9, r10, r11, .box (lift (lExit e)), r13, .loop f N sl ps ca cb .ready none] (.t []) [r0, r1, r2, r3, r4, r5, r6, r7, r8, r9, r10, r11, .box (lift (lExit e)), r13, .loop f N sl ps ca cb (bif allM p e then .ready else .done) (bif allM p e then none else some .ret)] :=
  root_con fn96 (nlb (by kernel_rfl)) (reachF (X := X96 p) (stop := sp96) (vc96 _ _ p e r0 r1 r2 r3 r4 r5 r6 r7 r8 r9 r10 r11 r13 f N sl ps ca cb (lp96_1 p e r0 r1 r2 r3 r4 r5 r6 r7 r8 r9 r10 r11 r13 f N sl ps ca cb hy hS hw (allM p e) 0 (Nat.zero_le _) (by unfold allM allF; rfl))))
open Go Go.V
noncomputable def sl93 : Slots := [(3, .c (.rt 6 0 0), []), (5, .c (.rt 8 0 0), []), (6, .c (.rt 9 0 0), []), (7, .c (.rt 11 0 0), []), (110, .c (.clo 96 [12]), [])]
noncomputable def X93 (p : Bool) : Spc := { F := F8, S := [14], B := fun _ _ _ => p, R1 := fun _ _ _ => (.t [], [], []), R2 := fun _ ds rs => (.t [], [(14, loopL false (nthF rs 14))], []) }
noncomputable def useL (t : TraceL) (k : Int) (v : List Int) (n : Int) : Bool := n == -1 || (valL t n k && !((t.ins.get n.toNat).op == 17 && !elemI n v))
noncomputable def vset (x : Sq VirtL) : Nat → List Int
  | 0 => []
  | j + 1 => addI (x.get j).value (vset x j)
noncomputable def obL (t : TraceL) (e : ExitL) (k : Int) (j : Nat) : Bool := !(!valL t (e.objs.get j).value k || (elemI (e.objs.get j).value (vset e.objs j) || ((((e.objs.get j).items.n : Int) != ((e.objs.get j).names.n : Int)) || (((t.ins.get (e.objs.get j).value.toNat).op != 17) || (((t.ins.get (e.objs.get j).value.toNat).n != (e.objs.get j).cls) || !sameSq eqS (t.ins.get (e.objs.get j).value.toNat).names (e.objs.get j).names)))))
noncomputable def exitL (t : TraceL) (e : ExitL) (k : Int) : Bool := !(decide ((e.frames.n : Int) < 1) || (decide ((e.frames.n : Int) > 6) || decide (e.back < 0))) && (allF (obL t e k) e.objs.n && (allF (fun j => frR (e.frames.get j)) e.frames.n && allM (useL t k (vset e.objs e.objs.n)) e))
def sp93 : Nat → Bool := fun i => Nat.beq i 5 || Nat.beq i 15 || Nat.beq i 20
theorem fn93 : Fn 93 := ⟨by kernel_rfl, by kernel_rfl⟩
theorem vc93 (L : LP) (QE : D → List Root → Prop) (p : Bool) (t : TraceL) (e : ExitL) (k : Int) (r0 r1 r2 r3 r4 r5 : Root) (h : br (decide ((↑e.1.1 : Int) < 1)) ( QE (bool false) [r0, r1, r2, r3, r4, r5, (.box (lChk (t) 1)), (.box (lift (lExit (e)))), (.box [(ci k)]), (.box [(.im (.v (.bool false)))])]) ( br (decide ((↑e.1.1 : Int) > 6)) ( QE (bool false) [r0, r1, r2, r3, r4, r5, (.box (lChk (t) 1)), (.box (lift (lExit (e)))), (.box [(ci k)]), (.box [(.im (.v (.bool false)))])]) ( br (decide (e.3 < 0)) ( QE (bool false) [r0, r1, r2, r3, r4, r5, (.box (lChk (t) 1)), (.box (lift (lExit (e)))), (.box [(ci k)]), (.box [(.im (.v (.bool false)))])]) ( L (todoG 93 5) ⟨[(3, ((.c (.rt 6 0 0)), [])), (4, ((.c (.rt 7 0 0)), [])), (5, ((.c (.rt 8 0 0)), [])), (6, ((.c (.rt 9 0 0)), [])), (7, ((.c (.rt 11 0 0)), [])), (31, ((.c (.im (.sl 4 e.2.1 (fun i => eVirt (e.objs.2 i))))), [])), (32, ((int (↑e.2.1 : Int)), [])), (33, ((int 0), []))], [r0, r1, r2, r3, r4, r5, (.box (lChk (t) 1)), (.box (lift (lExit (e)))), (.box [(ci k)]), (.box [(.im (.v (.bool false)))]), (.set []), (.box [(.mp 10)])], []⟩)))) : vcF (X93 p) 93 sp93 L QE [dChk t 1, dExit e, int k] [r0, r1, r2, r3, r4, r5] := Eq.mp (by kernel_rfl) h
noncomputable def st93_5 (p : Bool) (t : TraceL) (e : ExitL) (k : Int) (r0 r1 r2 r3 r4 r5 : Root) (v : List Int) (j : Nat) : VS := ⟨[(3, (.c (.rt 6 0 0)), []), (4, (.c (.rt 7 0 0)), []), (5, (.c (.rt 8 0 0)), []), (6, (.c (.rt 9 0 0)), []), (7, (.c (.rt 11 0 0)), []), (31, (.c (.im (.sl 4 e.2.1 (fun i => eVirt (e.objs.2 i))))), []), (32, (.c (.im (.v (.int .i64 (↑e.2.1 : Int))))), []), (33, int j, [])], [r0, r1, r2, r3, r4, r5, (.box (lChk (t) 1)), (.box (lift (lExit (e)))), (.box [(.im (.v (.int .i64 k)))]), (.box [(.im (.v (.bool false)))]), .set v, (.box [(.mp 10)])], []⟩
theorem vc93_5 (L : LP) (QE : D → List Root → Prop) (p : Bool) (t : TraceL) (e : ExitL) (k : Int) (r0 r1 r2 r3 r4 r5 : Root) (v : List Int) (j : Nat) (h : br (decide ((↑j : Int) < (↑e.2.1 : Int))) ( nd (inB (↑j : Int) e.2.1) ( ( LC 92 [(.a (lChk (t) 1)), (int ((e.objs.2 j).1)), (int k)] [r0, r1, r2, r3, r4, r5, (.box (lChk (t) 1)), (.box (lift (lExit (e)))), (.box [(ci k)]), (.box [(.im (.v (.bool false)))]), (.set v), (.box [(.mp 10)]), (.box (lift (lVirt (e.objs.2 j))))] (bool (valL t (e.objs.2 j).1 k)) [r0, r1, r2, r3, r4, r5, (.box (lChk (t) 1)), (.box (lift (lExit (e)))), (.box [(ci k)]), (.box [(.im (.v (.bool false)))]), (.set v), (.box [(.mp 10)]), (.box (lift (lVirt (e.objs.2 j))))] ∧ br (!valL t (e.objs.2 j).1 k) ( QE (bool false) [r0, r1, r2, r3, r4, r5, (.box (lChk (t) 1)), (.box (lift (lExit (e)))), (.box [(ci k)]), (.box [(.im (.v (.bool false)))]), (.set v), (.box [(.mp 10)]), (.box (lift (lVirt (e.objs.2 j))))]) ( br (elemI (e.objs.2 j).1 v) ( QE (bool false) [r0, r1, r2, r3, r4, r5, (.box (lChk (t) 1)), (.box (lift (lExit (e)))), (.box [(ci k)]), (.box [(.im (.v (.bool false)))]), (.set v), (.box [(.mp 10)]), (.box (lift (lVirt (e.objs.2 j))))]) ( br ((↑(e.objs.2 j).4.1 : Int) != (↑(e.objs.2 j).3.1 : Int)) ( QE (bool false) [r0, r1, r2, r3, r4, r5, (.box (lChk (t) 1)), (.box (lift (lExit (e)))), (.box [(ci k)]), (.box [(.im (.v (.bool false)))]), (.set v), (.box [(.mp 10)]), (.box (lift (lVirt (e.objs.2 j))))]) ( nd (inB (e.objs.2 j).1 t.2.1) ( br ((t.ins.2 (e.objs.2 j).1.toNat).1 != 17) ( QE (bool false) [r0, r1, r2, r3, r4, r5, (.box (lChk (t) 1)), (.box (lift (lExit (e)))), (.box [(ci k)]), (.box [(.im (.v (.bool false)))]), (.set v), (.box [(.mp 10)]), (.box (lift (lVirt (e.objs.2 j)))), (.box (lift (lIns (t.ins.2 (e.objs.2 j).1.toNat))))]) ( br ((t.ins.2 (e.objs.2 j).1.toNat).5 != (e.objs.2 j).2) ( QE (bool false) [r0, r1, r2, r3, r4, r5, (.box (lChk (t) 1)), (.box (lift (lExit (e)))), (.box [(ci k)]), (.box [(.im (.v (.bool false)))]), (.set v), (.box [(.mp 10)]), (.box (lift (lVirt (e.objs.2 j)))), (.box (lift (lIns (t.ins.2 (e.objs.2 j).1.toNat))))]) ( ( LC 72 [(.c (.im (.sl 1 ((t.ins.2 (e.objs.2 j).1.toNat).8.1) (fun i => eStr ((t.ins.get (e.objs.get (↑j : Int).toNat).value.toNat).names.2 i))))), (.c (.im (.sl 1 ((e.objs.2 j).3.1) (fun i => eStr ((e.objs.get (↑j : Int).toNat).names.2 i)))))] [] (bool (sameSq eqS (t.ins.2 (e.objs.2 j).1.toNat).8 (e.objs.2 j).3)) [] ∧ br (!sameSq eqS (t.ins.2 (e.objs.2 j).1.toNat).8 (e.objs.2 j).3) ( QE (bool false) [r0, r1, r2, r3, r4, r5, (.box (lChk (t) 1)), (.box (lift (lExit (e)))), (.box [(ci k)]), (.box [(.im (.v (.bool false)))]), (.set v), (.box [(.mp 10)]), (.box (lift (lVirt (e.objs.2 j)))), (.box (lift (lIns (t.ins.2 (e.objs.2 j).1.toNat))))]) ( L (todoG 93 5) ⟨[(3, ((.c (.rt 6 0 0)), [])), (4, ((.c (.rt 7 0 0)), [])), (5, ((.c (.rt 8 0 0)), [])), (6, ((.c (.rt 9 0 0)), [])), (7, ((.c (.rt 11 0 0)), [])), (31, ((.c (.im (.sl 4 e.2.1 (fun i => eVirt (e.objs.2 i))))), [])), (32, ((int (↑e.2.1 : Int)), [])), (33, ((int (IntKind.i64.wrap ((↑j : Int) + 1))), []))], [r0, r1, r2, r3, r4, r5, (.box (lChk (t) 1)), (.box (lift (lExit (e)))), (.box [(ci k)]), (.box [(.im (.v (.bool false)))]), (.set (addI (e.objs.2 j).1 v)), (.box [(.mp 10)]), (.box (lift (lVirt (e.objs.2 j)))), (.box (lift (lIns (t.ins.2 (e.objs.2 j).1.toNat))))], []⟩))))))))))) ( L (todoG 93 15) ⟨[(3, ((.c (.rt 6 0 0)), [])), (4, ((.c (.rt 7 0 0)), [])), (5, ((.c (.rt 8 0 0)), [])), (6, ((.c (.rt 9 0 0)), [])), (7, ((.c (.rt 11 0 0)), [])), (88, ((.c (.im (.sl 3 e.1.1 (fun i => eFrame (e.frames.2 i))))), [])), (89, ((int (↑e.1.1 : Int)), [])), (90, ((int 0), []))], [r0, r1, r2, r3, r4, r5, (.box (lChk (t) 1)), (.box (lift (lExit (e)))), (.box [(ci k)]), (.box [(.im (.v (.bool false)))]), (.set v), (.box [(.mp 10)])], []⟩)) : vcR (X93 p) 93 sp93 L QE 5 (st93_5 p t e k r0 r1 r2 r3 r4 r5 v j) := Eq.mp (by kernel_rfl) h
noncomputable def st93_15 (p : Bool) (t : TraceL) (e : ExitL) (k : Int) (r0 r1 r2 r3 r4 r5 : Root) (v : List Int) (j : Nat) : VS := ⟨[(3, (.c (.rt 6 0 0)), []), (4, (.c (.rt 7 0 0)), []), (5, (.c (.rt 8 0 0)), []), (6, (.c (.rt 9 0 0)), []), (7, (.c (.rt 11 0 0)), []), (88, (.c (.im (.sl 3 e.1.1 (fun i => eFrame (e.frames.2 i))))), []), (89, (.c (.im (.v (.int .i64 (↑e.1.1 : Int))))), []), (90, int j, [])], [r0, r1, r2, r3, r4, r5, (.box (lChk (t) 1)), (.box (lift (lExit (e)))), (.box [(.im (.v (.int .i64 k)))]), (.box [(.im (.v (.bool false)))]), .set v, (.box [(.mp 10)])], []⟩
theorem vc93_15 (L : LP) (QE : D → List Root → Prop) (p : Bool) (t : TraceL) (e : ExitL) (k : Int) (r0 r1 r2 r3 r4 r5 : Root) (v : List Int) (j : Nat) (h : br (decide ((↑j : Int) < (↑e.1.1 : Int))) ( nd (inB (↑j : Int) e.1.1) ( br (decide ((e.frames.2 j).1 < 0)) ( QE (bool false) [r0, r1, r2, r3, r4, r5, (.box (lChk (t) 1)), (.box (lift (lExit (e)))), (.box [(ci k)]), (.box [(.im (.v (.bool false)))]), (.set v), (.box [(.mp 10)]), (.box (lift (lFrame (e.frames.2 j))))]) ( br (decide ((e.frames.2 j).2 < 0)) ( QE (bool false) [r0, r1, r2, r3, r4, r5, (.box (lChk (t) 1)), (.box (lift (lExit (e)))), (.box [(ci k)]), (.box [(.im (.v (.bool false)))]), (.set v), (.box [(.mp 10)]), (.box (lift (lFrame (e.frames.2 j))))]) ( br (decide ((↑(e.frames.2 j).3.1 : Int) > 24)) ( QE (bool false) [r0, r1, r2, r3, r4, r5, (.box (lChk (t) 1)), (.box (lift (lExit (e)))), (.box [(ci k)]), (.box [(.im (.v (.bool false)))]), (.set v), (.box [(.mp 10)]), (.box (lift (lFrame (e.frames.2 j))))]) ( L (todoG 93 15) ⟨[(3, ((.c (.rt 6 0 0)), [])), (4, ((.c (.rt 7 0 0)), [])), (5, ((.c (.rt 8 0 0)), [])), (6, ((.c (.rt 9 0 0)), [])), (7, ((.c (.rt 11 0 0)), [])), (88, ((.c (.im (.sl 3 e.1.1 (fun i => eFrame (e.frames.2 i))))), [])), (89, ((int (↑e.1.1 : Int)), [])), (90, ((int (IntKind.i64.wrap ((↑j : Int) + 1))), []))], [r0, r1, r2, r3, r4, r5, (.box (lChk (t) 1)), (.box (lift (lExit (e)))), (.box [(ci k)]), (.box [(.im (.v (.bool false)))]), (.set v), (.box [(.mp 10)]), (.box (lift (lFrame (e.frames.2 j))))], []⟩))))) ( L (todoG 93 20) ⟨[(3, ((.c (.rt 6 0 0)), [])), (4, ((.c (.rt 7 0 0)), [])), (5, ((.c (.rt 8 0 0)), [])), (6, ((.c (.rt 9 0 0)), [])), (7, ((.c (.rt 11 0 0)), [])), (88, ((.c (.im (.sl 3 e.1.1 (fun i => eFrame (e.frames.2 i))))), [])), (89, ((int (↑e.1.1 : Int)), [])), (90, ((int (↑j : Int)), [])), (91, ((bool false), []))], [r0, r1, r2, r3, r4, r5, (.box (lChk (t) 1)), (.box (lift (lExit (e)))), (.box [(ci k)]), (.box [(.im (.v (.bool false)))]), (.set v), (.box [(.mp 10)])], []⟩)) : vcR (X93 p) 93 sp93 L QE 15 (st93_15 p t e k r0 r1 r2 r3 r4 r5 v j) := Eq.mp (by kernel_rfl) h
noncomputable def st93_20 (p : Bool) (t : TraceL) (e : ExitL) (k : Int) (r0 r1 r2 r3 r4 r5 : Root) (v : List Int) : VS := ⟨[(3, (.c (.rt 6 0 0)), []), (4, (.c (.rt 7 0 0)), []), (5, (.c (.rt 8 0 0)), []), (6, (.c (.rt 9 0 0)), []), (7, (.c (.rt 11 0 0)), [])], [r0, r1, r2, r3, r4, r5, (.box (lChk (t) 1)), (.box (lift (lExit (e)))), (.box [(.im (.v (.int .i64 k)))]), (.box [(.im (.v (.bool false)))]), .set v, (.box [(.mp 10)])], []⟩
theorem vc93_20 (L : LP) (QE : D → List Root → Prop) (p : Bool) (t : TraceL) (e : ExitL) (k : Int) (r0 r1 r2 r3 r4 r5 : Root) (v : List Int) (h : ( LC 56 [(.a (lift (lExit (e))))] [r0, r1, r2, r3, r4, r5, (.box (lChk (t) 1)), (.box (lift (lExit (e)))), (.box [(ci k)]), (.box [(.im (.v (.bool false)))]), (.set v), (.box [(.mp 10)])] (.c (.clo 96 [12])) [r0, r1, r2, r3, r4, r5, (.box (lChk (t) 1)), (.box (lift (lExit (e)))), (.box [(ci k)]), (.box [(.im (.v (.bool false)))]), (.set v), (.box [(.mp 10)]), (.box (lift (lExit (e))))] ∧ br (p) ( ( LC 96 [(.c (.yl 14)), (.c (.rt 12 0 0))] [r0, r1, r2, r3, r4, r5, (.box (lChk (t) 1)), (.box (lift (lExit (e)))), (.box [(ci k)]), (.box [(.im (.v (.bool false)))]), (.set v), (.box [(.mp 10)]), (.box (lift (lExit (e)))), .dfr, (.loop 93 137 [(3, ((.c (.rt 6 0 0)), [])), (5, ((.c (.rt 8 0 0)), [])), (6, ((.c (.rt 9 0 0)), [])), (7, ((.c (.rt 11 0 0)), [])), (110, ((.c (.clo 96 [12])), []))] [111] (asG 93) (bdG 93) .ready none)] (.t []) [r0, r1, r2, r3, r4, r5, (.box (lChk (t) 1)), (.box (lift (lExit (e)))), (.box [(ci k)]), (.box [(.im (.v (.bool false)))]), (.set v), (.box [(.mp 10)]), (.box (lift (lExit (e)))), .dfr, (.loop 93 137 [(3, ((.c (.rt 6 0 0)), [])), (5, ((.c (.rt 8 0 0)), [])), (6, ((.c (.rt 9 0 0)), [])), (7, ((.c (.rt 11 0 0)), [])), (110, ((.c (.clo 96 [12])), []))] [111] (asG 93) (bdG 93) .ready none)] ∧ QE (bool true) [r0, r1, r2, r3, r4, r5, (.box (lChk (t) 1)), (.box (lift (lExit (e)))), (.box [(ci k)]), (.box [(.im (.v (.bool true)))]), (.set v), (.box [(.mp 10)]), (.box (lift (lExit (e)))), .dead, .dead])) ( ( LC 96 [(.c (.yl 14)), (.c (.rt 12 0 0))] [r0, r1, r2, r3, r4, r5, (.box (lChk (t) 1)), (.box (lift (lExit (e)))), (.box [(ci k)]), (.box [(.im (.v (.bool false)))]), (.set v), (.box [(.mp 10)]), (.box (lift (lExit (e)))), .dfr, (.loop 93 137 [(3, ((.c (.rt 6 0 0)), [])), (5, ((.c (.rt 8 0 0)), [])), (6, ((.c (.rt 9 0 0)), [])), (7, ((.c (.rt 11 0 0)), [])), (110, ((.c (.clo 96 [12])), []))] [111] (asG 93) (bdG 93) .ready none)] (.t []) [r0, r1, r2, r3, r4, r5, (.box (lChk (t) 1)), (.box (lift (lExit (e)))), (.box [(ci k)]), (.box [(.im (.v (.bool false)))]), (.set v), (.box [(.mp 10)]), (.box (lift (lExit (e)))), .dfr, (.loop 93 137 [(3, ((.c (.rt 6 0 0)), [])), (5, ((.c (.rt 8 0 0)), [])), (6, ((.c (.rt 9 0 0)), [])), (7, ((.c (.rt 11 0 0)), [])), (110, ((.c (.clo 96 [12])), []))] [111] (asG 93) (bdG 93) .done (some .ret))] ∧ QE (bool false) [r0, r1, r2, r3, r4, r5, (.box (lChk (t) 1)), (.box (lift (lExit (e)))), (.box [(ci k)]), (.box [(.im (.v (.bool false)))]), (.set v), (.box [(.mp 10)]), (.box (lift (lExit (e)))), .dead, .dead])))) : vcR (X93 p) 93 sp93 L QE 20 (st93_20 p t e k r0 r1 r2 r3 r4 r5 v) := Eq.mp (by kernel_rfl) h
theorem vcy93 (QE : D → List Root → Prop) (t : TraceL) (e : ExitL) (k n : Int) (v : List Int) (r0 r1 r2 r3 r4 r5 : Root) (x : Root) (h : br (n != -1) ( ( LC 92 [(.a (lChk (t) 1)), (int n), (int k)] [r0, r1, r2, r3, r4, r5, (.box (lChk (t) 1)), (.box (lift (lExit (e)))), (.box [(ci k)]), (.box [(.im (.v (.bool false)))]), (.set v), (.box [(.mp 10)]), (.box (lift (lExit (e)))), .dfr, (.loop 93 137 [(3, ((.c (.rt 6 0 0)), [])), (5, ((.c (.rt 8 0 0)), [])), (6, ((.c (.rt 9 0 0)), [])), (7, ((.c (.rt 11 0 0)), [])), (110, ((.c (.clo 96 [12])), []))] [111] (asG 93) (bdG 93) .busy none), x] (bool (valL t n k)) [r0, r1, r2, r3, r4, r5, (.box (lChk (t) 1)), (.box (lift (lExit (e)))), (.box [(ci k)]), (.box [(.im (.v (.bool false)))]), (.set v), (.box [(.mp 10)]), (.box (lift (lExit (e)))), .dfr, (.loop 93 137 [(3, ((.c (.rt 6 0 0)), [])), (5, ((.c (.rt 8 0 0)), [])), (6, ((.c (.rt 9 0 0)), [])), (7, ((.c (.rt 11 0 0)), [])), (110, ((.c (.clo 96 [12])), []))] [111] (asG 93) (bdG 93) .busy none), x] ∧ br (!valL t n k) ( QE (bool false) [r0, r1, r2, r3, r4, r5, (.box (lChk (t) 1)), (.box (lift (lExit (e)))), (.box [(ci k)]), (.box [(.im (.v (.bool false)))]), (.set v), (.box [(.mp 10)]), (.box (lift (lExit (e)))), .dfr, (.loop 93 137 [(3, ((.c (.rt 6 0 0)), [])), (5, ((.c (.rt 8 0 0)), [])), (6, ((.c (.rt 9 0 0)), [])), (7, ((.c (.rt 11 0 0)), [])), (110, ((.c (.clo 96 [12])), []))] [111] (asG 93) (bdG 93) .done (some .ret)), x]) ( nd (inB n t.2.1) ( br ((t.ins.2 n.toNat).1 == 17) ( br (!elemI n v) ( QE (bool false) [r0, r1, r2, r3, r4, r5, (.box (lChk (t) 1)), (.box (lift (lExit (e)))), (.box [(ci k)]), (.box [(.im (.v (.bool false)))]), (.set v), (.box [(.mp 10)]), (.box (lift (lExit (e)))), .dfr, (.loop 93 137 [(3, ((.c (.rt 6 0 0)), [])), (5, ((.c (.rt 8 0 0)), [])), (6, ((.c (.rt 9 0 0)), [])), (7, ((.c (.rt 11 0 0)), [])), (110, ((.c (.clo 96 [12])), []))] [111] (asG 93) (bdG 93) .done (some .ret)), x]) ( QE (bool true) [r0, r1, r2, r3, r4, r5, (.box (lChk (t) 1)), (.box (lift (lExit (e)))), (.box [(ci k)]), (.box [(.im (.v (.bool false)))]), (.set v), (.box [(.mp 10)]), (.box (lift (lExit (e)))), .dfr, (.loop 93 137 [(3, ((.c (.rt 6 0 0)), [])), (5, ((.c (.rt 8 0 0)), [])), (6, ((.c (.rt 9 0 0)), [])), (7, ((.c (.rt 11 0 0)), [])), (110, ((.c (.clo 96 [12])), []))] [111] (asG 93) (bdG 93) .ready none), x])) ( QE (bool true) [r0, r1, r2, r3, r4, r5, (.box (lChk (t) 1)), (.box (lift (lExit (e)))), (.box [(ci k)]), (.box [(.im (.v (.bool false)))]), (.set v), (.box [(.mp 10)]), (.box (lift (lExit (e)))), .dfr, (.loop 93 137 [(3, ((.c (.rt 6 0 0)), [])), (5, ((.c (.rt 8 0 0)), [])), (6, ((.c (.rt 9 0 0)), [])), (7, ((.c (.rt 11 0 0)), [])), (110, ((.c (.clo 96 [12])), []))] [111] (asG 93) (bdG 93) .ready none), x]))))) ( QE (bool true) [r0, r1, r2, r3, r4, r5, (.box (lChk (t) 1)), (.box (lift (lExit (e)))), (.box [(ci k)]), (.box [(.im (.v (.bool false)))]), (.set v), (.box [(.mp 10)]), (.box (lift (lExit (e)))), .dfr, (.loop 93 137 [(3, ((.c (.rt 6 0 0)), [])), (5, ((.c (.rt 8 0 0)), [])), (6, ((.c (.rt 9 0 0)), [])), (7, ((.c (.rt 11 0 0)), [])), (110, ((.c (.clo 96 [12])), []))] [111] (asG 93) (bdG 93) .ready none), x])) : vcY X8 93 14 QE ((111, int n, []) :: sl93) [r0, r1, r2, r3, r4, r5, .box (lChk t 1), .box (lift (lExit e)), .box [.im (iI k)], .box [.im (iB false)], .set v, .box [.mp 10], .box (lift (lExit e)), .dfr, .loop 93 137 sl93 [111] (asG 93) (bdG 93) .ready none, x] := Eq.mp (by kernel_rfl) h
theorem y93 (t : TraceL) (e : ExitL) (k n : Int) (v : List Int) (r0 r1 r2 r3 r4 r5 : Root) (x : Root) (hk : k ≤ t.ins.n) : YCon tab Tryz.prog 14 [int n] [r0, r1, r2, r3, r4, r5, .box (lChk t 1), .box (lift (lExit e)), .box [.im (iI k)], .box [.im (iB false)], .set v, .box [.mp 10], .box (lift (lExit e)), .dfr, .loop 93 137 sl93 [111] (asG 93) (bdG 93) .ready none, x] (bool (useL t k v n)) [r0, r1, r2, r3, r4, r5, .box (lChk t 1), .box (lift (lExit e)), .box [.im (iI k)], .box [.im (iB false)], .set v, .box [.mp 10], .box (lift (lExit e)), .dfr, .loop 93 137 sl93 [111] (asG 93) (bdG 93) (bif useL t k v n then .ready else .done) (bif useL t k v n then none else some .ret), x] := by
  refine y_con (X := X8) (f := 93) (sl0 := sl93) (sl1 := (111, int n, []) :: sl93) (ps := [111]) (by kernel_rfl) (by kernel_rfl) (vcy93 _ t e k n v r0 r1 r2 r3 r4 r5 x ?_)
  refine br_mk (fun h => ?_) (fun h => ?_)
  · have h : (n == -1) = false := (Bool.not_eq_true' _).mp h
    refine ⟨con92_16 _ _ _ _ _ _ _ _ _ _ _ _ _ _ _ _ _ _ _ hk, ?_⟩
    refine br_mk (fun h1 => ?_) (fun h1 => nd_mk (valL_in (by simpa using h1) hk) ?_)
    · have e1 : useL t k v n = false := by simp only [useL, h, show valL t n k = false from by simpa using h1, boolL]
      rw [e1]
      exact ⟨16, nlb rfl, nlb rfl, rfl, rfl, DLe.refl _, by repeat' (first | exact trivial | refine ⟨.inl (.inl rfl), ?_⟩ | refine ⟨.inl (.inr ⟨_, _, _, _, _, _, _, _, _, _, rfl, rfl⟩), ?_⟩ | done)⟩
    · have h1 : valL t n k = true := by simpa using h1
      refine br_mk (fun h2 => br_mk (fun h3 => ?_) (fun h3 => ?_)) (fun h2 => ?_)
      · have e1 : useL t k v n = false := by simp only [useL, h, h1, show ((t.ins.get n.toNat).op == 17) = true from h2, show (!elemI n v) = true from h3, boolL]
        rw [e1]
        exact ⟨16, nlb rfl, nlb rfl, rfl, rfl, DLe.refl _, by repeat' (first | exact trivial | refine ⟨.inl (.inl rfl), ?_⟩ | refine ⟨.inl (.inr ⟨_, _, _, _, _, _, _, _, _, _, rfl, rfl⟩), ?_⟩ | done)⟩
      · have e1 : useL t k v n = true := by simp only [useL, h, h1, show ((t.ins.get n.toNat).op == 17) = true from h2, show (!elemI n v) = false from h3, boolL]
        rw [e1]
        exact ⟨16, nlb rfl, nlb rfl, rfl, rfl, DLe.refl _, by repeat' (first | exact trivial | refine ⟨.inl (.inl rfl), ?_⟩ | refine ⟨.inl (.inr ⟨_, _, _, _, _, _, _, _, _, _, rfl, rfl⟩), ?_⟩ | done)⟩
      · have e1 : useL t k v n = true := by simp only [useL, h, h1, show ((t.ins.get n.toNat).op == 17) = false from h2, boolL]
        rw [e1]
        exact ⟨16, nlb rfl, nlb rfl, rfl, rfl, DLe.refl _, by repeat' (first | exact trivial | refine ⟨.inl (.inl rfl), ?_⟩ | refine ⟨.inl (.inr ⟨_, _, _, _, _, _, _, _, _, _, rfl, rfl⟩), ?_⟩ | done)⟩
  · have h : (n == -1) = true := (Bool.not_eq_false' _ ▸ h : (n == -1) = true)
    have e1 : useL t k v n = true := by simp only [useL, h, boolL]
    rw [e1]
    exact ⟨16, nlb rfl, nlb rfl, rfl, rfl, DLe.refl _, by repeat' (first | exact trivial | refine ⟨.inl (.inl rfl), ?_⟩ | refine ⟨.inl (.inr ⟨_, _, _, _, _, _, _, _, _, _, rfl, rfl⟩), ?_⟩ | done)⟩
theorem lp93_20 (p : Bool) (t : TraceL) (e : ExitL) (k : Int) (r0 r1 r2 r3 r4 r5 : Root) (hk : k ≤ t.ins.n) (hS : SmallE e) (hw : LowRs 6 [r0, r1, r2, r3, r4, r5]) (v : List Int) (a : Bool) (hp : p = allM (useL t k v) e) (ha : p = a) : GoalF 93 6 (Go.V.Ends [r0, r1, r2, r3, r4, r5] (bool a) [r0, r1, r2, r3, r4, r5]) (todoG 93 20) (st93_20 p t e k r0 r1 r2 r3 r4 r5 v) := by
  have c := con96 (useL t k v) e (r0) (r1) (r2) (r3) (r4) (r5) (.box (lChk t 1)) (.box (lift (lExit e))) (.box [.im (iI k)]) (.box [.im (iB false)]) (.set v) (.box [.mp 10]) (.dfr) 93 137 sl93 [111] (asG 93) (bdG 93) (fun n x => y93 t e k n v r0 r1 r2 r3 r4 r5 x hk) hS ⟨(hw.1).mono (by decide), (hw.2.1).mono (by decide), (hw.2.2.1).mono (by decide), (hw.2.2.2.1).mono (by decide), (hw.2.2.2.2.1).mono (by decide), (hw.2.2.2.2.2.1).mono (by decide), .inl rfl, .inl rfl, .inl rfl, .inl rfl, .inl rfl, .inl rfl, .inl rfl, .inl rfl, loop_low rfl, trivial⟩
  refine reachR (X := X93 p) (stop := sp93) (vc93_20 _ _ p t e k r0 r1 r2 r3 r4 r5 v ⟨con56 _ _ _ _ _ _ _ _ _ _ _ _ _, ?_⟩)
  rw [← hp] at c
  refine br_mk (fun h => ⟨?_, ?_⟩) (fun h => ⟨?_, ?_⟩)
  · rw [h] at c; exact c
  · rw [← ha, h]; exact ⟨6, nlb rfl, nlb rfl, rfl, rfl, DLe.refl _, endsR_refl _ _⟩
  · rw [h] at c; exact c
  · rw [← ha, h]; exact ⟨6, nlb rfl, nlb rfl, rfl, rfl, DLe.refl _, endsR_refl _ _⟩
theorem lp93_15 (p : Bool) (t : TraceL) (e : ExitL) (k : Int) (r0 r1 r2 r3 r4 r5 : Root) (hk : k ≤ t.ins.n) (hS : SmallE e) (hw : LowRs 6 [r0, r1, r2, r3, r4, r5]) (v : List Int) (a : Bool) (hN : e.frames.n ≤ 6) (hp : p = allM (useL t k v) e) : ∀ j, j ≤ e.frames.n → (scanA (fun j => frR (e.frames.get j)) (e.frames.n - j) j && p) = a → GoalF 93 6 (Go.V.Ends [r0, r1, r2, r3, r4, r5] (bool a) [r0, r1, r2, r3, r4, r5]) (todoG 93 15) (st93_15 p t e k r0 r1 r2 r3 r4 r5 v j) := by
  refine count_rule (fun j hj ih ha => ?_) (fun ha => ?_)
  · have q : e.frames.n - j = (e.frames.n - (j + 1)) + 1 := by omega
    rw [q] at ha
    have no : frR (e.frames.get j) = false → a = false := fun q => by rw [scanA_false (p := fun j => frR (e.frames.get j)) q, Bool.false_and] at ha; exact ha.symm
    have go : frR (e.frames.get j) = true → GoalF 93 6 (Go.V.Ends [r0, r1, r2, r3, r4, r5] (bool a) [r0, r1, r2, r3, r4, r5]) (todoG 93 15) (st93_15 p t e k r0 r1 r2 r3 r4 r5 v (j + 1)) := fun q => by rw [scanA_true (p := fun j => frR (e.frames.get j)) q] at ha; exact ih ha
    refine reachR (X := X93 p) (stop := sp93) (vc93_15 _ _ p t e k r0 r1 r2 r3 r4 r5 v j ?_)
    rw [wrap1 hj (Nat.le_trans hN (by decide))]
    refine br_mk (fun h => ?_) (fun h => (dec_lt h hj).elim)
    refine nd_mk (inB_nat hj) ?_
    refine br_mk (fun h1 => ?_) (fun h1 => br_mk (fun h2 => ?_) (fun h2 => br_mk (fun h3 => ?_) (fun h3 => ?_)))
    · rw [no (by simp only [frR, show decide ((e.frames.get j).fn < 0) = true from h1, boolL])]; exact ⟨6, nlb rfl, nlb rfl, rfl, rfl, DLe.refl _, endsR_refl _ _⟩
    · rw [no (by simp only [frR, show decide ((e.frames.get j).line < 0) = true from h2, boolL])]; exact ⟨6, nlb rfl, nlb rfl, rfl, rfl, DLe.refl _, endsR_refl _ _⟩
    · rw [no (by simp only [frR, show decide (((e.frames.get j).vars.n : Int) > 24) = true from h3, boolL])]; exact ⟨6, nlb rfl, nlb rfl, rfl, rfl, DLe.refl _, endsR_refl _ _⟩
    · refine GoalF.cut 12 (nlb rfl) (nlb rfl) rfl rfl ⟨(hw.1).mono (by decide), (hw.2.1).mono (by decide), (hw.2.2.1).mono (by decide), (hw.2.2.2.1).mono (by decide), (hw.2.2.2.2.1).mono (by decide), (hw.2.2.2.2.2.1).mono (by decide), .inl rfl, .inl rfl, .inl rfl, .inl rfl, .inl rfl, .inl rfl, trivial⟩ (go ?_)
      simp only [frR, show decide ((e.frames.get j).fn < 0) = false from h1, show decide ((e.frames.get j).line < 0) = false from h2, show decide (((e.frames.get j).vars.n : Int) > 24) = false from h3, boolL]
  · rw [Nat.sub_self] at ha
    refine reachR (X := X93 p) (stop := sp93) (vc93_15 _ _ p t e k r0 r1 r2 r3 r4 r5 v _ ?_)
    refine br_mk (fun h => lt_self h) (fun h => ?_)
    exact GoalF.le (st93_20 p t e k r0 r1 r2 r3 r4 r5 v) (by repeat' (first | exact trivial | refine wk1 rfl ?_)) (rc (rc (rc (rc (rc (rc (rc (rc (rc (rc (rc (rc (.nil))))))))))))) rfl (lp93_20 p t e k r0 r1 r2 r3 r4 r5 hk hS hw v a hp (by simpa [scanA] using ha))
theorem lp93_5 (p : Bool) (t : TraceL) (e : ExitL) (k : Int) (r0 r1 r2 r3 r4 r5 : Root) (hk : k ≤ t.ins.n) (hS : SmallE e) (hw : LowRs 6 [r0, r1, r2, r3, r4, r5]) (a : Bool) (hN : e.frames.n ≤ 6) (hp : p = allM (useL t k (vset e.objs e.objs.n)) e) : ∀ j, j ≤ e.objs.n → (scanA (obL t e k) (e.objs.n - j) j && (allF (fun j => frR (e.frames.get j)) e.frames.n && p)) = a → GoalF 93 6 (Go.V.Ends [r0, r1, r2, r3, r4, r5] (bool a) [r0, r1, r2, r3, r4, r5]) (todoG 93 5) (st93_5 p t e k r0 r1 r2 r3 r4 r5 (vset e.objs j) j) := by
  have hO := hS.objs
  refine count_rule (fun j hj ih ha => ?_) (fun ha => ?_)
  · have q : e.objs.n - j = (e.objs.n - (j + 1)) + 1 := by omega
    rw [q] at ha
    have no : obL t e k j = false → a = false := fun q => by rw [scanA_false q, Bool.false_and] at ha; exact ha.symm
    have go : obL t e k j = true → GoalF 93 6 (Go.V.Ends [r0, r1, r2, r3, r4, r5] (bool a) [r0, r1, r2, r3, r4, r5]) (todoG 93 5) (st93_5 p t e k r0 r1 r2 r3 r4 r5 (vset e.objs (j + 1)) (j + 1)) := fun q => by rw [scanA_true q] at ha; exact ih ha
    refine reachR (X := X93 p) (stop := sp93) (vc93_5 _ _ p t e k r0 r1 r2 r3 r4 r5 (vset e.objs j) j ?_)
    rw [wrap1 hj (Nat.le_trans hO (by decide))]
    refine br_mk (fun h => ?_) (fun h => (dec_lt h hj).elim)
    refine nd_mk (inB_nat hj) ⟨con92_13 _ _ _ _ _ _ _ _ _ _ _ _ _ _ _ _ hk, ?_⟩
    refine br_mk (fun h1 => ?_) (fun h1 => ?_)
    · rw [no (by simp only [obL, show (!valL t (e.objs.get j).value k) = true from h1, boolL])]; exact ⟨6, nlb rfl, nlb rfl, rfl, rfl, DLe.refl _, endsR_refl _ _⟩
    have h1 : valL t (e.objs.get j).value k = true := by simpa using h1
    refine br_mk (fun h2 => ?_) (fun h2 => ?_)
    · rw [no (by simp only [obL, h1, show elemI (e.objs.get j).value (vset e.objs j) = true from h2, boolL])]; exact ⟨6, nlb rfl, nlb rfl, rfl, rfl, DLe.refl _, endsR_refl _ _⟩
    have h2 : elemI (e.objs.get j).value (vset e.objs j) = false := h2
    refine br_mk (fun h3 => ?_) (fun h3 => nd_mk (valL_in h1 hk) ?_)
    · rw [no (by simp only [obL, h1, h2, show (((e.objs.get j).items.n : Int) != ((e.objs.get j).names.n : Int)) = true from h3, boolL])]; exact ⟨6, nlb rfl, nlb rfl, rfl, rfl, DLe.refl _, endsR_refl _ _⟩
    have h3 : (((e.objs.get j).items.n : Int) != ((e.objs.get j).names.n : Int)) = false := h3
    refine br_mk (fun h4 => ?_) (fun h4 => ?_)
    · rw [no (by simp only [obL, h1, h2, h3, show ((t.ins.get (e.objs.get j).value.toNat).op != 17) = true from h4, boolL])]; exact ⟨6, nlb rfl, nlb rfl, rfl, rfl, DLe.refl _, endsR_refl _ _⟩
    have h4 : ((t.ins.get (e.objs.get j).value.toNat).op != 17) = false := h4
    refine br_mk (fun h5 => ?_) (fun h5 => ⟨con72 _ _, ?_⟩)
    · rw [no (by simp only [obL, h1, h2, h3, h4, show ((t.ins.get (e.objs.get j).value.toNat).n != (e.objs.get j).cls) = true from h5, boolL])]; exact ⟨6, nlb rfl, nlb rfl, rfl, rfl, DLe.refl _, endsR_refl _ _⟩
    have h5 : ((t.ins.get (e.objs.get j).value.toNat).n != (e.objs.get j).cls) = false := h5
    refine br_mk (fun h6 => ?_) (fun h6 => ?_)
    · rw [no (by simp only [obL, h1, h2, h3, h4, h5, show (!sameSq eqS (t.ins.get (e.objs.get j).value.toNat).names (e.objs.get j).names) = true from h6, boolL])]; exact ⟨6, nlb rfl, nlb rfl, rfl, rfl, DLe.refl _, endsR_refl _ _⟩
    have h6 : (!sameSq eqS (t.ins.get (e.objs.get j).value.toNat).names (e.objs.get j).names) = false := h6
    refine GoalF.cut 12 (nlb rfl) (nlb rfl) rfl rfl ⟨(hw.1).mono (by decide), (hw.2.1).mono (by decide), (hw.2.2.1).mono (by decide), (hw.2.2.2.1).mono (by decide), (hw.2.2.2.2.1).mono (by decide), (hw.2.2.2.2.2.1).mono (by decide), .inl rfl, .inl rfl, .inl rfl, .inl rfl, .inl rfl, .inl rfl, trivial⟩ (go ?_)
    simp only [obL, h1, h2, h3, h4, h5, h6, boolL]
  · rw [Nat.sub_self] at ha
    refine reachR (X := X93 p) (stop := sp93) (vc93_5 _ _ p t e k r0 r1 r2 r3 r4 r5 (vset e.objs _) _ ?_)
    refine br_mk (fun h => lt_self h) (fun h => ?_)
    exact lp93_15 p t e k r0 r1 r2 r3 r4 r5 hk hS hw _ a hN hp 0 (Nat.zero_le _) (by simpa [scanA, allF] using ha)
theorem con93 (t : TraceL) (e : ExitL) (k : Int) (r0 r1 r2 r3 r4 r5 : Root) (hk : k ≤ t.ins.n) (hS : SmallE e) (hw : LowRs 6 [r0, r1, r2, r3, r4, r5]) : LC 93 [dChk t 1, dExit e, int k] [r0, r1, r2, r3, r4, r5] (bool (exitL t e k)) [r0, r1, r2, r3, r4, r5] := by
  refine root_con fn93 (nlb (by kernel_rfl)) (reachF (X := X93 (allM (useL t k (vset e.objs e.objs.n)) e)) (stop := sp93) (vc93 _ _ (allM (useL t k (vset e.objs e.objs.n)) e) t e k r0 r1 r2 r3 r4 r5 ?_))
  refine br_mk (fun h1 => ?_) (fun h1 => br_mk (fun h2 => ?_) (fun h2 => br_mk (fun h3 => ?_) (fun h3 => ?_)))
  · rw [show exitL t e k = false from by simp only [exitL, show decide ((e.frames.n : Int) < 1) = true from h1, boolL]]; exact ⟨6, nlb rfl, nlb rfl, rfl, rfl, DLe.refl _, endsR_refl _ _⟩
  · rw [show exitL t e k = false from by simp only [exitL, show decide ((e.frames.n : Int) > 6) = true from h2, boolL]]; exact ⟨6, nlb rfl, nlb rfl, rfl, rfl, DLe.refl _, endsR_refl _ _⟩
  · rw [show exitL t e k = false from by simp only [exitL, show decide (e.back < 0) = true from h3, boolL]]; exact ⟨6, nlb rfl, nlb rfl, rfl, rfl, DLe.refl _, endsR_refl _ _⟩
  · have hN : e.frames.n ≤ 6 := by have := of_decide_eq_false h2; omega
    refine lp93_5 _ t e k r0 r1 r2 r3 r4 r5 hk hS hw _ hN rfl 0 (Nat.zero_le _) ?_
    simp only [exitL, allF, Nat.sub_zero, show decide ((e.frames.n : Int) < 1) = false from h1, show decide ((e.frames.n : Int) > 6) = false from h2, show decide (e.back < 0) = false from h3, boolL]
open Go Go.V
noncomputable def b3 (t : TraceL) (k : Nat) : Bool := !(endsI (t.ins.get k) != ((k : Int) == (t.ins.n : Int) - 1)) && (fieldsL (t.ins.get k) && !((t.ins.get k).once && !memL (t.ins.get k).op [2, 3, 4, 5, 6, 7, 8, 9, 10, 12, 14]))
noncomputable def b7 (t : TraceL) (k : Nat) : Bool := !((t.ins.get k).op == 1 && (decide ((k : Int) ≥ (parL t.ins : Int)) || (decide ((k : Int) > 0) && decide ((t.ins.get k).k.n ≤ (t.ins.get (k - 1)).k.n))))
noncomputable def b9 (t : TraceL) (k : Nat) : Bool := !((t.ins.get k).op == 20 && (((t.ins.get k).args.n : Int) != (parL t.ins : Int)))
noncomputable def b11 (t : TraceL) (k : Nat) : Bool := !decide ((t.ins.get k).exit < -1) && (!decide ((t.ins.get k).exit ≥ (t.exits.n : Int)) && (!(decide ((t.ins.get k).exit ≥ 0) && !mayL (t.ins.get k).op) && !(decide ((t.ins.get k).exit < 0) && memL (t.ins.get k).op [5, 6, 7, 8, 9, 15, 18, 21])))
noncomputable def o15 (t : TraceL) (l : List Int) (k : Nat) : Bool × List Int := bif decide ((t.ins.get k).exit < 0) then (true, l) else bif elemI (t.ins.get k).exit l then (false, l) else (exitL t (t.exits.get (t.ins.get k).exit.toNat) k, addI (t.ins.get k).exit l)
noncomputable def o13 (t : TraceL) (l : List Int) (k : Nat) : Bool × List Int := bif a16 t k then o15 t l k else (false, l)
noncomputable def o11 (t : TraceL) (l : List Int) (k : Nat) : Bool × List Int := bif b11 t k then o13 t l k else (false, l)
noncomputable def o9 (t : TraceL) (l : List Int) (k : Nat) : Bool × List Int := bif b9 t k then o11 t l k else (false, l)
noncomputable def o7 (t : TraceL) (l : List Int) (k : Nat) : Bool × List Int := bif b7 t k then o9 t l k else (false, l)
noncomputable def o3 (t : TraceL) (l : List Int) (k : Nat) : Bool × List Int := bif b3 t k then o7 t l k else (false, l)
def setR (x : Option Root) : List Int := match x with
  | some (.set l) => l
  | _ => []
noncomputable def F9L : AnsL := [
  (93, fun ds rs => (bool (exitL (aTrace ds 0) (aExit ds 1) (aI ds 2)), [], [])),
  (50, fun ds rs => (bool (o3 (aTrace ds 0) (setR (nthF rs 1)) (aI ds 1).toNat).1, [(1, .set (o3 (aTrace ds 0) (setR (nthF rs 1)) (aI ds 1).toNat).2)], []))]
noncomputable def F9 := ext F8 F9L
noncomputable def X18 : Spc := { F := F9, S := [1] }
def sp50 : Nat → Bool := fun i => Nat.beq i 3 || Nat.beq i 7 || Nat.beq i 9 || Nat.beq i 11 || Nat.beq i 13 || Nat.beq i 14
theorem fn50 : Fn 50 := ⟨by kernel_rfl, by kernel_rfl⟩
theorem vc50 (L : LP) (QE : D → List Root → Prop) (t : TraceL) (r0 r2 : Root) (l : List Int) (k : Nat) (h : nd (inB (↑k : Int) t.2.1) ( L (todoG 50 3) ⟨[(1, ((int (↑k : Int)), [])), (2, ((int ((↑(parL t.2) : Int))), [])), (3, ((.c (.rt 3 0 0)), [])), (7, ((.c (.rt 4 0 0)), [])), (8, ((bool ((↑k : Int) == IntKind.i64.wrap ((↑t.2.1 : Int) - 1))), []))], [r0, (.set l), r2, (.box (lChk (t) 1)), (.box (lift (lIns (t.ins.2 k))))], []⟩)) : vcF X18 50 sp50 L QE [dChk t 1, int k, int (parL t.ins)] [r0, .set l, r2] := Eq.mp (by kernel_rfl) h
noncomputable def st50_3 (t : TraceL) (r0 r2 : Root) (l : List Int) (k : Nat)  : VS := ⟨[(1, (.c (.im (.v (.int .i64 (↑k : Int))))), []), (2, (.c (.im (.v (.int .i64 ((↑(parL t.2) : Int)))))), []), (3, (.c (.rt 3 0 0)), []), (7, (.c (.rt 4 0 0)), []), (8, (.c (.im (.v (.bool ((↑k : Int) == IntKind.i64.wrap ((↑t.2.1 : Int) - 1)))))), [])], [r0, (.set l), r2, (.box (lChk (t) 1)), (.box (lift (lIns (t.ins.2 k))))], []⟩
theorem vc50_3 (L : LP) (QE : D → List Root → Prop) (t : TraceL) (r0 r2 : Root) (l : List Int) (k : Nat)  (h : br ((t.ins.2 k).1 == 20) ( br (!true == ((↑k : Int) == IntKind.i64.wrap ((↑t.2.1 : Int) - 1))) ( QE (bool false) [r0, (.set l), r2, (.box (lChk (t) 1)), (.box (lift (lIns (t.ins.2 k))))]) ( ( LC 88 [(.a (lift (lIns (t.ins.2 k))))] [] (bool (fieldsL (t.ins.2 k))) [] ∧ br (!fieldsL (t.ins.2 k)) ( QE (bool false) [r0, (.set l), r2, (.box (lChk (t) 1)), (.box (lift (lIns (t.ins.2 k))))]) ( br ((t.ins.2 k).11) ( ( LC 89 [(int ((t.ins.2 k).1))] [] (bool (memL (t.ins.2 k).1 [2, 3, 4, 5, 6, 7, 8, 9, 10, 12, 14])) [] ∧ br (!memL (t.ins.2 k).1 [2, 3, 4, 5, 6, 7, 8, 9, 10, 12, 14]) ( QE (bool false) [r0, (.set l), r2, (.box (lChk (t) 1)), (.box (lift (lIns (t.ins.2 k))))]) ( L (todoG 50 7) ⟨[(1, ((int (↑k : Int)), [])), (2, ((int ((↑(parL t.2) : Int))), [])), (3, ((.c (.rt 3 0 0)), [])), (7, ((.c (.rt 4 0 0)), [])), (24, ((bool false), []))], [r0, (.set l), r2, (.box (lChk (t) 1)), (.box (lift (lIns (t.ins.2 k))))], []⟩))) ( L (todoG 50 7) ⟨[(1, ((int (↑k : Int)), [])), (2, ((int ((↑(parL t.2) : Int))), [])), (3, ((.c (.rt 3 0 0)), [])), (7, ((.c (.rt 4 0 0)), [])), (24, ((bool false), []))], [r0, (.set l), r2, (.box (lChk (t) 1)), (.box (lift (lIns (t.ins.2 k))))], []⟩))))) ( br (!((t.ins.2 k).1 == 21) == ((↑k : Int) == IntKind.i64.wrap ((↑t.2.1 : Int) - 1))) ( QE (bool false) [r0, (.set l), r2, (.box (lChk (t) 1)), (.box (lift (lIns (t.ins.2 k))))]) ( ( LC 88 [(.a (lift (lIns (t.ins.2 k))))] [] (bool (fieldsL (t.ins.2 k))) [] ∧ br (!fieldsL (t.ins.2 k)) ( QE (bool false) [r0, (.set l), r2, (.box (lChk (t) 1)), (.box (lift (lIns (t.ins.2 k))))]) ( br ((t.ins.2 k).11) ( ( LC 89 [(int ((t.ins.2 k).1))] [] (bool (memL (t.ins.2 k).1 [2, 3, 4, 5, 6, 7, 8, 9, 10, 12, 14])) [] ∧ br (!memL (t.ins.2 k).1 [2, 3, 4, 5, 6, 7, 8, 9, 10, 12, 14]) ( QE (bool false) [r0, (.set l), r2, (.box (lChk (t) 1)), (.box (lift (lIns (t.ins.2 k))))]) ( L (todoG 50 7) ⟨[(1, ((int (↑k : Int)), [])), (2, ((int ((↑(parL t.2) : Int))), [])), (3, ((.c (.rt 3 0 0)), [])), (7, ((.c (.rt 4 0 0)), [])), (24, ((bool false), []))], [r0, (.set l), r2, (.box (lChk (t) 1)), (.box (lift (lIns (t.ins.2 k))))], []⟩))) ( L (todoG 50 7) ⟨[(1, ((int (↑k : Int)), [])), (2, ((int ((↑(parL t.2) : Int))), [])), (3, ((.c (.rt 3 0 0)), [])), (7, ((.c (.rt 4 0 0)), [])), (24, ((bool false), []))], [r0, (.set l), r2, (.box (lChk (t) 1)), (.box (lift (lIns (t.ins.2 k))))], []⟩)))))) : vcR X18 50 sp50 L QE 3 (st50_3 t r0 r2 l k ) := Eq.mp (by kernel_rfl) h
noncomputable def st50_7 (t : TraceL) (r0 r2 : Root) (l : List Int) (k : Nat)  : VS := ⟨[(1, (.c (.im (.v (.int .i64 (↑k : Int))))), []), (2, (.c (.im (.v (.int .i64 ((↑(parL t.2) : Int)))))), []), (3, (.c (.rt 3 0 0)), []), (7, (.c (.rt 4 0 0)), [])], [r0, (.set l), r2, (.box (lChk (t) 1)), (.box (lift (lIns (t.ins.2 k))))], []⟩
theorem vc50_7 (L : LP) (QE : D → List Root → Prop) (t : TraceL) (r0 r2 : Root) (l : List Int) (k : Nat)  (h : br ((t.ins.2 k).1 == 1) ( br (decide ((↑k : Int) ≥ (↑(parL t.2) : Int))) ( QE (bool false) [r0, (.set l), r2, (.box (lChk (t) 1)), (.box (lift (lIns (t.ins.2 k))))]) ( br (decide ((↑k : Int) > 0)) ( nd (inB (IntKind.i64.wrap ((↑k : Int) - 1)) t.2.1) ( br (decide ((t.ins.2 k).7.2 ≤ (t.ins.2 (IntKind.i64.wrap ((↑k : Int) - 1)).toNat).7.2)) ( QE (bool false) [r0, (.set l), r2, (.box (lChk (t) 1)), (.box (lift (lIns (t.ins.2 k))))]) ( L (todoG 50 9) ⟨[(1, ((int (↑k : Int)), [])), (2, ((int ((↑(parL t.2) : Int))), [])), (3, ((.c (.rt 3 0 0)), [])), (7, ((.c (.rt 4 0 0)), [])), (46, ((bool false), []))], [r0, (.set l), r2, (.box (lChk (t) 1)), (.box (lift (lIns (t.ins.2 k))))], []⟩))) ( L (todoG 50 9) ⟨[(1, ((int (↑k : Int)), [])), (2, ((int ((↑(parL t.2) : Int))), [])), (3, ((.c (.rt 3 0 0)), [])), (7, ((.c (.rt 4 0 0)), [])), (46, ((bool false), []))], [r0, (.set l), r2, (.box (lChk (t) 1)), (.box (lift (lIns (t.ins.2 k))))], []⟩))) ( L (todoG 50 9) ⟨[(1, ((int (↑k : Int)), [])), (2, ((int ((↑(parL t.2) : Int))), [])), (3, ((.c (.rt 3 0 0)), [])), (7, ((.c (.rt 4 0 0)), [])), (46, ((bool false), []))], [r0, (.set l), r2, (.box (lChk (t) 1)), (.box (lift (lIns (t.ins.2 k))))], []⟩)) : vcR X18 50 sp50 L QE 7 (st50_7 t r0 r2 l k ) := Eq.mp (by kernel_rfl) h
noncomputable def st50_9 (t : TraceL) (r0 r2 : Root) (l : List Int) (k : Nat)  : VS := ⟨[(1, (.c (.im (.v (.int .i64 (↑k : Int))))), []), (2, (.c (.im (.v (.int .i64 ((↑(parL t.2) : Int)))))), []), (3, (.c (.rt 3 0 0)), []), (7, (.c (.rt 4 0 0)), [])], [r0, (.set l), r2, (.box (lChk (t) 1)), (.box (lift (lIns (t.ins.2 k))))], []⟩
theorem vc50_9 (L : LP) (QE : D → List Root → Prop) (t : TraceL) (r0 r2 : Root) (l : List Int) (k : Nat)  (h : br ((t.ins.2 k).1 == 20) ( br ((↑(t.ins.2 k).6.1 : Int) != (↑(parL t.2) : Int)) ( QE (bool false) [r0, (.set l), r2, (.box (lChk (t) 1)), (.box (lift (lIns (t.ins.2 k))))]) ( L (todoG 50 11) ⟨[(1, ((int (↑k : Int)), [])), (3, ((.c (.rt 3 0 0)), [])), (7, ((.c (.rt 4 0 0)), [])), (74, ((bool false), []))], [r0, (.set l), r2, (.box (lChk (t) 1)), (.box (lift (lIns (t.ins.2 k))))], []⟩)) ( L (todoG 50 11) ⟨[(1, ((int (↑k : Int)), [])), (3, ((.c (.rt 3 0 0)), [])), (7, ((.c (.rt 4 0 0)), [])), (74, ((bool false), []))], [r0, (.set l), r2, (.box (lChk (t) 1)), (.box (lift (lIns (t.ins.2 k))))], []⟩)) : vcR X18 50 sp50 L QE 9 (st50_9 t r0 r2 l k ) := Eq.mp (by kernel_rfl) h
noncomputable def st50_11 (t : TraceL) (r0 r2 : Root) (l : List Int) (k : Nat)  : VS := ⟨[(1, (.c (.im (.v (.int .i64 (↑k : Int))))), []), (3, (.c (.rt 3 0 0)), []), (7, (.c (.rt 4 0 0)), [])], [r0, (.set l), r2, (.box (lChk (t) 1)), (.box (lift (lIns (t.ins.2 k))))], []⟩
theorem vc50_11 (L : LP) (QE : D → List Root → Prop) (t : TraceL) (r0 r2 : Root) (l : List Int) (k : Nat)  (h : br (decide ((t.ins.2 k).10 < -1)) ( QE (bool false) [r0, (.set l), r2, (.box (lChk (t) 1)), (.box (lift (lIns (t.ins.2 k))))]) ( br (decide ((t.ins.2 k).10 ≥ (↑t.3.1 : Int))) ( QE (bool false) [r0, (.set l), r2, (.box (lChk (t) 1)), (.box (lift (lIns (t.ins.2 k))))]) ( br (decide ((t.ins.2 k).10 ≥ 0)) ( ( LC 90 [(int ((t.ins.2 k).1))] [] (bool (mayL (t.ins.2 k).1)) [] ∧ br (!mayL (t.ins.2 k).1) ( QE (bool false) [r0, (.set l), r2, (.box (lChk (t) 1)), (.box (lift (lIns (t.ins.2 k))))]) ( br (decide ((t.ins.2 k).10 < 0)) ( ( LC 91 [(int ((t.ins.2 k).1))] [] (bool (memL (t.ins.2 k).1 [5, 6, 7, 8, 9, 15, 18, 21])) [] ∧ br (memL (t.ins.2 k).1 [5, 6, 7, 8, 9, 15, 18, 21]) ( QE (bool false) [r0, (.set l), r2, (.box (lChk (t) 1)), (.box (lift (lIns (t.ins.2 k))))]) ( L (todoG 50 13) ⟨[(1, ((int (↑k : Int)), [])), (3, ((.c (.rt 3 0 0)), [])), (7, ((.c (.rt 4 0 0)), [])), (85, ((bool false), []))], [r0, (.set l), r2, (.box (lChk (t) 1)), (.box (lift (lIns (t.ins.2 k))))], []⟩))) ( L (todoG 50 13) ⟨[(1, ((int (↑k : Int)), [])), (3, ((.c (.rt 3 0 0)), [])), (7, ((.c (.rt 4 0 0)), [])), (85, ((bool false), []))], [r0, (.set l), r2, (.box (lChk (t) 1)), (.box (lift (lIns (t.ins.2 k))))], []⟩)))) ( br (decide ((t.ins.2 k).10 < 0)) ( ( LC 91 [(int ((t.ins.2 k).1))] [] (bool (memL (t.ins.2 k).1 [5, 6, 7, 8, 9, 15, 18, 21])) [] ∧ br (memL (t.ins.2 k).1 [5, 6, 7, 8, 9, 15, 18, 21]) ( QE (bool false) [r0, (.set l), r2, (.box (lChk (t) 1)), (.box (lift (lIns (t.ins.2 k))))]) ( L (todoG 50 13) ⟨[(1, ((int (↑k : Int)), [])), (3, ((.c (.rt 3 0 0)), [])), (7, ((.c (.rt 4 0 0)), [])), (85, ((bool false), []))], [r0, (.set l), r2, (.box (lChk (t) 1)), (.box (lift (lIns (t.ins.2 k))))], []⟩))) ( L (todoG 50 13) ⟨[(1, ((int (↑k : Int)), [])), (3, ((.c (.rt 3 0 0)), [])), (7, ((.c (.rt 4 0 0)), [])), (85, ((bool false), []))], [r0, (.set l), r2, (.box (lChk (t) 1)), (.box (lift (lIns (t.ins.2 k))))], []⟩))))) : vcR X18 50 sp50 L QE 11 (st50_11 t r0 r2 l k ) := Eq.mp (by kernel_rfl) h
noncomputable def st50_13 (t : TraceL) (r0 r2 : Root) (l : List Int) (k : Nat)  : VS := ⟨[(1, (.c (.im (.v (.int .i64 (↑k : Int))))), []), (3, (.c (.rt 3 0 0)), []), (7, (.c (.rt 4 0 0)), [])], [r0, (.set l), r2, (.box (lChk (t) 1)), (.box (lift (lIns (t.ins.2 k))))], []⟩
theorem vc50_13 (L : LP) (QE : D → List Root → Prop) (t : TraceL) (r0 r2 : Root) (l : List Int) (k : Nat)  (h : ( LC 55 [(.a (lift (lIns (t.ins.2 k))))] [] (.c (.im (.sl 1 ((usedL (t.ins.2 k)).1) (fun i => eInt ((usedL (aIns [D.a (lift [iI (t.ins.get k).op, iI (t.ins.get k).a, iI (t.ins.get k).b, iI (t.ins.get k).c, iI (t.ins.get k).n, sqI 1 eInt (t.ins.get k).args, iI (t.ins.get k).k.kind, iI (t.ins.get k).k.n, iS (t.ins.get k).k.s, sqI 1 eStr (t.ins.get k).names, iI (t.ins.get k).place.fn, iI (t.ins.get k).place.line, iI (t.ins.get k).exit, iB (t.ins.get k).once])] 0)).2 i))))) [] ∧ L (todoG 50 14) ⟨[(1, ((int (↑k : Int)), [])), (3, ((.c (.rt 3 0 0)), [])), (7, ((.c (.rt 4 0 0)), [])), (120, ((.c (.im (.sl 1 ((usedL (t.ins.2 k)).1) (fun i => eInt ((usedL (aIns [D.a (lift [iI (t.ins.get k).op, iI (t.ins.get k).a, iI (t.ins.get k).b, iI (t.ins.get k).c, iI (t.ins.get k).n, sqI 1 eInt (t.ins.get k).args, iI (t.ins.get k).k.kind, iI (t.ins.get k).k.n, iS (t.ins.get k).k.s, sqI 1 eStr (t.ins.get k).names, iI (t.ins.get k).place.fn, iI (t.ins.get k).place.line, iI (t.ins.get k).exit, iB (t.ins.get k).once])] 0)).2 i))))), [])), (121, ((int ((↑(usedL (t.ins.2 k)).1 : Int))), [])), (122, ((int 0), []))], [r0, (.set l), r2, (.box (lChk (t) 1)), (.box (lift (lIns (t.ins.2 k))))], []⟩)) : vcR X18 50 sp50 L QE 13 (st50_13 t r0 r2 l k ) := Eq.mp (by kernel_rfl) h
noncomputable def st50_14 (t : TraceL) (r0 r2 : Root) (l : List Int) (k : Nat) (j : Nat) : VS := ⟨[(1, (.c (.im (.v (.int .i64 (↑k : Int))))), []), (3, (.c (.rt 3 0 0)), []), (7, (.c (.rt 4 0 0)), []), (120, dSq 1 eInt (usedL (t.ins.get k)), []), (121, (.c (.im (.v (.int .i64 ((↑(usedL (t.ins.2 k)).1 : Int)))))), []), (122, int j, [])], [r0, (.set l), r2, (.box (lChk (t) 1)), (.box (lift (lIns (t.ins.2 k))))], []⟩
theorem vc50_14 (L : LP) (QE : D → List Root → Prop) (t : TraceL) (r0 r2 : Root) (l : List Int) (k : Nat) (j : Nat) (h : br (decide ((↑j : Int) < (↑(usedL (t.ins.2 k)).1 : Int))) ( nd (inB (↑j : Int) (usedL (t.ins.2 k)).1) ( ( LC 92 [(.a (lChk (t) 1)), (int ((usedL (t.ins.get k)).2 j)), (int (↑k : Int))] [r0, (.set l), r2, (.box (lChk (t) 1)), (.box (lift (lIns (t.ins.2 k))))] (bool (valL t ((usedL (t.ins.get k)).2 j) (Int.ofNat k))) [r0, (.set l), r2, (.box (lChk (t) 1)), (.box (lift (lIns (t.ins.2 k))))] ∧ br (!valL t ((usedL (t.ins.get k)).2 j) (Int.ofNat k)) ( QE (bool false) [r0, (.set l), r2, (.box (lChk (t) 1)), (.box (lift (lIns (t.ins.2 k))))]) ( nd (inB ((usedL (t.ins.get k)).2 j) t.2.1) ( br ((t.ins.2 ((usedL (t.ins.get k)).2 j).toNat).1 == 17) ( QE (bool false) [r0, (.set l), r2, (.box (lChk (t) 1)), (.box (lift (lIns (t.ins.2 k))))]) ( L (todoG 50 14) ⟨[(1, ((int (↑k : Int)), [])), (3, ((.c (.rt 3 0 0)), [])), (7, ((.c (.rt 4 0 0)), [])), (120, ((.c (.im (.sl 1 ((usedL (t.ins.2 k)).1) (fun i => eInt ((usedL (t.ins.get k)).2 i))))), [])), (121, ((int ((↑(usedL (t.ins.2 k)).1 : Int))), [])), (122, ((int (IntKind.i64.wrap ((↑j : Int) + 1))), []))], [r0, (.set l), r2, (.box (lChk (t) 1)), (.box (lift (lIns (t.ins.2 k))))], []⟩)))))) ( br (decide ((t.ins.2 k).10 < 0)) ( QE (bool true) [r0, (.set l), r2, (.box (lChk (t) 1)), (.box (lift (lIns (t.ins.2 k))))]) ( br (elemI (t.ins.2 k).10 l) ( QE (bool false) [r0, (.set l), r2, (.box (lChk (t) 1)), (.box (lift (lIns (t.ins.2 k))))]) ( nd (inB (t.ins.2 k).10 t.3.1) ( ( LC 93 [(.a (lChk (t) 1)), (.a (lift (lExit (t.exits.2 (t.ins.2 k).10.toNat)))), (int (↑k : Int))] [r0, (.set (addI (t.ins.2 k).10 l)), r2, (.box (lChk (t) 1)), (.box (lift (lIns (t.ins.2 k)))), .dead] (bool (exitL t (t.exits.2 (t.ins.2 k).10.toNat) (Int.ofNat k))) [r0, (.set (addI (t.ins.2 k).10 l)), r2, (.box (lChk (t) 1)), (.box (lift (lIns (t.ins.2 k)))), .dead] ∧ QE (bool (exitL t (t.exits.2 (t.ins.2 k).10.toNat) (Int.ofNat k))) [r0, (.set (addI (t.ins.2 k).10 l)), r2, (.box (lChk (t) 1)), (.box (lift (lIns (t.ins.2 k)))), .dead])))))) : vcR X18 50 sp50 L QE 14 (st50_14 t r0 r2 l k j) := Eq.mp (by kernel_rfl) h
theorem lp50_14 (t : TraceL) (r0 r2 : Root) (l : List Int) (k : Nat) (hk : k < t.ins.n) (hS : SmallT t) (hw : LowRs 3 [r0, .set l, r2]) (hE : (t.ins.get k).exit < t.exits.n) : ∀ j, j ≤ (usedL (t.ins.get k)).n → ∀ o : Bool × List Int, (bif scanA (fun j => u16 t k ((usedL (t.ins.get k)).get j)) ((usedL (t.ins.get k)).n - j) j then o15 t l k else (false, l)) = o → GoalF 50 3 (Go.V.Ends [r0, .set l, r2] (bool (o).1) [r0, .set (o).2, r2]) (todoG 50 14) (st50_14 t r0 r2 l k j) := by
  have hN : (usedL (t.ins.get k)).n ≤ 1000 := usedL_n _ (hS.args k hk)
  refine count_rule (fun j hj ih o ho => ?_) (fun o ho => ?_)
  · have q : (usedL (t.ins.get k)).n - j = ((usedL (t.ins.get k)).n - (j + 1)) + 1 := by omega
    rw [q] at ho
    have no : u16 t k ((usedL (t.ins.get k)).get j) = false → o = (false, l) := fun q => by rw [scanA_false (p := fun j => u16 t k ((usedL (t.ins.get k)).get j)) q] at ho; exact ho.symm
    have go : u16 t k ((usedL (t.ins.get k)).get j) = true → GoalF 50 3 (Go.V.Ends [r0, .set l, r2] (bool (o).1) [r0, .set (o).2, r2]) (todoG 50 14) (st50_14 t r0 r2 l k (j + 1)) := fun q => by rw [scanA_true (p := fun j => u16 t k ((usedL (t.ins.get k)).get j)) q] at ho; exact ih o ho
    refine reachR (X := X18) (stop := sp50) (vc50_14 _ _ t r0 r2 l k j ?_)
    rw [wrap1 hj (Nat.le_trans hN (by decide))]
    refine br_mk (fun h => ?_) (fun h => (dec_lt h hj).elim)
    refine nd_mk (inB_nat hj) ⟨con92_5 _ _ _ _ _ _ _ _ (by omega), ?_⟩
    refine br_mk (fun h1 => ?_) (fun h1 => ?_)
    · rw [no (by simp only [u16, show valL t ((usedL (t.ins.get k)).get j) k = false from by simpa using h1, boolL])]; exact ⟨3, nlb rfl, nlb rfl, rfl, rfl, DLe.refl _, ⟨.inl (.inl rfl), .inr rfl, .inl (.inl rfl), trivial⟩⟩
    have h1 : valL t ((usedL (t.ins.get k)).get j) k = true := by simpa using h1
    refine nd_mk (valL_in h1 (by omega)) (br_mk (fun h2 => ?_) (fun h2 => ?_))
    · rw [no (by simp only [u16, h1, show ((t.ins.get ((usedL (t.ins.get k)).get j).toNat).op == 17) = true from h2, boolL])]; exact ⟨3, nlb rfl, nlb rfl, rfl, rfl, DLe.refl _, ⟨.inl (.inl rfl), .inr rfl, .inl (.inl rfl), trivial⟩⟩
    refine GoalF.cut 5 (nlb rfl) (nlb rfl) rfl rfl ⟨hw.1.mono (by decide), .inl rfl, hw.2.2.1.mono (by decide), .inl rfl, .inl rfl, trivial⟩ (go ?_)
    simp only [u16, h1, show ((t.ins.get ((usedL (t.ins.get k)).get j).toNat).op == 17) = false from h2, boolL]
  · rw [Nat.sub_self] at ho
    have ho : o15 t l k = o := ho
    subst ho
    refine reachR (X := X18) (stop := sp50) (vc50_14 _ _ t r0 r2 l k _ ?_)
    refine br_mk (fun h => lt_self h) (fun h => ?_)
    refine br_mk (fun h1 => ?_) (fun h1 => br_mk (fun h2 => ?_) (fun h2 => ?_))
    · rw [show o15 t l k = (true, l) from by simp only [o15, show decide ((t.ins.get k).exit < 0) = true from h1, boolL]]; exact ⟨3, nlb rfl, nlb rfl, rfl, rfl, DLe.refl _, ⟨.inl (.inl rfl), .inr rfl, .inl (.inl rfl), trivial⟩⟩
    · rw [show o15 t l k = (false, l) from by simp only [o15, show decide ((t.ins.get k).exit < 0) = false from h1, show elemI (t.ins.get k).exit l = true from h2, boolL]]; exact ⟨3, nlb rfl, nlb rfl, rfl, rfl, DLe.refl _, ⟨.inl (.inl rfl), .inr rfl, .inl (.inl rfl), trivial⟩⟩
    · have h0 : 0 ≤ (t.ins.get k).exit := by have := of_decide_eq_false h1; omega
      have hx := hE
      refine nd_mk (inB_int h0 hx) ⟨con93 _ _ _ _ _ _ _ _ _ (by omega) (hS.ex _ (by omega)) ⟨hw.1.mono (by decide), .inl rfl, hw.2.2.1.mono (by decide), .inl rfl, .inl rfl, .inl rfl, trivial⟩, ?_⟩
      rw [show o15 t l k = (exitL t (t.exits.get (t.ins.get k).exit.toNat) k, addI (t.ins.get k).exit l) from by simp only [o15, show decide ((t.ins.get k).exit < 0) = false from h1, show elemI (t.ins.get k).exit l = false from h2, boolL]]; exact ⟨3, nlb rfl, nlb rfl, rfl, rfl, DLe.refl _, ⟨.inl (.inl rfl), .inr rfl, .inl (.inl rfl), trivial⟩⟩
theorem lp50_13 (t : TraceL) (r0 r2 : Root) (l : List Int) (k : Nat) (hk : k < t.ins.n) (hS : SmallT t) (hw : LowRs 3 [r0, .set l, r2]) (hE : (t.ins.get k).exit < t.exits.n) : GoalF 50 3 (Go.V.Ends [r0, .set l, r2] (bool (o13 t l k).1) [r0, .set (o13 t l k).2, r2]) (todoG 50 13) (st50_13 t r0 r2 l k) := by
  refine reachR (X := X18) (stop := sp50) (vc50_13 _ _ t r0 r2 l k ⟨con55 _, ?_⟩)
  exact lp50_14 t r0 r2 l k hk hS hw hE 0 (Nat.zero_le _) _ rfl
theorem lp50_11 (t : TraceL) (r0 r2 : Root) (l : List Int) (k : Nat) (hk : k < t.ins.n) (hS : SmallT t) (hw : LowRs 3 [r0, .set l, r2]) : GoalF 50 3 (Go.V.Ends [r0, .set l, r2] (bool (o11 t l k).1) [r0, .set (o11 t l k).2, r2]) (todoG 50 11) (st50_11 t r0 r2 l k) := by
  have no : b11 t k = false → Go.V.Ends [r0, .set l, r2] (bool (o11 t l k).1) [r0, .set (o11 t l k).2, r2] (bool false) [r0, .set l, r2, .box (lChk t 1), .box (lift (lIns (t.ins.get k)))] := fun q => by
    rw [show o11 t l k = (false, l) from by unfold o11; rw [q]; rfl]; exact ⟨3, nlb rfl, nlb rfl, rfl, rfl, DLe.refl _, ⟨.inl (.inl rfl), .inr rfl, .inl (.inl rfl), trivial⟩⟩
  have go : b11 t k = true → GoalF 50 3 (Go.V.Ends [r0, .set l, r2] (bool (o11 t l k).1) [r0, .set (o11 t l k).2, r2]) (todoG 50 13) (st50_13 t r0 r2 l k) := fun q => by
    rw [show o11 t l k = o13 t l k from by unfold o11; rw [q]; rfl]; exact lp50_13 t r0 r2 l k hk hS hw (by simp only [b11, Bool.and_eq_true, Bool.not_eq_true', decide_eq_false_iff_not] at q; omega)
  refine reachR (X := X18) (stop := sp50) (vc50_11 _ _ t r0 r2 l k ?_)
  repeat' (first | refine br_mk (fun h => ?_) (fun h => ?_) | refine ⟨con90 _, ?_⟩ | refine ⟨con91 _, ?_⟩ | done)
  all_goals (try simp only [Bool.not_eq_true', Bool.not_eq_false'] at *)
  all_goals first
    | exact no (by simp only [b11, *, boolL])
    | exact GoalF.le (st50_13 t r0 r2 l k) (by repeat' (first | exact trivial | refine wk1 rfl ?_)) (rc (rc (rc (rc (rc (.nil)))))) rfl (go (by simp only [b11, *, boolL]))
    | (exfalso; simp only [decide_eq_true_eq, decide_eq_false_iff_not] at *; omega)
theorem lp50_9 (t : TraceL) (r0 r2 : Root) (l : List Int) (k : Nat) (hk : k < t.ins.n) (hS : SmallT t) (hw : LowRs 3 [r0, .set l, r2]) : GoalF 50 3 (Go.V.Ends [r0, .set l, r2] (bool (o9 t l k).1) [r0, .set (o9 t l k).2, r2]) (todoG 50 9) (st50_9 t r0 r2 l k) := by
  have no : b9 t k = false → Go.V.Ends [r0, .set l, r2] (bool (o9 t l k).1) [r0, .set (o9 t l k).2, r2] (bool false) [r0, .set l, r2, .box (lChk t 1), .box (lift (lIns (t.ins.get k)))] := fun q => by
    rw [show o9 t l k = (false, l) from by unfold o9; rw [q]; rfl]; exact ⟨3, nlb rfl, nlb rfl, rfl, rfl, DLe.refl _, ⟨.inl (.inl rfl), .inr rfl, .inl (.inl rfl), trivial⟩⟩
  have go : b9 t k = true → GoalF 50 3 (Go.V.Ends [r0, .set l, r2] (bool (o9 t l k).1) [r0, .set (o9 t l k).2, r2]) (todoG 50 11) (st50_11 t r0 r2 l k) := fun q => by
    rw [show o9 t l k = o11 t l k from by unfold o9; rw [q]; rfl]; exact lp50_11 t r0 r2 l k hk hS hw
  refine reachR (X := X18) (stop := sp50) (vc50_9 _ _ t r0 r2 l k ?_)
  repeat' (first | refine br_mk (fun h => ?_) (fun h => ?_) |  done)
  all_goals (try simp only [Bool.not_eq_true', Bool.not_eq_false'] at *)
  all_goals first
    | exact no (by simp only [b9, *, boolL])
    | exact GoalF.le (st50_11 t r0 r2 l k) (by repeat' (first | exact trivial | refine wk1 rfl ?_)) (rc (rc (rc (rc (rc (.nil)))))) rfl (go (by simp only [b9, *, boolL]))
    | (exfalso; simp only [decide_eq_true_eq, decide_eq_false_iff_not] at *; omega)
theorem lp50_7 (t : TraceL) (r0 r2 : Root) (l : List Int) (k : Nat) (hk : k < t.ins.n) (hS : SmallT t) (hw : LowRs 3 [r0, .set l, r2]) : GoalF 50 3 (Go.V.Ends [r0, .set l, r2] (bool (o7 t l k).1) [r0, .set (o7 t l k).2, r2]) (todoG 50 7) (st50_7 t r0 r2 l k) := by
  have no : b7 t k = false → Go.V.Ends [r0, .set l, r2] (bool (o7 t l k).1) [r0, .set (o7 t l k).2, r2] (bool false) [r0, .set l, r2, .box (lChk t 1), .box (lift (lIns (t.ins.get k)))] := fun q => by
    rw [show o7 t l k = (false, l) from by unfold o7; rw [q]; rfl]; exact ⟨3, nlb rfl, nlb rfl, rfl, rfl, DLe.refl _, ⟨.inl (.inl rfl), .inr rfl, .inl (.inl rfl), trivial⟩⟩
  have go : b7 t k = true → GoalF 50 3 (Go.V.Ends [r0, .set l, r2] (bool (o7 t l k).1) [r0, .set (o7 t l k).2, r2]) (todoG 50 9) (st50_9 t r0 r2 l k) := fun q => by
    rw [show o7 t l k = o9 t l k from by unfold o7; rw [q]; rfl]; exact lp50_9 t r0 r2 l k hk hS hw
  refine reachR (X := X18) (stop := sp50) (vc50_7 _ _ t r0 r2 l k ?_)
  have w1 : decide ((k : Int) > 0) = true → IntKind.i64.wrap ((k : Int) - 1) = ((k - 1 : Nat) : Int) := fun h => by
    have h := of_decide_eq_true h
    rw [wrap_int (by omega) (by have := hS.ins; omega)]
    omega
  refine br_mk (fun h => ?_) (fun h => ?_)
  · have h : ((t.ins.get k).op == 1) = true := h
    refine br_mk (fun h0 => no (by simp only [b7, h, show decide ((k : Int) ≥ (parL t.ins : Int)) = true from h0, boolL])) (fun h0 => ?_)
    have h0 : decide ((k : Int) ≥ (parL t.ins : Int)) = false := h0
    refine br_mk (fun h1 => ?_) (fun h1 => ?_)
    · rw [w1 h1]
      have h1' : decide ((k : Int) > 0) = true := h1
      have h1'' := of_decide_eq_true h1
      refine nd_mk (inB_nat (by omega)) (br_mk (fun h2 => no ?_) (fun h2 => ?_))
      · simp only [b7, h, h0, h1', show decide ((t.ins.get k).k.n ≤ (t.ins.get (k - 1)).k.n) = true from h2, boolL]
      · exact GoalF.le (st50_9 t r0 r2 l k) (by repeat' (first | exact trivial | refine wk1 rfl ?_)) (rc (rc (rc (rc (rc (.nil)))))) rfl (go (by simp only [b7, h, h0, h1', show decide ((t.ins.get k).k.n ≤ (t.ins.get (k - 1)).k.n) = false from h2, boolL]))
    · exact GoalF.le (st50_9 t r0 r2 l k) (by repeat' (first | exact trivial | refine wk1 rfl ?_)) (rc (rc (rc (rc (rc (.nil)))))) rfl (go (by simp only [b7, h, h0, show decide ((k : Int) > 0) = false from h1, boolL]))
  · exact GoalF.le (st50_9 t r0 r2 l k) (by repeat' (first | exact trivial | refine wk1 rfl ?_)) (rc (rc (rc (rc (rc (.nil)))))) rfl (go (by simp only [b7, show ((t.ins.get k).op == 1) = false from h, boolL]))
theorem lp50_3 (t : TraceL) (r0 r2 : Root) (l : List Int) (k : Nat) (hk : k < t.ins.n) (hS : SmallT t) (hw : LowRs 3 [r0, .set l, r2]) : GoalF 50 3 (Go.V.Ends [r0, .set l, r2] (bool (o3 t l k).1) [r0, .set (o3 t l k).2, r2]) (todoG 50 3) (st50_3 t r0 r2 l k) := by
  have no : b3 t k = false → Go.V.Ends [r0, .set l, r2] (bool (o3 t l k).1) [r0, .set (o3 t l k).2, r2] (bool false) [r0, .set l, r2, .box (lChk t 1), .box (lift (lIns (t.ins.get k)))] := fun q => by
    rw [show o3 t l k = (false, l) from by unfold o3; rw [q]; rfl]; exact ⟨3, nlb rfl, nlb rfl, rfl, rfl, DLe.refl _, ⟨.inl (.inl rfl), .inr rfl, .inl (.inl rfl), trivial⟩⟩
  have go : b3 t k = true → GoalF 50 3 (Go.V.Ends [r0, .set l, r2] (bool (o3 t l k).1) [r0, .set (o3 t l k).2, r2]) (todoG 50 7) (st50_7 t r0 r2 l k) := fun q => by
    rw [show o3 t l k = o7 t l k from by unfold o3; rw [q]; rfl]; exact lp50_7 t r0 r2 l k hk hS hw
  refine reachR (X := X18) (stop := sp50) (vc50_3 _ _ t r0 r2 l k ?_)
  rw [wrap_pred (by omega) hS.ins]
  refine br_mk (fun h => ?_) (fun h => ?_)
  · have h0 : endsI (t.ins.get k) = true := by simp only [endsI, show ((t.ins.get k).op == 20) = true from h, boolL]
    clear h
    refine br_mk (fun h1 => ?_) (fun h1 => ?_)
    · have h1 : (true != ((k : Int) == (t.ins.n : Int) - 1)) = true := h1
      exact no (by simp only [b3, h0, h1, boolL])
    have h1 : (true != ((k : Int) == (t.ins.n : Int) - 1)) = false := h1
    repeat' (first | refine br_mk (fun h => ?_) (fun h => ?_) | refine ⟨con88 _, ?_⟩ | refine ⟨con89 _, ?_⟩ | done)
    all_goals (try simp only [Bool.not_eq_true', Bool.not_eq_false'] at *)
    all_goals first
      | exact no (by simp only [b3, *, boolL])
      | exact GoalF.le (st50_7 t r0 r2 l k) (by repeat' (first | exact trivial | refine wk1 rfl ?_)) (rc (rc (rc (rc (rc (.nil)))))) rfl (go (by simp only [b3, *, boolL]))
      | (exfalso; simp only [decide_eq_true_eq, decide_eq_false_iff_not] at *; omega)
  · have h0 : endsI (t.ins.get k) = ((t.ins.get k).op == 21) := by simp only [endsI, show ((t.ins.get k).op == 20) = false from h, boolL]
    clear h
    refine br_mk (fun h1 => ?_) (fun h1 => ?_)
    · have h1 : (((t.ins.get k).op == 21) != ((k : Int) == (t.ins.n : Int) - 1)) = true := h1
      exact no (by simp only [b3, h0, h1, boolL])
    have h1 : (((t.ins.get k).op == 21) != ((k : Int) == (t.ins.n : Int) - 1)) = false := h1
    repeat' (first | refine br_mk (fun h => ?_) (fun h => ?_) | refine ⟨con88 _, ?_⟩ | refine ⟨con89 _, ?_⟩ | done)
    all_goals (try simp only [Bool.not_eq_true', Bool.not_eq_false'] at *)
    all_goals first
      | exact no (by simp only [b3, *, boolL])
      | exact GoalF.le (st50_7 t r0 r2 l k) (by repeat' (first | exact trivial | refine wk1 rfl ?_)) (rc (rc (rc (rc (rc (.nil)))))) rfl (go (by simp only [b3, *, boolL]))
      | (exfalso; simp only [decide_eq_true_eq, decide_eq_false_iff_not] at *; omega)
theorem con50 (t : TraceL) (r0 r2 : Root) (l : List Int) (k : Nat) (hk : k < t.ins.n) (hS : SmallT t) (hw : LowRs 3 [r0, .set l, r2]) : LC 50 [dChk t 1, int k, int (parL t.ins)] [r0, .set l, r2] (bool (o3 t l k).1) [r0, .set (o3 t l k).2, r2] :=
  root_con fn50 (nlb (by kernel_rfl)) (reachF (X := X18) (stop := sp50) (vc50 _ _ t r0 r2 l k (nd_mk (inB_nat hk) (lp50_3 t r0 r2 l k hk hS hw))))
def sp18 : Nat → Bool := fun i => Nat.beq i 8
theorem fn18 : Fn 18 := ⟨by kernel_rfl, by kernel_rfl⟩
theorem vc18 (L : LP) (QD : D → Prop) (t : TraceL) (h : br (decide ((↑t.2.1 : Int) > 200)) ( QD (int 2)) ( br (decide ((↑t.3.1 : Int) > 60)) ( QD (int 2)) ( br (decide (t.1.1 < 0)) ( QD (int 31)) ( br (decide (t.1.2 < 0)) ( QD (int 31)) ( br ((↑t.2.1 : Int) == 0) ( QD (int 31)) ( ( LC 49 [(.a (lift (lTrace (t))))] [] (int ((↑(parL t.2) : Int))) [] ∧ L (todoG 18 8) ⟨[(3, ((.c (.rt 2 0 0)), [])), (4, ((int ((↑(parL t.2) : Int))), [])), (39, ((int (↑t.2.1 : Int)), [])), (40, ((int 0), []))], [(.box (lift (lTrace (t)))), (.set []), (.box (lChk (t) 1))], []⟩))))))) : vcF X18 18 sp18 L (endP QD) [dTrace t] [] := Eq.mp (by kernel_rfl) h
noncomputable def st18_8 (t : TraceL) (l : List Int) (k : Nat) : VS := ⟨[(3, (.c (.rt 2 0 0)), []), (4, (.c (.im (.v (.int .i64 ((↑(parL t.2) : Int)))))), []), (39, (.c (.im (.v (.int .i64 (↑t.2.1 : Int))))), []), (40, int k, [])], [(.box (lift (lTrace (t)))), .set l, (.box (lChk (t) 1))], []⟩
theorem vc18_8 (L : LP) (QD : D → Prop) (t : TraceL) (l : List Int) (k : Nat) (h : br (decide ((↑k : Int) < (↑t.2.1 : Int))) ( ( LC 50 [(.a (lChk (t) 1)), (int (↑k : Int)), (int ((↑(parL t.2) : Int)))] [(.box (lift (lTrace (t)))), (.set l), (.box (lChk (t) 1))] (bool ((o3 t (setR (some (Root.set l))) k).1)) [(.box (lift (lTrace (t)))), (.set ((o3 t (setR (some (Root.set l))) k).2)), (.box (lChk (t) 1))] ∧ br (!(o3 t (setR (some (Root.set l))) k).1) ( QD (int 31)) ( L (todoG 18 8) ⟨[(3, ((.c (.rt 2 0 0)), [])), (4, ((int ((↑(parL t.2) : Int))), [])), (39, ((int (↑t.2.1 : Int)), [])), (40, ((int (IntKind.i64.wrap ((↑k : Int) + 1))), []))], [(.box (lift (lTrace (t)))), (.set ((o3 t (setR (some (Root.set l))) k).2)), (.box (lChk (t) 1))], []⟩))) ( QD (int 0))) : vcR X18 18 sp18 L (endP QD) 8 (st18_8 t l k) := Eq.mp (by kernel_rfl) h
noncomputable def runL (t : TraceL) : Nat → Nat → List Int → Bool
  | 0, _, _ => true
  | m + 1, k, l => bif (o3 t l k).1 then runL t m (k + 1) (o3 t l k).2 else false
noncomputable def rightL (t : TraceL) : Int := bif decide ((t.ins.n : Int) > 200) then 2 else bif decide ((t.exits.n : Int) > 60) then 2 else bif !(decide (t.place.fn < 0) || (decide (t.place.line < 0) || ((t.ins.n : Int) == 0))) && runL t t.ins.n 0 [] then 0 else 31
theorem lp18_8 (t : TraceL) (hS : SmallT t) (a : Int) : ∀ k, k ≤ t.ins.n → ∀ l, (bif runL t (t.ins.n - k) k l then 0 else 31) = a → GoalF 18 0 (EndsP (int a)) (todoG 18 8) (st18_8 t l k) := by
  have hN := hS.ins
  refine count_rule (fun k hk ih l ha => ?_) (fun l ha => ?_)
  · have q : t.ins.n - k = (t.ins.n - (k + 1)) + 1 := by omega
    rw [q] at ha
    refine reachP (X := X18) (stop := sp18) (vc18_8 _ _ t l k ?_)
    rw [wrap1 hk (Nat.le_trans hN (by decide))]
    refine br_mk (fun h => ?_) (fun h => (dec_lt h hk).elim)
    refine ⟨con50 t _ _ l k hk hS ⟨.inl rfl, .inl rfl, .inl rfl, trivial⟩, ?_⟩
    refine br_mk (fun h1 => ?_) (fun h1 => ?_)
    · have h1 : (o3 t l k).1 = false := (Bool.not_eq_true' _).mp h1
      rw [show runL t (t.ins.n - (k + 1) + 1) k l = false from by unfold runL; rw [h1]; rfl] at ha
      subst ha
      exact DLe.refl _
    · have h1 : (o3 t l k).1 = true := (Bool.not_eq_false' _ ▸ h1 : (o3 t l k).1 = true)
      rw [show runL t (t.ins.n - (k + 1) + 1) k l = runL t (t.ins.n - (k + 1)) (k + 1) (o3 t l k).2 from by rw [show runL t (t.ins.n - (k + 1) + 1) k l = (bif (o3 t l k).1 then runL t (t.ins.n - (k + 1)) (k + 1) (o3 t l k).2 else false) from rfl, h1]; rfl] at ha
      exact ih _ ha
  · rw [Nat.sub_self] at ha
    refine reachP (X := X18) (stop := sp18) (vc18_8 _ _ t l _ ?_)
    refine br_mk (fun h => lt_self h) (fun h => ?_)
    subst ha; exact DLe.refl _
theorem con18 (t : TraceL) (hS : SmallT t) : LC 18 [dTrace t] [] (int (rightL t)) [] := by
  refine pure_vc (X := X18) (stop := sp18) fn18 (nlb (by kernel_rfl)) (vc18 _ _ t ?_)
  refine br_mk (fun h1 => ?_) (fun h1 => br_mk (fun h2 => ?_) (fun h2 => br_mk (fun h3 => ?_) (fun h3 => br_mk (fun h4 => ?_) (fun h4 => br_mk (fun h5 => ?_) (fun h5 => ⟨con49 _, ?_⟩)))))
  · rw [show rightL t = 2 from by simp only [rightL, show decide ((t.ins.n : Int) > 200) = true from h1, boolL]]; exact DLe.refl _
  · rw [show rightL t = 2 from by simp only [rightL, show decide ((t.ins.n : Int) > 200) = false from h1, show decide ((t.exits.n : Int) > 60) = true from h2, boolL]]; exact DLe.refl _
  · rw [show rightL t = 31 from by simp only [rightL, show decide ((t.ins.n : Int) > 200) = false from h1, show decide ((t.exits.n : Int) > 60) = false from h2, show decide (t.place.fn < 0) = true from h3, boolL]]; exact DLe.refl _
  · rw [show rightL t = 31 from by simp only [rightL, show decide ((t.ins.n : Int) > 200) = false from h1, show decide ((t.exits.n : Int) > 60) = false from h2, show decide (t.place.line < 0) = true from h4, boolL]]; exact DLe.refl _
  · rw [show rightL t = 31 from by simp only [rightL, show decide ((t.ins.n : Int) > 200) = false from h1, show decide ((t.exits.n : Int) > 60) = false from h2, show ((t.ins.n : Int) == 0) = true from h5, boolL]]; exact DLe.refl _
  · exact lp18_8 t hS _ 0 (Nat.zero_le _) [] (by simp only [rightL, Nat.sub_zero, show decide ((t.ins.n : Int) > 200) = false from h1, show decide ((t.exits.n : Int) > 60) = false from h2, show decide (t.place.fn < 0) = false from h3, show decide (t.place.line < 0) = false from h4, show ((t.ins.n : Int) == 0) = false from h5, boolL])
open Go Go.V
noncomputable def dPairI (x : InsL) (b : Bool) : D := .t [(true, lift (lIns x)), (false, [.im (iB b)])]
noncomputable def unlL (x y : InsL) : Bool := x.n != y.n || !sameSq eqS x.names y.names
noncomputable def memo (op : Int) : Bool := m98 op || m102 op
noncomputable def zeroI : InsL := ⟨0, 0, 0, 0, 0, nilSq 0, ⟨0, 0, ByteArray.mk ⟨[]⟩⟩, nilSq (ByteArray.mk ⟨[]⟩), ⟨0, 0⟩, 0, false⟩
noncomputable def shK (t : TraceL) (a : Int) (k : Nat) : Bool := (t.ins.get k).op == 7 && (!(t.ins.get k).once && (t.ins.get k).a == a)
noncomputable def shS (t : TraceL) (a : Int) (i : Nat) : Int := bif (t.ins.get a.toNat).op == 16 then a else idxF (shK t a) i
noncomputable def shD (t : TraceL) (s : Int) : D := bif decide (s ≥ 0) then dPairI (t.ins.get s.toNat) true else dPairI zeroI false
noncomputable def F10L : AnsL := [
  (18, fun ds rs => (int (rightL (aTrace ds 0)), [], [])),
  (40, fun ds rs => (int (rightR (aTrace ds 0)), [], [])),
  (107, fun ds rs => (bool (memo (aI ds 0)), [], [])),
  (100, fun ds rs => (bool (unlL (aIns ds 0) (aIns ds 1)), [], [])),
  (105, fun ds rs => (bool (unlL (aIns ds 0) (aIns ds 1)), [], []))]
noncomputable def F10 := ext F9 F10L
theorem t_le {l l' : List C} {c : C} (h : All2 CLe l l') : DLe (.t [(true, l), (false, [c])]) (.t [(true, l'), (false, [c])]) := by
  rintro E av w v ⟨vs, rfl, hv⟩
  refine ⟨vs, rfl, ?_⟩
  generalize vs.toList = ys at hv
  cases hv with | cons h1 hv => cases hv with | cons h2 hv =>
    cases hv
    obtain ⟨cs, rfl, h3⟩ := h1
    exact .cons ⟨cs, rfl, All2.cle h h3⟩ (.cons h2 .nil)
theorem zero_le : DLe (.t [(true, [(.im (.v (.int .i64 0))), (.im (.v (.int .i64 0))), (.im (.v (.int .i64 0))), (.im (.v (.int .i64 0))), (.im (.v (.int .i64 0))), (.im (.v (.slice .none 0 0))), (.im (.v (.int .i64 0))), (.im (.v (.int .i64 0))), (.im (.v (.string ⟨⟨[]⟩⟩))), (.im (.v (.slice .none 0 0))), (.im (.v (.int .i64 0))), (.im (.v (.int .i64 0))), (.im (.v (.int .i64 0))), (.im (.v (.bool false)))]), (false, [(.im (.v (.bool false)))])]) (dPairI zeroI false) := by
  refine t_le ?_
  repeat' (first | exact .nil | refine .cons (CLe.refl _) ?_ | refine .cons (CLe.nil 1 _) ?_ | done)
noncomputable def XG107 : Spc := { F := F10 }
def sp107 : Nat → Bool := noStop
theorem fn107 : Fn 107 := ⟨by kernel_rfl, by kernel_rfl⟩
theorem vc107 (L : LP) (QD : D → Prop) (op : Int) (h : ( LC 98 [(int op)] [] (bool (m98 op)) [] ∧ br (m98 op) ( QD (bool true)) ( ( LC 102 [(int op)] [] (bool (m102 op)) [] ∧ QD (bool (m102 op)))))) : vcF XG107 107 sp107 L (endP QD) [int op] [] := Eq.mp (by kernel_rfl) h
theorem con107 (op : Int) : LC 107 [int op] [] (bool (memo op)) [] := by
  refine pure_vc (X := XG107) (stop := sp107) fn107 (nlb (by kernel_rfl)) (vc107 _ _ op ⟨con98 _, br_mk (fun h => ?_) (fun h => ⟨con102 _, ?_⟩)⟩)
  · rw [show memo op = true from by simp only [memo, h, Bool.true_or]]; exact DLe.refl _
  · rw [show memo op = m102 op from by simp only [memo, h, Bool.false_or]]; exact DLe.refl _
noncomputable def XG100 : Spc := { F := F10 }
def sp100 : Nat → Bool := noStop
theorem fn100 : Fn 100 := ⟨by kernel_rfl, by kernel_rfl⟩
theorem vc100 (L : LP) (QD : D → Prop) (x y : InsL) (h : br (x.5 != y.5) ( QD (bool true)) ( ( LC 72 [(.c (.im (.sl 1 x.8.1 (fun i => eStr (x.names.2 i))))), (.c (.im (.sl 1 y.8.1 (fun i => eStr (y.names.2 i)))))] [] (bool (sameSq eqS x.8 y.8)) [] ∧ QD (bool (!sameSq eqS x.8 y.8))))) : vcF XG100 100 sp100 L (endP QD) [dIns x, dIns y] [] := Eq.mp (by kernel_rfl) h
theorem con100 (x y : InsL) : LC 100 [dIns x, dIns y] [] (bool (unlL x y)) [] := by
  refine pure_vc (X := XG100) (stop := sp100) fn100 (nlb (by kernel_rfl)) (vc100 _ _ x y (br_mk (fun h => ?_) (fun h => ⟨con72 _ _, ?_⟩)))
  · rw [show unlL x y = true from by simp only [unlL, show (x.n != y.n) = true from h, Bool.true_or]]; exact DLe.refl _
  · rw [show unlL x y = !sameSq eqS x.names y.names from by simp only [unlL, show (x.n != y.n) = false from h, Bool.false_or]]; exact DLe.refl _
noncomputable def XG105 : Spc := { F := F10 }
def sp105 : Nat → Bool := noStop
theorem fn105 : Fn 105 := ⟨by kernel_rfl, by kernel_rfl⟩
theorem vc105 (L : LP) (QD : D → Prop) (x y : InsL) (h : br (x.5 != y.5) ( QD (bool true)) ( ( LC 22 [(.c (.im (.sl 1 x.8.1 (fun i => eStr (x.names.2 i))))), (.c (.im (.sl 1 y.8.1 (fun i => eStr (y.names.2 i)))))] [] (bool (sameSq eqS x.8 y.8)) [] ∧ QD (bool (!sameSq eqS x.8 y.8))))) : vcF XG105 105 sp105 L (endP QD) [dIns x, dIns y] [] := Eq.mp (by kernel_rfl) h
theorem con105 (x y : InsL) : LC 105 [dIns x, dIns y] [] (bool (unlL x y)) [] := by
  refine pure_vc (X := XG105) (stop := sp105) fn105 (nlb (by kernel_rfl)) (vc105 _ _ x y (br_mk (fun h => ?_) (fun h => ⟨con22 _ _, ?_⟩)))
  · rw [show unlL x y = true from by simp only [unlL, show (x.n != y.n) = true from h, Bool.true_or]]; exact DLe.refl _
  · rw [show unlL x y = !sameSq eqS x.names y.names from by simp only [unlL, show (x.n != y.n) = false from h, Bool.false_or]]; exact DLe.refl _
noncomputable def XG133 : Spc := { F := F10 }
def sp133 : Nat → Bool := fun i => Nat.beq i 4
theorem fn133 : Fn 133 := ⟨by kernel_rfl, by kernel_rfl⟩
theorem vc133 (L : LP) (QD : D → Prop) (t : TraceL) (a : Int) (i : Nat) (h : nd (inB a t.2.1) ( br ((t.ins.2 a.toNat).1 == 16) ( nd (inB a t.2.1) ( QD (.t [(.true, (lift (lIns (t.ins.2 a.toNat)))), (.false, [(.im (.v (.bool true)))])]))) ( nd (leB (↑i : Int) t.2.1) ( L (todoG 133 4) ⟨[(1, ((int a), [])), (6, ((.c (.rt 1 0 0)), [])), (25, ((.c (.im (.sl 14 i (fun i => eIns (t.ins.2 i))))), [])), (26, ((int (↑i : Int)), [])), (27, ((int 0), []))], [(.box (lift (lTrace (t)))), (.box [(ci 0), (ci 0), (ci 0), (ci 0), (ci 0), (.im (.v (.slice .none 0 0))), (ci 0), (ci 0), (.im (.v (.string ⟨⟨[]⟩⟩))), (.im (.v (.slice .none 0 0))), (ci 0), (ci 0), (ci 0), (.im (.v (.bool false)))])], []⟩)))) : vcF XG133 133 sp133 L (endP QD) [dTrace t, int a, int i] [] := Eq.mp (by kernel_rfl) h
noncomputable def st133_4 (t : TraceL) (a : Int) (i : Nat) (k : Nat) : VS := ⟨[(1, (.c (.im (.v (.int .i64 a)))), []), (6, (.c (.rt 1 0 0)), []), (25, (.c (.im (.sl 14 i (fun i => eIns (t.ins.2 i))))), []), (26, (.c (.im (.v (.int .i64 (↑i : Int))))), []), (27, int k, [])], [(.box (lift (lTrace (t)))), (.box [(.im (.v (.int .i64 0))), (.im (.v (.int .i64 0))), (.im (.v (.int .i64 0))), (.im (.v (.int .i64 0))), (.im (.v (.int .i64 0))), (.im (.v (.slice .none 0 0))), (.im (.v (.int .i64 0))), (.im (.v (.int .i64 0))), (.im (.v (.string ⟨⟨[]⟩⟩))), (.im (.v (.slice .none 0 0))), (.im (.v (.int .i64 0))), (.im (.v (.int .i64 0))), (.im (.v (.int .i64 0))), (.im (.v (.bool false)))])], []⟩
theorem vc133_4 (L : LP) (QD : D → Prop) (t : TraceL) (a : Int) (i : Nat) (k : Nat) (h : br (decide ((↑k : Int) < (↑i : Int))) ( nd (inB (↑k : Int) i) ( br ((t.ins.2 k).1 == 7) ( br (!(t.ins.2 k).11) ( br ((t.ins.2 k).2 == a) ( QD (.t [(.true, (lift (lIns (t.ins.2 k)))), (.false, [(.im (.v (.bool true)))])])) ( L (todoG 133 4) ⟨[(1, ((int a), [])), (6, ((.c (.rt 1 0 0)), [])), (25, ((.c (.im (.sl 14 i (fun i => eIns (t.ins.2 i))))), [])), (26, ((int (↑i : Int)), [])), (27, ((int (IntKind.i64.wrap ((↑k : Int) + 1))), []))], [(.box (lift (lTrace (t)))), (.box [(ci 0), (ci 0), (ci 0), (ci 0), (ci 0), (.im (.v (.slice .none 0 0))), (ci 0), (ci 0), (.im (.v (.string ⟨⟨[]⟩⟩))), (.im (.v (.slice .none 0 0))), (ci 0), (ci 0), (ci 0), (.im (.v (.bool false)))]), (.box (lift (lIns (t.ins.2 k))))], []⟩)) ( L (todoG 133 4) ⟨[(1, ((int a), [])), (6, ((.c (.rt 1 0 0)), [])), (25, ((.c (.im (.sl 14 i (fun i => eIns (t.ins.2 i))))), [])), (26, ((int (↑i : Int)), [])), (27, ((int (IntKind.i64.wrap ((↑k : Int) + 1))), []))], [(.box (lift (lTrace (t)))), (.box [(ci 0), (ci 0), (ci 0), (ci 0), (ci 0), (.im (.v (.slice .none 0 0))), (ci 0), (ci 0), (.im (.v (.string ⟨⟨[]⟩⟩))), (.im (.v (.slice .none 0 0))), (ci 0), (ci 0), (ci 0), (.im (.v (.bool false)))]), (.box (lift (lIns (t.ins.2 k))))], []⟩)) ( L (todoG 133 4) ⟨[(1, ((int a), [])), (6, ((.c (.rt 1 0 0)), [])), (25, ((.c (.im (.sl 14 i (fun i => eIns (t.ins.2 i))))), [])), (26, ((int (↑i : Int)), [])), (27, ((int (IntKind.i64.wrap ((↑k : Int) + 1))), []))], [(.box (lift (lTrace (t)))), (.box [(ci 0), (ci 0), (ci 0), (ci 0), (ci 0), (.im (.v (.slice .none 0 0))), (ci 0), (ci 0), (.im (.v (.string ⟨⟨[]⟩⟩))), (.im (.v (.slice .none 0 0))), (ci 0), (ci 0), (ci 0), (.im (.v (.bool false)))]), (.box (lift (lIns (t.ins.2 k))))], []⟩))) ( QD (.t [(.true, [(ci 0), (ci 0), (ci 0), (ci 0), (ci 0), (.im (.v (.slice .none 0 0))), (ci 0), (ci 0), (.im (.v (.string ⟨⟨[]⟩⟩))), (.im (.v (.slice .none 0 0))), (ci 0), (ci 0), (ci 0), (.im (.v (.bool false)))]), (.false, [(.im (.v (.bool false)))])]))) : vcR XG133 133 sp133 L (endP QD) 4 (st133_4 t a i k) := Eq.mp (by kernel_rfl) h
theorem lp133_4 (t : TraceL) (a : Int) (i : Nat) (hi : i ≤ t.ins.n) (hS : SmallT t) (s : Int) : ∀ k, k ≤ i → scanI (shK t a) (i - k) k = s → GoalF 133 0 (EndsP (shD t s)) (todoG 133 4) (st133_4 t a i k) := by
  have hN := hS.ins
  refine count_rule (fun k hk ih ha => ?_) (fun ha => ?_)
  · have q : i - k = (i - (k + 1)) + 1 := by omega
    rw [q] at ha
    have yes : shK t a k = true → s = (k : Int) := fun q => by rw [scanI_hit q] at ha; exact ha.symm
    have go : shK t a k = false → GoalF 133 0 (EndsP (shD t s)) (todoG 133 4) (st133_4 t a i (k + 1)) := fun q => by rw [scanI_miss q] at ha; exact ih ha
    refine reachP (X := XG133) (stop := sp133) (vc133_4 _ _ t a i k ?_)
    rw [wrap1 hk (by unfold maxLen; omega)]
    refine br_mk (fun h => ?_) (fun h => (dec_lt h hk).elim)
    have nb : inB (k : Int) i = true := inB_nat (by omega)
    refine nd_mk nb ?_
    refine br_mk (fun h1 => ?_) (fun h1 => ?_)
    · have h1 : ((t.ins.get k).op == 7) = true := h1
      refine br_mk (fun h2 => ?_) (fun h2 => ?_)
      · have h2 : (!(t.ins.get k).once) = true := h2
        refine br_mk (fun h3 => ?_) (fun h3 => ?_)
        · rw [yes (by simp only [shK, h1, h2, show ((t.ins.get k).a == a) = true from h3, boolL])]
          rw [show shD t (k : Int) = dPairI (t.ins.get k) true from by unfold shD; rw [show decide ((k : Int) ≥ 0) = true from by simp]; rfl]; exact DLe.refl _
        · exact GoalF.rename [0, 1] rfl (go (by simp only [shK, h1, h2, show ((t.ins.get k).a == a) = false from h3, boolL]))
      · have h2 : (!(t.ins.get k).once) = false := h2
        exact GoalF.rename [0, 1] rfl (go (by simp only [shK, h1, h2, boolL]))
    · exact GoalF.rename [0, 1] rfl (go (by simp only [shK, show ((t.ins.get k).op == 7) = false from h1, boolL]))
  · rw [Nat.sub_self] at ha
    refine reachP (X := XG133) (stop := sp133) (vc133_4 _ _ t a i _ ?_)
    refine br_mk (fun h => lt_self h) (fun h => ?_)
    subst ha
    exact zero_le
theorem con133 (t : TraceL) (a : Int) (i : Nat) (ha : inB a t.ins.n = true) (h0 : 0 ≤ a) (hi : i ≤ t.ins.n) (hS : SmallT t) : LC 133 [dTrace t, int a, int i] [] (shD t (shS t a i)) [] := by
  refine pure_vc (X := XG133) (stop := sp133) fn133 (nlb (by kernel_rfl)) (vc133 _ _ t a i (nd_mk ha (br_mk (fun h => nd_mk ha ?_) (fun h => nd_mk ?_ ?_))))
  · rw [show shS t a i = a from by simp only [shS, show ((t.ins.get a.toNat).op == 16) = true from h, cond_true], show shD t a = dPairI (t.ins.get a.toNat) true from by unfold shD; rw [show decide (a ≥ 0) = true from by simpa using h0]; rfl]; exact DLe.refl _
  · show Nat.ble i t.ins.n = true
    simpa [Nat.ble_eq] using hi
  · rw [show shS t a i = idxF (shK t a) i from by simp only [shS, show ((t.ins.get a.toNat).op == 16) = false from h, cond_false]]
    exact lp133_4 t a i hi hS _ 0 (Nat.zero_le _) rfl
noncomputable def XG134 : Spc := { F := F10 }
def sp134 : Nat → Bool := fun i => Nat.beq i 4
theorem fn134 : Fn 134 := ⟨by kernel_rfl, by kernel_rfl⟩
theorem vc134 (L : LP) (QD : D → Prop) (t : TraceL) (a : Int) (i : Nat) (h : nd (inB a t.2.1) ( br ((t.ins.2 a.toNat).1 == 16) ( QD (int a)) ( L (todoG 134 4) ⟨[(1, ((int a), [])), (2, ((int (↑i : Int)), [])), (3, ((.c (.rt 0 0 0)), [])), (7, ((int 0), []))], [(.box (lift (lTrace (t))))], []⟩))) : vcF XG134 134 sp134 L (endP QD) [dTrace t, int a, int i] [] := Eq.mp (by kernel_rfl) h
noncomputable def st134_4 (t : TraceL) (a : Int) (i : Nat) (k : Nat) : VS := ⟨[(1, (.c (.im (.v (.int .i64 a)))), []), (2, (.c (.im (.v (.int .i64 (↑i : Int))))), []), (3, (.c (.rt 0 0 0)), []), (7, int k, [])], [(.box (lift (lTrace (t))))], []⟩
theorem vc134_4 (L : LP) (QD : D → Prop) (t : TraceL) (a : Int) (i : Nat) (k : Nat) (h : br (decide ((↑k : Int) < (↑i : Int))) ( nd (inB (↑k : Int) t.2.1) ( br ((t.ins.2 k).1 == 7) ( nd (inB (↑k : Int) t.2.1) ( br (!(t.ins.2 k).11) ( nd (inB (↑k : Int) t.2.1) ( br ((t.ins.2 k).2 == a) ( QD (int (↑k : Int))) ( L (todoG 134 4) ⟨[(1, ((int a), [])), (2, ((int (↑i : Int)), [])), (3, ((.c (.rt 0 0 0)), [])), (7, ((int (IntKind.i64.wrap ((↑k : Int) + 1))), []))], [(.box (lift (lTrace (t))))], []⟩))) ( L (todoG 134 4) ⟨[(1, ((int a), [])), (2, ((int (↑i : Int)), [])), (3, ((.c (.rt 0 0 0)), [])), (7, ((int (IntKind.i64.wrap ((↑k : Int) + 1))), []))], [(.box (lift (lTrace (t))))], []⟩))) ( L (todoG 134 4) ⟨[(1, ((int a), [])), (2, ((int (↑i : Int)), [])), (3, ((.c (.rt 0 0 0)), [])), (7, ((int (IntKind.i64.wrap ((↑k : Int) + 1))), []))], [(.box (lift (lTrace (t))))], []⟩))) ( QD (int (-1)))) : vcR XG134 134 sp134 L (endP QD) 4 (st134_4 t a i k) := Eq.mp (by kernel_rfl) h
theorem lp134_4 (t : TraceL) (a : Int) (i : Nat) (hi : i ≤ t.ins.n) (hS : SmallT t) (s : Int) : ∀ k, k ≤ i → scanI (shK t a) (i - k) k = s → GoalF 134 0 (EndsP (int s)) (todoG 134 4) (st134_4 t a i k) := by
  have hN := hS.ins
  refine count_rule (fun k hk ih ha => ?_) (fun ha => ?_)
  · have q : i - k = (i - (k + 1)) + 1 := by omega
    rw [q] at ha
    have yes : shK t a k = true → s = (k : Int) := fun q => by rw [scanI_hit q] at ha; exact ha.symm
    have go : shK t a k = false → GoalF 134 0 (EndsP (int s)) (todoG 134 4) (st134_4 t a i (k + 1)) := fun q => by rw [scanI_miss q] at ha; exact ih ha
    refine reachP (X := XG134) (stop := sp134) (vc134_4 _ _ t a i k ?_)
    rw [wrap1 hk (by unfold maxLen; omega)]
    refine br_mk (fun h => ?_) (fun h => (dec_lt h hk).elim)
    have nb : inB (k : Int) t.ins.n = true := inB_nat (by omega)
    refine nd_mk nb ?_
    refine br_mk (fun h1 => ?_) (fun h1 => ?_)
    · have h1 : ((t.ins.get k).op == 7) = true := h1
      refine nd_mk nb ?_
      refine br_mk (fun h2 => ?_) (fun h2 => ?_)
      · have h2 : (!(t.ins.get k).once) = true := h2
        refine nd_mk nb ?_
        refine br_mk (fun h3 => ?_) (fun h3 => ?_)
        · rw [yes (by simp only [shK, h1, h2, show ((t.ins.get k).a == a) = true from h3, boolL])]
          exact DLe.refl _
        · exact (go (by simp only [shK, h1, h2, show ((t.ins.get k).a == a) = false from h3, boolL]))
      · have h2 : (!(t.ins.get k).once) = false := h2
        exact (go (by simp only [shK, h1, h2, boolL]))
    · exact (go (by simp only [shK, show ((t.ins.get k).op == 7) = false from h1, boolL]))
  · rw [Nat.sub_self] at ha
    refine reachP (X := XG134) (stop := sp134) (vc134_4 _ _ t a i _ ?_)
    refine br_mk (fun h => lt_self h) (fun h => ?_)
    subst ha
    exact DLe.refl _
theorem con134 (t : TraceL) (a : Int) (i : Nat) (ha : inB a t.ins.n = true) (hi : i ≤ t.ins.n) (hS : SmallT t) : LC 134 [dTrace t, int a, int i] [] (int (shS t a i)) [] := by
  refine pure_vc (X := XG134) (stop := sp134) fn134 (nlb (by kernel_rfl)) (vc134 _ _ t a i (nd_mk ha (br_mk (fun h => ?_) (fun h => ?_))))
  · rw [show shS t a i = a from by simp only [shS, show ((t.ins.get a.toNat).op == 16) = true from h, cond_true]]; exact DLe.refl _
  · rw [show shS t a i = idxF (shK t a) i from by simp only [shS, show ((t.ins.get a.toNat).op == 16) = false from h, cond_false]]
    exact lp134_4 t a i hi hS _ 0 (Nat.zero_le _) rfl
open Go Go.V
noncomputable def shI (t : TraceL) (s : Int) : InsL := bif decide (s ≥ 0) then t.ins.get s.toNat else zeroI
noncomputable def tlS (t : TraceL) (a b : Int) (i : Nat) : Bool := decide (shS t a i ≥ 0) && (decide (shS t b i ≥ 0) && unlL (shI t (shS t a i)) (shI t (shS t b i)))
noncomputable def apL (t : TraceL) (a b : Int) (i : Nat) : Bool := bif a == b then false else bif (t.ins.get (if b > a then b else a).toNat).op == 16 then true else bif (t.ins.get (a).toNat).op == 16 && (t.ins.get (b).toNat).op == 16 then true else tlS t a b i
noncomputable def apR (t : TraceL) (a b : Int) (i : Nat) : Bool := bif a == b then false else bif ((t.ins.get (a).toNat).op == 16 && (t.ins.get (b).toNat).op == 16) || (((t.ins.get (a).toNat).op == 16 && decide (b < a)) || ((t.ins.get (b).toNat).op == 16 && decide (a < b))) then true else tlS t a b i
noncomputable def F11L : AnsL := [
  (133, fun ds rs => (dPairI (shI (aTrace ds 0) (shS (aTrace ds 0) (aI ds 1) (aI ds 2).toNat)) (decide (shS (aTrace ds 0) (aI ds 1) (aI ds 2).toNat ≥ 0)), [], [])),
  (134, fun ds rs => (int (shS (aTrace ds 0) (aI ds 1) (aI ds 2).toNat), [], []))]
noncomputable def F11 := ext F10 F11L
theorem shD_eq (t : TraceL) (s : Int) : shD t s = dPairI (shI t s) (decide (s ≥ 0)) := by
  unfold shD shI
  cases decide (s ≥ 0) <;> rfl
theorem shS_in {t : TraceL} {a : Int} {i : Nat} (ha : inB a t.ins.n = true) (hi : i ≤ t.ins.n) (h : decide (shS t a i ≥ 0) = true) : inB (shS t a i) t.ins.n = true := by
  have h := of_decide_eq_true h
  unfold shS at *
  cases hc : (t.ins.get a.toNat).op == 16 with
  | true => simpa [hc] using ha
  | false =>
    rw [hc] at h
    simp only [cond_false] at h ⊢
    rcases idxF_spec (shK t a) i with ⟨h1, _⟩ | ⟨j, h1, h2, _⟩
    · rw [h1] at h; omega
    · rw [h1]; exact inB_nat (by omega)
theorem inB_pos {a : Int} {n : Nat} (h : inB a n = true) : 0 ≤ a ∧ a < n := by
  cases a with
  | ofNat m =>
    have : Nat.blt m n = true := h
    rw [Nat.blt_eq] at this
    exact ⟨Int.natCast_nonneg m, by show (m : Int) < n; omega⟩
  | negSucc m => exact absurd h (by simp [inB])
theorem shI_eq {t : TraceL} {s : Int} (h : decide (s ≥ 0) = true) : t.ins.get s.toNat = shI t s := by unfold shI; rw [h]; rfl
noncomputable def XG109 : Spc := { F := F11 }
def sp109 : Nat → Bool := noStop
theorem fn109 : Fn 109 := ⟨by kernel_rfl, by kernel_rfl⟩
theorem vc109 (L : LP) (QD : D → Prop) (t : TraceL) (a b : Int) (i : Nat) (h : br (a == b) ( QD (bool false)) ( nd (inB (if b > a then b else a) t.2.1) ( br ((t.ins.2 (if b > a then b else a).toNat).1 == 16) ( QD (bool true)) ( nd (inB a t.2.1) ( br ((t.ins.2 a.toNat).1 == 16) ( nd (inB b t.2.1) ( br ((t.ins.2 b.toNat).1 == 16) ( QD (bool true)) ( ( LC 133 [(.a (lift (lTrace (t)))), (int a), (int (↑i : Int))] [] (.t [(.true, (lift (lIns (shI t (shS t a i))))), (.false, [(.im (.v (.bool (decide (shS t a i ≥ 0)))))])]) [] ∧ ( LC 133 [(.a (lift (lTrace (t)))), (int b), (int (↑i : Int))] [] (.t [(.true, (lift (lIns (shI t (shS t b i))))), (.false, [(.im (.v (.bool (decide (shS t b i ≥ 0)))))])]) [] ∧ br (decide (shS t a i ≥ 0)) ( br (decide (shS t b i ≥ 0)) ( ( LC 100 [(.a (lift (lIns (shI t (shS t a i))))), (.a (lift (lIns (shI t (shS t b i)))))] [] (bool (unlL (shI t (shS t a i)) (shI t (shS t b i)))) [] ∧ QD (bool (unlL (shI t (shS t a i)) (shI t (shS t b i)))))) ( QD (bool false))) ( QD (bool false))))))) ( ( LC 133 [(.a (lift (lTrace (t)))), (int a), (int (↑i : Int))] [] (.t [(.true, (lift (lIns (shI t (shS t a i))))), (.false, [(.im (.v (.bool (decide (shS t a i ≥ 0)))))])]) [] ∧ ( LC 133 [(.a (lift (lTrace (t)))), (int b), (int (↑i : Int))] [] (.t [(.true, (lift (lIns (shI t (shS t b i))))), (.false, [(.im (.v (.bool (decide (shS t b i ≥ 0)))))])]) [] ∧ br (decide (shS t a i ≥ 0)) ( br (decide (shS t b i ≥ 0)) ( ( LC 100 [(.a (lift (lIns (shI t (shS t a i))))), (.a (lift (lIns (shI t (shS t b i)))))] [] (bool (unlL (shI t (shS t a i)) (shI t (shS t b i)))) [] ∧ QD (bool (unlL (shI t (shS t a i)) (shI t (shS t b i)))))) ( QD (bool false))) ( QD (bool false)))))))))) : vcF XG109 109 sp109 L (endP QD) [dTrace t, int a, int b, int i] [] := Eq.mp (by kernel_rfl) h
theorem con133x (t : TraceL) (a : Int) (i : Nat) (ha : inB a t.ins.n = true) (hi : i ≤ t.ins.n) (hS : SmallT t) : LC 133 [dTrace t, int a, int i] [] (dPairI (shI t (shS t a i)) (decide (shS t a i ≥ 0))) [] := shD_eq t _ ▸ con133 t a i ha (inB_pos ha).1 hi hS
theorem con109 (t : TraceL) (a b : Int) (i : Nat) (ha : inB a t.ins.n = true) (hb : inB b t.ins.n = true) (hi : i ≤ t.ins.n) (hS : SmallT t) : LC 109 [dTrace t, int a, int b, int i] [] (bool (apL t a b i)) [] := by
  have hm : inB (if b > a then b else a) t.ins.n = true := by split <;> assumption
  refine pure_vc (X := XG109) (stop := sp109) fn109 (nlb (by kernel_rfl)) (vc109 _ _ t a b i ?_)
  repeat' (first | refine nd_mk (by first | assumption | exact shS_in (by assumption) hi (by assumption)) ?_ | refine br_mk (fun h => ?_) (fun h => ?_) | refine ⟨con133x _ _ _ (by assumption) hi hS, ?_⟩ | refine ⟨con100 _ _, ?_⟩ | done)
  all_goals (try rw [shI_eq (s := shS t a i) (by assumption), shI_eq (s := shS t b i) (by assumption)])
  all_goals first
    | (exfalso; clear hm ha hb hi hS; simp_all; done)
    | (rw [show apL t a b i = false from by simp only [apL, tlS, *, boolL]]; exact DLe.refl _)
    | (rw [show apL t a b i = true from by simp only [apL, tlS, *, boolL]]; exact DLe.refl _)
    | (rw [show apL t a b i = unlL (shI t (shS t a i)) (shI t (shS t b i)) from by simp only [apL, tlS, *, boolL]]; exact DLe.refl _)
noncomputable def XG111 : Spc := { F := F11 }
def sp111 : Nat → Bool := noStop
theorem fn111 : Fn 111 := ⟨by kernel_rfl, by kernel_rfl⟩
theorem vc111 (L : LP) (QD : D → Prop) (t : TraceL) (a b : Int) (i : Nat) (h : br (a == b) ( QD (bool false)) ( nd (inB a t.2.1) ( nd (inB b t.2.1) ( br ((t.ins.2 a.toNat).1 == 16) ( br ((t.ins.2 b.toNat).1 == 16) ( QD (bool true)) ( br ((t.ins.2 a.toNat).1 == 16) ( br (decide (b < a)) ( QD (bool true)) ( br ((t.ins.2 b.toNat).1 == 16) ( br (decide (a < b)) ( QD (bool true)) ( ( LC 134 [(.a (lift (lTrace (t)))), (int a), (int (↑i : Int))] [] (int (shS t a i)) [] ∧ ( LC 134 [(.a (lift (lTrace (t)))), (int b), (int (↑i : Int))] [] (int (shS t b i)) [] ∧ br (decide (shS t a i ≥ 0)) ( br (decide (shS t b i ≥ 0)) ( nd (inB (shS t a i) t.2.1) ( nd (inB (shS t b i) t.2.1) ( ( LC 105 [(.a (lift (lIns (t.ins.2 (shS t a i).toNat)))), (.a (lift (lIns (t.ins.2 (shS t b i).toNat))))] [] (bool (unlL (t.ins.2 (shS t a i).toNat) (t.ins.2 (shS t b i).toNat))) [] ∧ QD (bool (unlL (t.ins.2 (shS t a i).toNat) (t.ins.2 (shS t b i).toNat))))))) ( QD (bool false))) ( QD (bool false)))))) ( ( LC 134 [(.a (lift (lTrace (t)))), (int a), (int (↑i : Int))] [] (int (shS t a i)) [] ∧ ( LC 134 [(.a (lift (lTrace (t)))), (int b), (int (↑i : Int))] [] (int (shS t b i)) [] ∧ br (decide (shS t a i ≥ 0)) ( br (decide (shS t b i ≥ 0)) ( nd (inB (shS t a i) t.2.1) ( nd (inB (shS t b i) t.2.1) ( ( LC 105 [(.a (lift (lIns (t.ins.2 (shS t a i).toNat)))), (.a (lift (lIns (t.ins.2 (shS t b i).toNat))))] [] (bool (unlL (t.ins.2 (shS t a i).toNat) (t.ins.2 (shS t b i).toNat))) [] ∧ QD (bool (unlL (t.ins.2 (shS t a i).toNat) (t.ins.2 (shS t b i).toNat))))))) ( QD (bool false))) ( QD (bool false))))))) ( br ((t.ins.2 b.toNat).1 == 16) ( br (decide (a < b)) ( QD (bool true)) ( ( LC 134 [(.a (lift (lTrace (t)))), (int a), (int (↑i : Int))] [] (int (shS t a i)) [] ∧ ( LC 134 [(.a (lift (lTrace (t)))), (int b), (int (↑i : Int))] [] (int (shS t b i)) [] ∧ br (decide (shS t a i ≥ 0)) ( br (decide (shS t b i ≥ 0)) ( nd (inB (shS t a i) t.2.1) ( nd (inB (shS t b i) t.2.1) ( ( LC 105 [(.a (lift (lIns (t.ins.2 (shS t a i).toNat)))), (.a (lift (lIns (t.ins.2 (shS t b i).toNat))))] [] (bool (unlL (t.ins.2 (shS t a i).toNat) (t.ins.2 (shS t b i).toNat))) [] ∧ QD (bool (unlL (t.ins.2 (shS t a i).toNat) (t.ins.2 (shS t b i).toNat))))))) ( QD (bool false))) ( QD (bool false)))))) ( ( LC 134 [(.a (lift (lTrace (t)))), (int a), (int (↑i : Int))] [] (int (shS t a i)) [] ∧ ( LC 134 [(.a (lift (lTrace (t)))), (int b), (int (↑i : Int))] [] (int (shS t b i)) [] ∧ br (decide (shS t a i ≥ 0)) ( br (decide (shS t b i ≥ 0)) ( nd (inB (shS t a i) t.2.1) ( nd (inB (shS t b i) t.2.1) ( ( LC 105 [(.a (lift (lIns (t.ins.2 (shS t a i).toNat)))), (.a (lift (lIns (t.ins.2 (shS t b i).toNat))))] [] (bool (unlL (t.ins.2 (shS t a i).toNat) (t.ins.2 (shS t b i).toNat))) [] ∧ QD (bool (unlL (t.ins.2 (shS t a i).toNat) (t.ins.2 (shS t b i).toNat))))))) ( QD (bool false))) ( QD (bool false)))))))) ( br ((t.ins.2 a.toNat).1 == 16) ( br (decide (b < a)) ( QD (bool true)) ( br ((t.ins.2 b.toNat).1 == 16) ( br (decide (a < b)) ( QD (bool true)) ( ( LC 134 [(.a (lift (lTrace (t)))), (int a), (int (↑i : Int))] [] (int (shS t a i)) [] ∧ ( LC 134 [(.a (lift (lTrace (t)))), (int b), (int (↑i : Int))] [] (int (shS t b i)) [] ∧ br (decide (shS t a i ≥ 0)) ( br (decide (shS t b i ≥ 0)) ( nd (inB (shS t a i) t.2.1) ( nd (inB (shS t b i) t.2.1) ( ( LC 105 [(.a (lift (lIns (t.ins.2 (shS t a i).toNat)))), (.a (lift (lIns (t.ins.2 (shS t b i).toNat))))] [] (bool (unlL (t.ins.2 (shS t a i).toNat) (t.ins.2 (shS t b i).toNat))) [] ∧ QD (bool (unlL (t.ins.2 (shS t a i).toNat) (t.ins.2 (shS t b i).toNat))))))) ( QD (bool false))) ( QD (bool false)))))) ( ( LC 134 [(.a (lift (lTrace (t)))), (int a), (int (↑i : Int))] [] (int (shS t a i)) [] ∧ ( LC 134 [(.a (lift (lTrace (t)))), (int b), (int (↑i : Int))] [] (int (shS t b i)) [] ∧ br (decide (shS t a i ≥ 0)) ( br (decide (shS t b i ≥ 0)) ( nd (inB (shS t a i) t.2.1) ( nd (inB (shS t b i) t.2.1) ( ( LC 105 [(.a (lift (lIns (t.ins.2 (shS t a i).toNat)))), (.a (lift (lIns (t.ins.2 (shS t b i).toNat))))] [] (bool (unlL (t.ins.2 (shS t a i).toNat) (t.ins.2 (shS t b i).toNat))) [] ∧ QD (bool (unlL (t.ins.2 (shS t a i).toNat) (t.ins.2 (shS t b i).toNat))))))) ( QD (bool false))) ( QD (bool false))))))) ( br ((t.ins.2 b.toNat).1 == 16) ( br (decide (a < b)) ( QD (bool true)) ( ( LC 134 [(.a (lift (lTrace (t)))), (int a), (int (↑i : Int))] [] (int (shS t a i)) [] ∧ ( LC 134 [(.a (lift (lTrace (t)))), (int b), (int (↑i : Int))] [] (int (shS t b i)) [] ∧ br (decide (shS t a i ≥ 0)) ( br (decide (shS t b i ≥ 0)) ( nd (inB (shS t a i) t.2.1) ( nd (inB (shS t b i) t.2.1) ( ( LC 105 [(.a (lift (lIns (t.ins.2 (shS t a i).toNat)))), (.a (lift (lIns (t.ins.2 (shS t b i).toNat))))] [] (bool (unlL (t.ins.2 (shS t a i).toNat) (t.ins.2 (shS t b i).toNat))) [] ∧ QD (bool (unlL (t.ins.2 (shS t a i).toNat) (t.ins.2 (shS t b i).toNat))))))) ( QD (bool false))) ( QD (bool false)))))) ( ( LC 134 [(.a (lift (lTrace (t)))), (int a), (int (↑i : Int))] [] (int (shS t a i)) [] ∧ ( LC 134 [(.a (lift (lTrace (t)))), (int b), (int (↑i : Int))] [] (int (shS t b i)) [] ∧ br (decide (shS t a i ≥ 0)) ( br (decide (shS t b i ≥ 0)) ( nd (inB (shS t a i) t.2.1) ( nd (inB (shS t b i) t.2.1) ( ( LC 105 [(.a (lift (lIns (t.ins.2 (shS t a i).toNat)))), (.a (lift (lIns (t.ins.2 (shS t b i).toNat))))] [] (bool (unlL (t.ins.2 (shS t a i).toNat) (t.ins.2 (shS t b i).toNat))) [] ∧ QD (bool (unlL (t.ins.2 (shS t a i).toNat) (t.ins.2 (shS t b i).toNat))))))) ( QD (bool false))) ( QD (bool false))))))))))) : vcF XG111 111 sp111 L (endP QD) [dTrace t, int a, int b, int i] [] := Eq.mp (by kernel_rfl) h
theorem con111 (t : TraceL) (a b : Int) (i : Nat) (ha : inB a t.ins.n = true) (hb : inB b t.ins.n = true) (hi : i ≤ t.ins.n) (hS : SmallT t) : LC 111 [dTrace t, int a, int b, int i] [] (bool (apR t a b i)) [] := by
  have hm : inB (if b > a then b else a) t.ins.n = true := by split <;> assumption
  refine pure_vc (X := XG111) (stop := sp111) fn111 (nlb (by kernel_rfl)) (vc111 _ _ t a b i ?_)
  repeat' (first | refine nd_mk (by first | assumption | exact shS_in (by assumption) hi (by assumption)) ?_ | refine br_mk (fun h => ?_) (fun h => ?_) | refine ⟨con134 _ _ _ (by assumption) hi hS, ?_⟩ | refine ⟨con105 _ _, ?_⟩ | done)
  all_goals (try rw [shI_eq (s := shS t a i) (by assumption), shI_eq (s := shS t b i) (by assumption)])
  all_goals first
    | (exfalso; clear hm ha hb hi hS; simp_all; done)
    | (rw [show apR t a b i = false from by simp only [apR, tlS, *, boolL]]; exact DLe.refl _)
    | (rw [show apR t a b i = true from by simp only [apR, tlS, *, boolL]]; exact DLe.refl _)
    | (rw [show apR t a b i = unlL (shI t (shS t a i)) (shI t (shS t b i)) from by simp only [apR, tlS, *, boolL]]; exact DLe.refl _)
open Go Go.V
noncomputable def cstL (t : TraceL) (b c : Int) : Bool := (t.ins.get b.toNat).op == 2 && ((t.ins.get c.toNat).op == 2 && ((t.ins.get b.toNat).k.kind == 3 && ((t.ins.get c.toNat).k.kind == 3 && (t.ins.get b.toNat).k.n != (t.ins.get c.toNat).k.n)))
noncomputable def r9 (t : TraceL) (p q : Nat) : Int := bif (t.ins.get p).a == (t.ins.get q).a then (bif cstL t (t.ins.get p).b (t.ins.get q).b then 0 else 1) else bif apL t (t.ins.get p).a (t.ins.get q).a p then 0 else 1
noncomputable def r7 (t : TraceL) (p q : Nat) : Int := bif (t.ins.get p).a == (t.ins.get q).a && (m108 (t.ins.get p).op || (t.ins.get p).b == (t.ins.get q).b) then 2 else r9 t p q
noncomputable def relL (t : TraceL) (p q : Nat) : Int := bif (!memo (t.ins.get p).op || (!memo (t.ins.get q).op || !(m108 (t.ins.get p).op == m108 (t.ins.get q).op))) || (m108 (t.ins.get p).op && (t.ins.get p).n != (t.ins.get q).n) then 0 else r7 t p q
noncomputable def s5 (t : TraceL) (p q : Nat) : Int := bif m110 (t.ins.get p).op then (bif (t.ins.get p).n != (t.ins.get q).n then 0 else bif (t.ins.get p).a == (t.ins.get q).a then 2 else bif apR t (t.ins.get p).a (t.ins.get q).a p then 0 else 1) else bif (t.ins.get p).a == (t.ins.get q).a then (bif (t.ins.get p).b == (t.ins.get q).b then 2 else bif cstL t (t.ins.get p).b (t.ins.get q).b then 0 else 1) else bif apR t (t.ins.get p).a (t.ins.get q).a p then 0 else 1
noncomputable def aliR (t : TraceL) (p q : Nat) : Int := bif (!m104 (t.ins.get p).op && !m63 (t.ins.get p).op) || ((!m104 (t.ins.get q).op && !m63 (t.ins.get q).op) || !(m110 (t.ins.get p).op == m110 (t.ins.get q).op)) then 0 else s5 t p q
noncomputable def F12L : AnsL := [
  (109, fun ds rs => (bool (apL (aTrace ds 0) (aI ds 1) (aI ds 2) (aI ds 3).toNat), [], [])),
  (111, fun ds rs => (bool (apR (aTrace ds 0) (aI ds 1) (aI ds 2) (aI ds 3).toNat), [], [])),
  (65, fun ds rs => (int (relL (aTrace ds 0) (min (aI ds 1).toNat (aI ds 2).toNat) (max (aI ds 1).toNat (aI ds 2).toNat)), [], [])),
  (66, fun ds rs => (int (aliR (aTrace ds 0) (aI ds 1).toNat (aI ds 2).toNat), [], []))]
noncomputable def F12 := ext F11 F12L
structure MemOK (t : TraceL) : Prop where
  a : ∀ k, k < t.ins.n → memo (t.ins.get k).op = true → inB (t.ins.get k).a t.ins.n = true
  b : ∀ k, k < t.ins.n → memo (t.ins.get k).op = true → m108 (t.ins.get k).op = false → inB (t.ins.get k).b t.ins.n = true
theorem m104_eq (op : Int) : m104 op = m98 op := rfl
theorem m63_eq (op : Int) : m63 op = m102 op := rfl
theorem m110_eq (op : Int) : m110 op = m108 op := rfl
noncomputable def XG65 : Spc := { F := F12 }
def sp65 : Nat → Bool := fun i => Nat.beq i 2 || Nat.beq i 7 || Nat.beq i 9
theorem fn65 : Fn 65 := ⟨by kernel_rfl, by kernel_rfl⟩
theorem vc65 (L : LP) (QD : D → Prop) (t : TraceL) (i j : Nat) (h : L (todoG 65 2) ⟨[(1, ((int (if (↑j : Int) < (↑i : Int) then (↑j : Int) else (↑i : Int))), [])), (2, ((int (if (↑j : Int) > (↑i : Int) then (↑j : Int) else (↑i : Int))), [])), (3, ((.c (.rt 0 0 0)), []))], [(.box (lift (lTrace (t))))], []⟩) : vcF XG65 65 sp65 L (endP QD) [dTrace t, int i, int j] [] := Eq.mp (by kernel_rfl) h
noncomputable def st65_2 (t : TraceL) (i j : Nat) (p q : Nat) : VS := ⟨[(1, int p, []), (2, int q, []), (3, (.c (.rt 0 0 0)), [])], [(.box (lift (lTrace (t))))], []⟩
theorem vc65_2 (L : LP) (QD : D → Prop) (t : TraceL) (i j : Nat) (p q : Nat) (h : nd (inB (↑p : Int) t.2.1) ( nd (inB (↑q : Int) t.2.1) ( nd (inB (↑p : Int) t.2.1) ( nd (inB (↑q : Int) t.2.1) ( ( LC 107 [(int ((t.ins.2 p).1))] [] (bool (memo (t.ins.2 p).1)) [] ∧ br (!memo (t.ins.2 p).1) ( QD (int 0)) ( ( LC 107 [(int ((t.ins.2 q).1))] [] (bool (memo (t.ins.2 q).1)) [] ∧ br (!memo (t.ins.2 q).1) ( QD (int 0)) ( ( LC 108 [(int ((t.ins.2 p).1))] [] (bool (m108 (t.ins.2 p).1)) [] ∧ ( LC 108 [(int ((t.ins.2 q).1))] [] (bool (m108 (t.ins.2 q).1)) [] ∧ br (!m108 (t.ins.2 p).1 == m108 (t.ins.2 q).1) ( QD (int 0)) ( ( LC 108 [(int ((t.ins.2 p).1))] [] (bool (m108 (t.ins.2 p).1)) [] ∧ br (m108 (t.ins.2 p).1) ( br ((t.ins.2 p).5 != (t.ins.2 q).5) ( QD (int 0)) ( L (todoG 65 7) ⟨[(1, ((int (↑p : Int)), [])), (3, ((.c (.rt 0 0 0)), [])), (7, ((.c (.rt 1 0 0)), [])), (8, ((.c (.rt 2 0 0)), [])), (28, ((bool false), []))], [(.box (lift (lTrace (t)))), (.box (lift (lIns (t.ins.2 p)))), (.box (lift (lIns (t.ins.2 q)))), .dead, .dead, .dead, .dead], []⟩)) ( L (todoG 65 7) ⟨[(1, ((int (↑p : Int)), [])), (3, ((.c (.rt 0 0 0)), [])), (7, ((.c (.rt 1 0 0)), [])), (8, ((.c (.rt 2 0 0)), [])), (28, ((bool false), []))], [(.box (lift (lTrace (t)))), (.box (lift (lIns (t.ins.2 p)))), (.box (lift (lIns (t.ins.2 q)))), .dead, .dead, .dead, .dead], []⟩)))))))))))))) : vcR XG65 65 sp65 L (endP QD) 2 (st65_2 t i j p q) := Eq.mp (by kernel_rfl) h
noncomputable def st65_7 (t : TraceL) (i j : Nat) (p q : Nat) : VS := ⟨[(1, (.c (.im (.v (.int .i64 (↑p : Int))))), []), (3, (.c (.rt 0 0 0)), []), (7, (.c (.rt 1 0 0)), []), (8, (.c (.rt 2 0 0)), [])], [(.box (lift (lTrace (t)))), (.box (lift (lIns (t.ins.2 p)))), (.box (lift (lIns (t.ins.2 q))))], []⟩
theorem vc65_7 (L : LP) (QD : D → Prop) (t : TraceL) (i j : Nat) (p q : Nat) (h : br ((t.ins.2 p).2 == (t.ins.2 q).2) ( ( LC 108 [(int ((t.ins.2 p).1))] [] (bool (m108 (t.ins.2 p).1)) [] ∧ br (m108 (t.ins.2 p).1) ( QD (int 2)) ( br ((t.ins.2 p).3 == (t.ins.2 q).3) ( QD (int 2)) ( L (todoG 65 9) ⟨[(1, ((int (↑p : Int)), [])), (3, ((.c (.rt 0 0 0)), [])), (7, ((.c (.rt 1 0 0)), [])), (8, ((.c (.rt 2 0 0)), [])), (60, ((bool false), []))], [(.box (lift (lTrace (t)))), (.box (lift (lIns (t.ins.2 p)))), (.box (lift (lIns (t.ins.2 q))))], []⟩)))) ( L (todoG 65 9) ⟨[(1, ((int (↑p : Int)), [])), (3, ((.c (.rt 0 0 0)), [])), (7, ((.c (.rt 1 0 0)), [])), (8, ((.c (.rt 2 0 0)), [])), (60, ((bool false), []))], [(.box (lift (lTrace (t)))), (.box (lift (lIns (t.ins.2 p)))), (.box (lift (lIns (t.ins.2 q))))], []⟩)) : vcR XG65 65 sp65 L (endP QD) 7 (st65_7 t i j p q) := Eq.mp (by kernel_rfl) h
noncomputable def st65_9 (t : TraceL) (i j : Nat) (p q : Nat) : VS := ⟨[(1, (.c (.im (.v (.int .i64 (↑p : Int))))), []), (3, (.c (.rt 0 0 0)), []), (7, (.c (.rt 1 0 0)), []), (8, (.c (.rt 2 0 0)), [])], [(.box (lift (lTrace (t)))), (.box (lift (lIns (t.ins.2 p)))), (.box (lift (lIns (t.ins.2 q))))], []⟩
theorem vc65_9 (L : LP) (QD : D → Prop) (t : TraceL) (i j : Nat) (p q : Nat) (h : br ((t.ins.2 p).2 == (t.ins.2 q).2) ( nd (inB (t.ins.2 p).3 t.2.1) ( nd (inB (t.ins.2 q).3 t.2.1) ( nd (inB (t.ins.2 p).3 t.2.1) ( nd (inB (t.ins.2 q).3 t.2.1) ( br ((t.ins.2 (t.ins.2 p).3.toNat).1 == 2) ( br ((t.ins.2 (t.ins.2 q).3.toNat).1 == 2) ( br ((t.ins.2 (t.ins.2 p).3.toNat).7.1 == 3) ( br ((t.ins.2 (t.ins.2 q).3.toNat).7.1 == 3) ( br ((t.ins.2 (t.ins.2 p).3.toNat).7.2 != (t.ins.2 (t.ins.2 q).3.toNat).7.2) ( QD (int 0)) ( QD (int 1))) ( QD (int 1))) ( QD (int 1))) ( QD (int 1))) ( QD (int 1))))))) ( ( LC 109 [(.a (lift (lTrace (t)))), (int ((t.ins.2 p).2)), (int ((t.ins.2 q).2)), (int (↑p : Int))] [] (bool (apL t (t.ins.2 p).2 (t.ins.2 q).2 p)) [] ∧ br (apL t (t.ins.2 p).2 (t.ins.2 q).2 p) ( QD (int 0)) ( QD (int 1))))) : vcR XG65 65 sp65 L (endP QD) 9 (st65_9 t i j p q) := Eq.mp (by kernel_rfl) h
theorem lp65_9 (t : TraceL) (i j p q : Nat) (hp : p < t.ins.n) (hq : q < t.ins.n) (hS : SmallT t) (ha : inB (t.ins.get p).a t.ins.n = true) (hb : inB (t.ins.get q).a t.ins.n = true) (hc : ((t.ins.get p).a == (t.ins.get q).a) = true → inB (t.ins.get p).b t.ins.n = true ∧ inB (t.ins.get q).b t.ins.n = true) : GoalF 65 0 (EndsP (int (r9 t p q))) (todoG 65 9) (st65_9 t i j p q) := by
  refine reachP (X := XG65) (stop := sp65) (vc65_9 _ _ t i j p q ?_)
  refine br_mk (fun h => ?_) (fun h => ⟨con109 t _ _ p ha hb (by omega) hS, ?_⟩)
  · obtain ⟨h1, h2⟩ := hc h
    refine nd_mk h1 (nd_mk h2 (nd_mk h1 (nd_mk h2 ?_)))
    have h : ((t.ins.get p).a == (t.ins.get q).a) = true := h
    clear hc ha hb h1 h2 hS
    repeat' (first | refine br_mk (fun h => ?_) (fun h => ?_) | done)
    all_goals first
      | (have e : r9 t p q = 0 := by (simp only [r9, cstL, *, boolL]; done)
         rw [e]; exact DLe.refl _)
      | (have e : r9 t p q = 1 := by (simp only [r9, cstL, *, boolL]; done)
         rw [e]; exact DLe.refl _)
  · have h : ((t.ins.get p).a == (t.ins.get q).a) = false := h
    refine br_mk (fun h2 => ?_) (fun h2 => ?_)
    · rw [show r9 t p q = 0 from by simp only [r9, h, show apL t (t.ins.get p).a (t.ins.get q).a p = true from h2, boolL]]; exact DLe.refl _
    · rw [show r9 t p q = 1 from by simp only [r9, h, show apL t (t.ins.get p).a (t.ins.get q).a p = false from h2, boolL]]; exact DLe.refl _
theorem lp65_7 (t : TraceL) (i j p q : Nat) (hp : p < t.ins.n) (hq : q < t.ins.n) (hS : SmallT t) (hm : MemOK t) (h1 : memo (t.ins.get p).op = true) (h2 : memo (t.ins.get q).op = true) (h3 : m108 (t.ins.get p).op = m108 (t.ins.get q).op) : GoalF 65 0 (EndsP (int (r7 t p q))) (todoG 65 7) (st65_7 t i j p q) := by
  have ha := hm.a p hp h1
  have hb := hm.a q hq h2
  refine reachP (X := XG65) (stop := sp65) (vc65_7 _ _ t i j p q ?_)
  refine br_mk (fun h => ⟨con108 _, br_mk (fun h4 => ?_) (fun h4 => br_mk (fun h5 => ?_) (fun h5 => ?_))⟩) (fun h => ?_)
  · rw [show r7 t p q = 2 from by simp only [r7, show ((t.ins.get p).a == (t.ins.get q).a) = true from h, show m108 (t.ins.get p).op = true from h4, boolL]]; exact DLe.refl _
  · rw [show r7 t p q = 2 from by simp only [r7, show ((t.ins.get p).a == (t.ins.get q).a) = true from h, show ((t.ins.get p).b == (t.ins.get q).b) = true from h5, boolL]]; exact DLe.refl _
  · have h4 : m108 (t.ins.get p).op = false := h4
    rw [show r7 t p q = r9 t p q from by simp only [r7, show ((t.ins.get p).a == (t.ins.get q).a) = true from h, h4, show ((t.ins.get p).b == (t.ins.get q).b) = false from h5, boolL]]
    exact GoalF.rename [0, 1, 2] rfl (GoalF.le (st65_9 t i j p q) (by repeat' (first | exact trivial | refine wk1 rfl ?_)) (rc (rc (rc (.nil)))) rfl (lp65_9 t i j p q hp hq hS ha hb (fun _ => ⟨hm.b p hp h1 h4, hm.b q hq h2 (h3 ▸ h4)⟩)))
  · rw [show r7 t p q = r9 t p q from by simp only [r7, show ((t.ins.get p).a == (t.ins.get q).a) = false from h, boolL]]
    exact GoalF.rename [0, 1, 2] rfl (GoalF.le (st65_9 t i j p q) (by repeat' (first | exact trivial | refine wk1 rfl ?_)) (rc (rc (rc (.nil)))) rfl (lp65_9 t i j p q hp hq hS ha hb (fun e => by rw [show ((t.ins.get p).a == (t.ins.get q).a) = false from h] at e; cases e)))
theorem lp65_2 (t : TraceL) (i j p q : Nat) (hp : p < t.ins.n) (hq : q < t.ins.n) (hS : SmallT t) (hm : MemOK t) : GoalF 65 0 (EndsP (int (relL t p q))) (todoG 65 2) (st65_2 t i j p q) := by
  refine reachP (X := XG65) (stop := sp65) (vc65_2 _ _ t i j p q ?_)
  have np := inB_nat hp
  have nq := inB_nat hq
  refine nd_mk np (nd_mk nq (nd_mk np (nd_mk nq ⟨con107 _, ?_⟩)))
  refine br_mk (fun h1 => ?_) (fun h1 => ⟨con107 _, br_mk (fun h2 => ?_) (fun h2 => ⟨con108 _, con108 _, br_mk (fun h3 => ?_) (fun h3 => ⟨con108 _, ?_⟩)⟩)⟩)
  · rw [show relL t p q = 0 from by simp only [relL, show (!memo (t.ins.get p).op) = true from h1, boolL]]; exact DLe.refl _
  · rw [show relL t p q = 0 from by simp only [relL, show (!memo (t.ins.get q).op) = true from h2, boolL]]; exact DLe.refl _
  · rw [show relL t p q = 0 from by simp only [relL, show (!(m108 (t.ins.get p).op == m108 (t.ins.get q).op)) = true from h3, boolL]]; exact DLe.refl _
  · have h1' : (!memo (t.ins.get p).op) = false := h1
    have h2' : (!memo (t.ins.get q).op) = false := h2
    have h3' : (!(m108 (t.ins.get p).op == m108 (t.ins.get q).op)) = false := h3
    have e1 : memo (t.ins.get p).op = true := by simpa using h1'
    have e2 : memo (t.ins.get q).op = true := by simpa using h2'
    have e3 : m108 (t.ins.get p).op = m108 (t.ins.get q).op := by simpa using h3'
    have fin : relL t p q = r7 t p q → ∀ s, s = st65_7 t i j p q → GoalF 65 0 (EndsP (int (relL t p q))) (todoG 65 7) s := fun e s q' => by rw [e, q']; exact lp65_7 t i j p q hp hq hS hm e1 e2 e3
    refine br_mk (fun h4 => br_mk (fun h5 => ?_) (fun h5 => ?_)) (fun h4 => ?_)
    · rw [show relL t p q = 0 from by simp only [relL, show m108 (t.ins.get p).op = true from h4, show ((t.ins.get p).n != (t.ins.get q).n) = true from h5, boolL]]; exact DLe.refl _
    · exact GoalF.rename [0, 1, 2] rfl (GoalF.le (st65_7 t i j p q) (by repeat' (first | exact trivial | refine wk1 rfl ?_)) (rc (rc (rc (.nil)))) rfl (fin (by simp only [relL, h1', h2', h3', show ((t.ins.get p).n != (t.ins.get q).n) = false from h5, boolL]) _ rfl))
    · exact GoalF.rename [0, 1, 2] rfl (GoalF.le (st65_7 t i j p q) (by repeat' (first | exact trivial | refine wk1 rfl ?_)) (rc (rc (rc (.nil)))) rfl (fin (by simp only [relL, h1', h2', show m108 (t.ins.get p).op = false from h4, show m108 (t.ins.get q).op = false from e3 ▸ h4, beq_self_eq_true, boolL]) _ rfl))
theorem con65 (t : TraceL) (i j : Nat) (hi : i < t.ins.n) (hj : j < t.ins.n) (hS : SmallT t) (hm : MemOK t) : LC 65 [dTrace t, int i, int j] [] (int (relL t (min i j) (max i j))) [] := by
  refine pure_vc (X := XG65) (stop := sp65) fn65 (nlb (by kernel_rfl)) (vc65 _ _ t i j ?_)
  rw [show (if (j : Int) < (i : Int) then (j : Int) else (i : Int)) = ((min i j : Nat) : Int) from by split <;> omega, show (if (j : Int) > (i : Int) then (j : Int) else (i : Int)) = ((max i j : Nat) : Int) from by split <;> omega]
  exact lp65_2 t i j _ _ (by omega) (by omega) hS hm
noncomputable def XG66 : Spc := { F := F12 }
def sp66 : Nat → Bool := fun i => Nat.beq i 5
theorem fn66 : Fn 66 := ⟨by kernel_rfl, by kernel_rfl⟩
theorem vc66 (L : LP) (QD : D → Prop) (t : TraceL) (p q : Nat) (h : nd (inB (↑p : Int) t.2.1) ( nd (inB (↑q : Int) t.2.1) ( ( LC 104 [(int ((t.ins.2 p).1))] [] (bool (m104 (t.ins.2 p).1)) [] ∧ br (!m104 (t.ins.2 p).1) ( ( LC 63 [(int ((t.ins.2 p).1))] [] (bool (m63 (t.ins.2 p).1)) [] ∧ br (!m63 (t.ins.2 p).1) ( QD (int 0)) ( ( LC 104 [(int ((t.ins.2 q).1))] [] (bool (m104 (t.ins.2 q).1)) [] ∧ br (!m104 (t.ins.2 q).1) ( ( LC 63 [(int ((t.ins.2 q).1))] [] (bool (m63 (t.ins.2 q).1)) [] ∧ br (!m63 (t.ins.2 q).1) ( QD (int 0)) ( ( LC 110 [(int ((t.ins.2 p).1))] [] (bool (m110 (t.ins.2 p).1)) [] ∧ ( LC 110 [(int ((t.ins.2 q).1))] [] (bool (m110 (t.ins.2 q).1)) [] ∧ br (!m110 (t.ins.2 p).1 == m110 (t.ins.2 q).1) ( QD (int 0)) ( L (todoG 66 5) ⟨[(1, ((int (↑p : Int)), [])), (3, ((.c (.rt 0 0 0)), [])), (7, ((.c (.rt 1 0 0)), [])), (8, ((.c (.rt 2 0 0)), [])), (51, ((bool false), []))], [(.box (lift (lTrace (t)))), (.box (lift (lIns (t.ins.2 p)))), (.box (lift (lIns (t.ins.2 q)))), .dead, .dead, .dead, .dead, .dead, .dead], []⟩)))))) ( ( LC 110 [(int ((t.ins.2 p).1))] [] (bool (m110 (t.ins.2 p).1)) [] ∧ ( LC 110 [(int ((t.ins.2 q).1))] [] (bool (m110 (t.ins.2 q).1)) [] ∧ br (!m110 (t.ins.2 p).1 == m110 (t.ins.2 q).1) ( QD (int 0)) ( L (todoG 66 5) ⟨[(1, ((int (↑p : Int)), [])), (3, ((.c (.rt 0 0 0)), [])), (7, ((.c (.rt 1 0 0)), [])), (8, ((.c (.rt 2 0 0)), [])), (51, ((bool false), []))], [(.box (lift (lTrace (t)))), (.box (lift (lIns (t.ins.2 p)))), (.box (lift (lIns (t.ins.2 q)))), .dead, .dead, .dead, .dead, .dead, .dead], []⟩)))))))) ( ( LC 104 [(int ((t.ins.2 q).1))] [] (bool (m104 (t.ins.2 q).1)) [] ∧ br (!m104 (t.ins.2 q).1) ( ( LC 63 [(int ((t.ins.2 q).1))] [] (bool (m63 (t.ins.2 q).1)) [] ∧ br (!m63 (t.ins.2 q).1) ( QD (int 0)) ( ( LC 110 [(int ((t.ins.2 p).1))] [] (bool (m110 (t.ins.2 p).1)) [] ∧ ( LC 110 [(int ((t.ins.2 q).1))] [] (bool (m110 (t.ins.2 q).1)) [] ∧ br (!m110 (t.ins.2 p).1 == m110 (t.ins.2 q).1) ( QD (int 0)) ( L (todoG 66 5) ⟨[(1, ((int (↑p : Int)), [])), (3, ((.c (.rt 0 0 0)), [])), (7, ((.c (.rt 1 0 0)), [])), (8, ((.c (.rt 2 0 0)), [])), (51, ((bool false), []))], [(.box (lift (lTrace (t)))), (.box (lift (lIns (t.ins.2 p)))), (.box (lift (lIns (t.ins.2 q)))), .dead, .dead, .dead, .dead, .dead, .dead], []⟩)))))) ( ( LC 110 [(int ((t.ins.2 p).1))] [] (bool (m110 (t.ins.2 p).1)) [] ∧ ( LC 110 [(int ((t.ins.2 q).1))] [] (bool (m110 (t.ins.2 q).1)) [] ∧ br (!m110 (t.ins.2 p).1 == m110 (t.ins.2 q).1) ( QD (int 0)) ( L (todoG 66 5) ⟨[(1, ((int (↑p : Int)), [])), (3, ((.c (.rt 0 0 0)), [])), (7, ((.c (.rt 1 0 0)), [])), (8, ((.c (.rt 2 0 0)), [])), (51, ((bool false), []))], [(.box (lift (lTrace (t)))), (.box (lift (lIns (t.ins.2 p)))), (.box (lift (lIns (t.ins.2 q)))), .dead, .dead, .dead, .dead, .dead, .dead], []⟩)))))))))) : vcF XG66 66 sp66 L (endP QD) [dTrace t, int p, int q] [] := Eq.mp (by kernel_rfl) h
noncomputable def st66_5 (t : TraceL) (p q : Nat)  : VS := ⟨[(1, (.c (.im (.v (.int .i64 (↑p : Int))))), []), (3, (.c (.rt 0 0 0)), []), (7, (.c (.rt 1 0 0)), []), (8, (.c (.rt 2 0 0)), [])], [(.box (lift (lTrace (t)))), (.box (lift (lIns (t.ins.2 p)))), (.box (lift (lIns (t.ins.2 q))))], []⟩
theorem vc66_5 (L : LP) (QD : D → Prop) (t : TraceL) (p q : Nat)  (h : ( LC 110 [(int ((t.ins.2 p).1))] [] (bool (m110 (t.ins.2 p).1)) [] ∧ br (m110 (t.ins.2 p).1) ( br ((t.ins.2 p).5 != (t.ins.2 q).5) ( QD (int 0)) ( br ((t.ins.2 p).2 == (t.ins.2 q).2) ( QD (int 2)) ( ( LC 111 [(.a (lift (lTrace (t)))), (int ((t.ins.2 p).2)), (int ((t.ins.2 q).2)), (int (↑p : Int))] [] (bool (apR t (t.ins.2 p).2 (t.ins.2 q).2 p)) [] ∧ br (apR t (t.ins.2 p).2 (t.ins.2 q).2 p) ( QD (int 0)) ( QD (int 1)))))) ( br ((t.ins.2 p).2 == (t.ins.2 q).2) ( br ((t.ins.2 p).3 == (t.ins.2 q).3) ( QD (int 2)) ( nd (inB (t.ins.2 p).3 t.2.1) ( nd (inB (t.ins.2 q).3 t.2.1) ( br ((t.ins.2 (t.ins.2 p).3.toNat).1 == 2) ( br ((t.ins.2 (t.ins.2 q).3.toNat).1 == 2) ( br ((t.ins.2 (t.ins.2 p).3.toNat).7.1 == 3) ( br ((t.ins.2 (t.ins.2 q).3.toNat).7.1 == 3) ( br ((t.ins.2 (t.ins.2 p).3.toNat).7.2 != (t.ins.2 (t.ins.2 q).3.toNat).7.2) ( QD (int 0)) ( QD (int 1))) ( QD (int 1))) ( QD (int 1))) ( QD (int 1))) ( QD (int 1)))))) ( ( LC 111 [(.a (lift (lTrace (t)))), (int ((t.ins.2 p).2)), (int ((t.ins.2 q).2)), (int (↑p : Int))] [] (bool (apR t (t.ins.2 p).2 (t.ins.2 q).2 p)) [] ∧ br (apR t (t.ins.2 p).2 (t.ins.2 q).2 p) ( QD (int 0)) ( QD (int 1))))))) : vcR XG66 66 sp66 L (endP QD) 5 (st66_5 t p q ) := Eq.mp (by kernel_rfl) h
theorem lp66_5 (t : TraceL) (p q : Nat) (hp : p < t.ins.n) (hq : q < t.ins.n) (hS : SmallT t) (hm : MemOK t) (h1 : memo (t.ins.get p).op = true) (h2 : memo (t.ins.get q).op = true) (h3 : m108 (t.ins.get p).op = m108 (t.ins.get q).op) : GoalF 66 0 (EndsP (int (s5 t p q))) (todoG 66 5) (st66_5 t p q) := by
  have ha := hm.a p hp h1
  have hb := hm.a q hq h2
  refine reachP (X := XG66) (stop := sp66) (vc66_5 _ _ t p q ⟨con110 _, ?_⟩)
  refine br_mk (fun h4 => ?_) (fun h4 => ?_)
  · have h4 : m110 (t.ins.get p).op = true := h4
    refine br_mk (fun h5 => ?_) (fun h5 => br_mk (fun h6 => ?_) (fun h6 => ⟨con111 t _ _ p ha hb (by omega) hS, br_mk (fun h7 => ?_) (fun h7 => ?_)⟩))
    · rw [show s5 t p q = 0 from by simp only [s5, h4, show ((t.ins.get p).n != (t.ins.get q).n) = true from h5, boolL]]; exact DLe.refl _
    · rw [show s5 t p q = 2 from by simp only [s5, h4, show ((t.ins.get p).n != (t.ins.get q).n) = false from h5, show ((t.ins.get p).a == (t.ins.get q).a) = true from h6, boolL]]; exact DLe.refl _
    · rw [show s5 t p q = 0 from by simp only [s5, h4, show ((t.ins.get p).n != (t.ins.get q).n) = false from h5, show ((t.ins.get p).a == (t.ins.get q).a) = false from h6, show apR t (t.ins.get p).a (t.ins.get q).a p = true from h7, boolL]]; exact DLe.refl _
    · rw [show s5 t p q = 1 from by simp only [s5, h4, show ((t.ins.get p).n != (t.ins.get q).n) = false from h5, show ((t.ins.get p).a == (t.ins.get q).a) = false from h6, show apR t (t.ins.get p).a (t.ins.get q).a p = false from h7, boolL]]; exact DLe.refl _
  · have h4 : m110 (t.ins.get p).op = false := h4
    have hc := hm.b p hp h1 h4
    have hd := hm.b q hq h2 (h3 ▸ h4)
    refine br_mk (fun h5 => br_mk (fun h6 => ?_) (fun h6 => nd_mk hc (nd_mk hd ?_))) (fun h5 => ⟨con111 t _ _ p ha hb (by omega) hS, br_mk (fun h7 => ?_) (fun h7 => ?_)⟩)
    · rw [show s5 t p q = 2 from by simp only [s5, h4, show ((t.ins.get p).a == (t.ins.get q).a) = true from h5, show ((t.ins.get p).b == (t.ins.get q).b) = true from h6, boolL]]; exact DLe.refl _
    · have h5 : ((t.ins.get p).a == (t.ins.get q).a) = true := h5
      have h6 : ((t.ins.get p).b == (t.ins.get q).b) = false := h6
      clear hc hd hm ha hb hS h1 h2 h3
      repeat' (first | refine br_mk (fun h => ?_) (fun h => ?_) | done)
      all_goals first
        | (have e : s5 t p q = 0 := by (simp only [s5, cstL, *, boolL]; done)
           rw [e]; exact DLe.refl _)
        | (have e : s5 t p q = 1 := by (simp only [s5, cstL, *, boolL]; done)
           rw [e]; exact DLe.refl _)
    · rw [show s5 t p q = 0 from by simp only [s5, h4, show ((t.ins.get p).a == (t.ins.get q).a) = false from h5, show apR t (t.ins.get p).a (t.ins.get q).a p = true from h7, boolL]]; exact DLe.refl _
    · rw [show s5 t p q = 1 from by simp only [s5, h4, show ((t.ins.get p).a == (t.ins.get q).a) = false from h5, show apR t (t.ins.get p).a (t.ins.get q).a p = false from h7, boolL]]; exact DLe.refl _
theorem con66 (t : TraceL) (p q : Nat) (hp : p < t.ins.n) (hq : q < t.ins.n) (hS : SmallT t) (hm : MemOK t) : LC 66 [dTrace t, int p, int q] [] (int (aliR t p q)) [] := by
  refine pure_vc (X := XG66) (stop := sp66) fn66 (nlb (by kernel_rfl)) (vc66 _ _ t p q (nd_mk (inB_nat hp) (nd_mk (inB_nat hq) ?_)))
  have fin : memo (t.ins.get p).op = true → memo (t.ins.get q).op = true → (m110 (t.ins.get p).op == m110 (t.ins.get q).op) = true → aliR t p q = s5 t p q → ∀ s, s = st66_5 t p q → GoalF 66 0 (EndsP (int (aliR t p q))) (todoG 66 5) s := fun a b c e s q' => by
    have c : m110 (t.ins.get p).op = m110 (t.ins.get q).op := by simpa using c
    rw [e, q']; exact lp66_5 t p q hp hq hS hm a b c
  clear hp hq hS hm
  repeat' (first | refine br_mk (fun h => ?_) (fun h => ?_) | refine ⟨con104 _, ?_⟩ | refine ⟨con63 _, ?_⟩ | refine ⟨con110 _, ?_⟩ | done)
  all_goals (try simp only [Bool.not_eq_true', Bool.not_eq_false'] at *)
  all_goals first
    | (have e : aliR t p q = 0 := by (simp only [aliR, *, boolL]; done)
       rw [e]; exact DLe.refl _)
    | exact GoalF.rename [0, 1, 2] rfl (GoalF.le (st66_5 t p q) (by repeat' (first | exact trivial | refine wk1 rfl ?_)) (rc (rc (rc (.nil)))) rfl (fin (by simp only [memo, ← m104_eq, ← m63_eq, *, boolL]) (by simp only [memo, ← m104_eq, ← m63_eq, *, boolL]) (by assumption) (by simp only [aliR, *, boolL]) _ rfl))
noncomputable def XG28 : Spc := { F := F12 }
def sp28 : Nat → Bool := noStop
theorem fn28 : Fn 28 := ⟨by kernel_rfl, by kernel_rfl⟩
theorem vc28 (L : LP) (QD : D → Prop) (t : TraceL) (i j : Int) (h : ( LC 18 [(.a (lift (lTrace (t))))] [] (int (rightL t)) [] ∧ br (rightL t != 0) ( QD (int 0)) ( br (decide ((if j < i then j else i) < 0)) ( QD (int 0)) ( br (decide ((if j > i then j else i) ≥ (↑t.2.1 : Int))) ( QD (int 0)) ( ( LC 65 [(.a (lift (lTrace (t)))), (int i), (int j)] [] (int (relL t (min i.toNat j.toNat) (max i.toNat j.toNat))) [] ∧ QD (int (relL t (min i.toNat j.toNat) (max i.toNat j.toNat))))))))) : vcF XG28 28 sp28 L (endP QD) [dTrace t, int i, int j] [] := Eq.mp (by kernel_rfl) h
noncomputable def lasL (t : TraceL) (i j : Int) : Int := bif rightL t != 0 then 0 else bif decide (min i j < 0) || decide (max i j ≥ (t.ins.n : Int)) then 0 else relL t (min i.toNat j.toNat) (max i.toNat j.toNat)
theorem con28 (t : TraceL) (i j : Int) (hS : SmallT t) (hm : rightL t = 0 → MemOK t) : LC 28 [dTrace t, int i, int j] [] (int (lasL t i j)) [] := by
  refine pure_vc (X := XG28) (stop := sp28) fn28 (nlb (by kernel_rfl)) (vc28 _ _ t i j ⟨con18 t hS, ?_⟩)
  have e1 : (if j < i then j else i) = min i j := by split <;> omega
  have e2 : (if j > i then j else i) = max i j := by split <;> omega
  rw [e1, e2]
  refine br_mk (fun h => ?_) (fun h => br_mk (fun h2 => ?_) (fun h2 => br_mk (fun h3 => ?_) (fun h3 => ?_)))
  · rw [show lasL t i j = 0 from by simp only [lasL, show (rightL t != 0) = true from h, boolL]]; exact DLe.refl _
  · rw [show lasL t i j = 0 from by simp only [lasL, show (rightL t != 0) = false from h, show decide (min i j < 0) = true from h2, boolL]]; exact DLe.refl _
  · rw [show lasL t i j = 0 from by simp only [lasL, show (rightL t != 0) = false from h, show decide (max i j ≥ (t.ins.n : Int)) = true from h3, boolL]]; exact DLe.refl _
  · rw [show lasL t i j = relL t (min i.toNat j.toNat) (max i.toNat j.toNat) from by simp only [lasL, show (rightL t != 0) = false from h, show decide (min i j < 0) = false from h2, show decide (max i j ≥ (t.ins.n : Int)) = false from h3, boolL]]
    have g1 := of_decide_eq_false h2
    have g2 := of_decide_eq_false h3
    have hr : rightL t = 0 := by simpa using h
    obtain ⟨a, rfl⟩ := Int.eq_ofNat_of_zero_le (show 0 ≤ i by omega)
    obtain ⟨b, rfl⟩ := Int.eq_ofNat_of_zero_le (show 0 ≤ j by omega)
    exact ⟨con65 t a b (by omega) (by omega) hS (hm hr), DLe.refl _⟩
noncomputable def XG29 : Spc := { F := F12 }
def sp29 : Nat → Bool := noStop
theorem fn29 : Fn 29 := ⟨by kernel_rfl, by kernel_rfl⟩
theorem vc29 (L : LP) (QD : D → Prop) (t : TraceL) (i j : Int) (h : ( LC 40 [(.a (lift (lTrace (t))))] [] (int (rightR t)) [] ∧ br (rightR t != 0) ( QD (int 0)) ( br (decide (i < 0)) ( QD (int 0)) ( br (decide (j < 0)) ( QD (int 0)) ( br (decide (i ≥ (↑t.2.1 : Int))) ( QD (int 0)) ( br (decide (j ≥ (↑t.2.1 : Int))) ( QD (int 0)) ( ( LC 66 [(.a (lift (lTrace (t)))), (int (if j < i then j else i)), (int (if j > i then j else i))] [] (int (aliR t (aI [D.a (lift [iI t.1.1, iI t.1.2, sqI 14 eIns t.2, sqI 3 eExit t.3]), D.c (C.im (I.v (Value.int IntKind.i64 (if j < i then j else i)))), D.c (C.im (I.v (Value.int IntKind.i64 (if j > i then j else i))))] 1).toNat (aI [D.a (lift [iI t.1.1, iI t.1.2, sqI 14 eIns t.2, sqI 3 eExit t.3]), D.c (C.im (I.v (Value.int IntKind.i64 (if j < i then j else i)))), D.c (C.im (I.v (Value.int IntKind.i64 (if j > i then j else i))))] 2).toNat)) [] ∧ QD (int (aliR t (aI [D.a (lift [iI t.1.1, iI t.1.2, sqI 14 eIns t.2, sqI 3 eExit t.3]), D.c (C.im (I.v (Value.int IntKind.i64 (if j < i then j else i)))), D.c (C.im (I.v (Value.int IntKind.i64 (if j > i then j else i))))] 1).toNat (aI [D.a (lift [iI t.1.1, iI t.1.2, sqI 14 eIns t.2, sqI 3 eExit t.3]), D.c (C.im (I.v (Value.int IntKind.i64 (if j < i then j else i)))), D.c (C.im (I.v (Value.int IntKind.i64 (if j > i then j else i))))] 2).toNat)))))))))) : vcF XG29 29 sp29 L (endP QD) [dTrace t, int i, int j] [] := Eq.mp (by kernel_rfl) h
noncomputable def lasR (t : TraceL) (i j : Int) : Int := bif rightR t != 0 then 0 else bif decide (i < 0) || (decide (j < 0) || (decide (i ≥ (t.ins.n : Int)) || decide (j ≥ (t.ins.n : Int)))) then 0 else aliR t (min i.toNat j.toNat) (max i.toNat j.toNat)
theorem con29 (t : TraceL) (i j : Int) (hS : SmallT t) (hm : rightR t = 0 → MemOK t) : LC 29 [dTrace t, int i, int j] [] (int (lasR t i j)) [] := by
  refine pure_vc (X := XG29) (stop := sp29) fn29 (nlb (by kernel_rfl)) (vc29 _ _ t i j ⟨con40 t hS, ?_⟩)
  refine br_mk (fun h => ?_) (fun h => br_mk (fun h2 => ?_) (fun h2 => br_mk (fun h3 => ?_) (fun h3 => br_mk (fun h4 => ?_) (fun h4 => br_mk (fun h5 => ?_) (fun h5 => ?_)))))
  · rw [show lasR t i j = 0 from by simp only [lasR, show (rightR t != 0) = true from h, boolL]]; exact DLe.refl _
  · rw [show lasR t i j = 0 from by simp only [lasR, show (rightR t != 0) = false from h, show decide (i < 0) = true from h2, boolL]]; exact DLe.refl _
  · rw [show lasR t i j = 0 from by simp only [lasR, show (rightR t != 0) = false from h, show decide (j < 0) = true from h3, boolL]]; exact DLe.refl _
  · rw [show lasR t i j = 0 from by simp only [lasR, show (rightR t != 0) = false from h, show decide (i ≥ (t.ins.n : Int)) = true from h4, boolL]]; exact DLe.refl _
  · rw [show lasR t i j = 0 from by simp only [lasR, show (rightR t != 0) = false from h, show decide (j ≥ (t.ins.n : Int)) = true from h5, boolL]]; exact DLe.refl _
  · rw [show lasR t i j = aliR t (min i.toNat j.toNat) (max i.toNat j.toNat) from by simp only [lasR, show (rightR t != 0) = false from h, show decide (i < 0) = false from h2, show decide (j < 0) = false from h3, show decide (i ≥ (t.ins.n : Int)) = false from h4, show decide (j ≥ (t.ins.n : Int)) = false from h5, boolL]]
    have g1 := of_decide_eq_false h2
    have g2 := of_decide_eq_false h3
    have g3 := of_decide_eq_false h4
    have g4 := of_decide_eq_false h5
    have hr : rightR t = 0 := by simpa using h
    obtain ⟨a, rfl⟩ := Int.eq_ofNat_of_zero_le (show 0 ≤ i by omega)
    obtain ⟨b, rfl⟩ := Int.eq_ofNat_of_zero_le (show 0 ≤ j by omega)
    have e1 : (if (b : Int) < (a : Int) then (b : Int) else (a : Int)) = ((min a b : Nat) : Int) := by split <;> omega
    have e2 : (if (b : Int) > (a : Int) then (b : Int) else (a : Int)) = ((max a b : Nat) : Int) := by split <;> omega
    rw [e1, e2]
    exact ⟨con66 t (min a b) (max a b) (by omega) (by omega) hS (hm hr), DLe.refl _⟩
open Go Go.V
theorem elemI_iff {n : Int} : ∀ {l : List Int}, elemI n l = true ↔ n ∈ l
  | [] => by simp [elemI]
  | x :: l => by
    unfold elemI
    split
    · rename_i h; simp at h; simp [h]
    · rename_i h
      simp only [beq_eq_false_iff_ne] at h
      rw [elemI_iff]
      simp [h]
theorem elemI_add {n m : Int} {l : List Int} : elemI n (addI m l) = (elemI n l || (n == m)) := by
  rw [Bool.eq_iff_iff, elemI_iff, Bool.or_eq_true, elemI_iff, beq_iff_eq]
  unfold addI
  split
  · rename_i h
    rw [elemI_iff] at h
    exact ⟨.inl, fun q => q.elim id fun q => q ▸ h⟩
  · simp
theorem vset_iff {x : Sq VirtL} {v : Int} : ∀ {j : Nat}, elemI v (vset x j) = true ↔ ∃ i, i < j ∧ (x.get i).value = v
  | 0 => by simp [vset, elemI]
  | j + 1 => by
    rw [show vset x (j + 1) = addI (x.get j).value (vset x j) from rfl, elemI_add, Bool.or_eq_true, vset_iff, beq_iff_eq]
    constructor
    · rintro (⟨i, h1, h2⟩ | h)
      · exact ⟨i, by omega, h2⟩
      · exact ⟨j, by omega, h.symm⟩
    · rintro ⟨i, h1, h2⟩
      by_cases e : i = j
      · subst e; exact .inr h2.symm
      · exact .inl ⟨i, by omega, h2⟩
theorem objL_neg {x : Sq VirtL} {v : Int} : decide (objL x v < 0) = !elemI v (vset x x.n) := by
  rw [Bool.eq_iff_iff, decide_eq_true_iff, Bool.not_eq_true', ← Bool.not_eq_true, vset_iff]
  unfold objL
  rcases idxF_spec (fun i => (x.get i).value == v) x.n with ⟨h1, h2⟩ | ⟨i, h1, h2, h3, h4⟩
  · rw [h1]
    refine ⟨fun _ => ?_, fun _ => by omega⟩
    rintro ⟨i, h3, h4⟩
    have := h2 i h3
    simp [h4] at this
  · rw [h1]
    refine ⟨fun h => by omega, fun h => ?_⟩
    exact absurd ⟨i, h2, by simpa using h3⟩ h
theorem objL_first {x : Sq VirtL} {j : Nat} (hj : j < x.n) : (objL x (x.get j).value != (j : Int)) = elemI (x.get j).value (vset x j) := by
  rw [Bool.eq_iff_iff, vset_iff, bne_iff_ne]
  unfold objL
  rcases idxF_spec (fun i => (x.get i).value == (x.get j).value) x.n with ⟨h1, h2⟩ | ⟨i, h1, h2, h3, h4⟩
  · have := h2 j hj
    simp at this
  · rw [h1]
    constructor
    · intro h
      have : ¬ j < i := fun q => by have := h4 j q; simp at this
      exact ⟨i, by omega, by simpa using h3⟩
    · rintro ⟨m, h5, h6⟩ e
      have e : i = j := by omega
      subst e
      have := h4 m h5
      simp [h6] at this
theorem sameSq_comm {a b : Sq ByteArray} : sameSq eqS a b = sameSq eqS b a := by
  unfold sameSq
  by_cases h : a.n = b.n
  · rw [h]
    rw [show (fun i => eqS (a.get i) (b.get i)) = fun i => eqS (b.get i) (a.get i) from funext fun i => eqS_comm _ _]
  · have h1 : (a.n == b.n) = false := by simpa using h
    have h2 : (b.n == a.n) = false := by simpa using fun e => h e.symm
    rw [h1, h2]; rfl
theorem allF_congr {p q : Nat → Bool} {n : Nat} (h : ∀ i, i < n → p i = q i) : allF p n = allF q n := scanA_congr fun i _ hi => h i (by omega)
theorem allF_app {p : Int → Bool} (x y : Sq Int) : allF (fun i => p ((appSq x y).get i)) (appSq x y).n = (allF (fun i => p (x.get i)) x.n && allF (fun i => p (y.get i)) y.n) := by
  have g : ∀ i, (appSq x y).get i = if i < x.n then x.get i else y.get (i - x.n) := fun i => by
    show (Bool.rec (y.get (i - x.n)) (x.get i) (Nat.blt i x.n) : Int) = _
    cases hb : Nat.blt i x.n with
    | true => rw [if_pos (by simpa [Nat.blt_eq] using hb)]
    | false => rw [if_neg (fun q => by rw [blt_ok q] at hb; cases hb)]
  rw [Bool.eq_iff_iff, Bool.and_eq_true, allF_iff, allF_iff, allF_iff]
  constructor
  · intro h
    refine ⟨fun i hi => ?_, fun i hi => ?_⟩
    · have := h i (by show i < x.n + y.n; omega)
      simpa [g, hi] using this
    · have := h (x.n + i) (by show x.n + i < x.n + y.n; omega)
      rw [g, if_neg (by omega), Nat.add_sub_cancel_left] at this
      exact this
  · rintro ⟨h1, h2⟩ i hi
    have hi : i < x.n + y.n := hi
    rw [g]
    split
    · rename_i h; exact h1 i h
    · exact h2 _ (by omega)
theorem allF_cat {p : Int → Bool} {g : Nat → Sq Int} : ∀ {m k : Nat} {l : Sq Int}, allF (fun i => p ((catU g m k l).get i)) (catU g m k l).n = (allF (fun i => p (l.get i)) l.n && scanA (fun j => allF (fun i => p ((g j).get i)) (g j).n) m k)
  | 0, k, l => by simp [catU, scanA]
  | m + 1, k, l => by
    rw [show catU g (m + 1) k l = catU g m (k + 1) (appSq l (g k)) from rfl, allF_cat, allF_app]
    show _ = (allF (fun i => p (l.get i)) l.n && (bif allF (fun i => p ((g k).get i)) (g k).n then scanA (fun j => allF (fun i => p ((g j).get i)) (g j).n) m (k + 1) else false))
    cases allF (fun i => p ((g k).get i)) (g k).n <;> simp
theorem exitRL (t : TraceL) (e : ExitL) (k : Int) : exitR t e k = exitL t e k := by
  have e1 : allF (obR t e k) e.objs.n = allF (obL t e k) e.objs.n := allF_congr fun j hj => by
    unfold obR obL
    rw [objL_first hj, sameSq_comm (a := (e.objs.get j).names), bne_comm (a := (e.objs.get j).cls)]
    generalize (!valL t (e.objs.get j).value k) = a
    generalize ((t.ins.get (e.objs.get j).value.toNat).op != 17) = b
    generalize elemI (e.objs.get j).value (vset e.objs j) = c
    generalize ((t.ins.get (e.objs.get j).value.toNat).n != (e.objs.get j).cls) = d
    generalize (!sameSq eqS (t.ins.get (e.objs.get j).value.toNat).names (e.objs.get j).names) = f
    generalize (((e.objs.get j).items.n : Int) != ((e.objs.get j).names.n : Int)) = g
    revert a b c d f g
    decide
  have e2 : usR t e k = useL t k (vset e.objs e.objs.n) := funext fun v => by
    unfold usR useL
    rw [objL_neg]
    cases valL t v k <;> simp
  unfold exitR exitL x12 x21 allM
  rw [allF_cat (p := usR t e k), allF_cat (p := usR t e k), e1, e2]
  show _ = (_ && (_ && (_ && (allF (fun j => allF (fun i => useL t k (vset e.objs e.objs.n) ((e.frames.get j).vars.get i)) (e.frames.get j).vars.n) e.frames.n && allF (fun j => allF (fun i => useL t k (vset e.objs e.objs.n) ((e.objs.get j).items.get i)) (e.objs.get j).items.n) e.objs.n))))
  have e3 : allF (fun i => useL t k (vset e.objs e.objs.n) ((nilSq 0 : Sq Int).get i)) (nilSq 0 : Sq Int).n = true := rfl
  rw [e3, Bool.true_and]
  unfold allF
  generalize (!(decide ((e.frames.n : Int) < 1) || (decide ((e.frames.n : Int) > 6) || decide (e.back < 0)))) = a
  ac_rfl
end Go.Proofs.YtgbbdaegmfjahaaGreat
