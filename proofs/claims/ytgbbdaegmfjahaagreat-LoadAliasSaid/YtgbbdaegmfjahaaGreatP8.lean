/- What is made stays small. -/
import Derived.Test.YtgbbdaegmfjahaaGreatP7
set_option linter.unusedVariables false
set_option linter.unusedSimpArgs false
set_option linter.unusedSectionVars false
namespace Go.Proofs.YtgbbdaegmfjahaaGreat
open Go Go.V
structure GoodI (x : InsL) : Prop where
  n : x.n ≤ 9223372036854775807
  args : x.args.n ≤ 1000
  names : x.names.n ≤ 1000
  str : x.k.s.size ≤ 1000
structure Grow (s s' : Bst) (c d : Nat) : Prop where
  ins : s'.ins.n ≤ s.ins.n + c
  ex : s'.ex.n ≤ s.ex.n + d
  gi : (∀ k, k < s.ins.n → GoodI (s.ins.get k)) → ∀ k, k < s'.ins.n → GoodI (s'.ins.get k)
  ge : (∀ k, k < s.ex.n → SmallE (s.ex.get k)) → ∀ k, k < s'.ex.n → SmallE (s'.ex.get k)
theorem Grow.refl (s : Bst) : Grow s s 0 0 := ⟨Nat.le_refl _, Nat.le_refl _, fun h => h, fun h => h⟩
theorem Grow.trans {a b c : Bst} {m n m' n' : Nat} (h : Grow a b m n) (k : Grow b c m' n') : Grow a c (m + m') (n + n') :=
  ⟨by have := h.ins; have := k.ins; omega, by have := h.ex; have := k.ex; omega, fun q => k.gi (h.gi q), fun q => k.ge (h.ge q)⟩
theorem Grow.le {a b : Bst} {m n m' n' : Nat} (h : Grow a b m n) (h1 : m ≤ m') (h2 : n ≤ n') : Grow a b m' n' :=
  ⟨by have := h.ins; omega, by have := h.ex; omega, h.gi, h.ge⟩
theorem appSq_all {α : Type} {P : α → Prop} {s : Sq α} {x : α} (h : ∀ k, k < s.n → P (s.get k)) (hx : P x) : ∀ k, k < (appSq s ⟨1, fun _ => x⟩).n → P ((appSq s ⟨1, fun _ => x⟩).get k) := by
  intro k hk
  show P (Bool.rec x (s.get k) (Nat.blt k s.n))
  cases hb : Nat.blt k s.n with
  | true => exact h k (by simpa [Nat.blt_eq] using hb)
  | false => exact hx
theorem Grow.add (s : Bst) (p : Nat) {x : InsL} (hx : GoodI x) : Grow s ⟨p, snI s.ins x, s.ex⟩ 1 0 :=
  ⟨Nat.le_refl _, Nat.le_refl _, fun h => appSq_all h hx, fun h => h⟩
theorem Grow.both (s : Bst) (p : Nat) {x : InsL} {e : ExitL} (hx : GoodI x) (he : SmallE e) : Grow s ⟨p, snI s.ins x, snE s.ex e⟩ 1 1 :=
  ⟨Nat.le_refl _, Nat.le_refl _, fun h => appSq_all h hx, fun h => appSq_all h he⟩
theorem wrap_le (k : Int) : IntKind.i64.wrap k ≤ 9223372036854775807 := by
  have e1 : (2 ^ IntKind.i64.bits : Int) = 18446744073709551616 := by rfl
  have e2 : (2 ^ (IntKind.i64.bits - 1) : Int) = 9223372036854775808 := by rfl
  have e4 : IntKind.i64.signed = true := rfl
  unfold IntKind.wrap
  simp only [e1, e2, e4]
  have h1 : k % 18446744073709551616 < 18446744073709551616 := Int.emod_lt_of_pos _ (by omega)
  split
  · omega
  · rename_i h
    simp only [Bool.true_and, decide_eq_true_eq] at h
    omega
theorem nx_le {l : Sq Int} {p : Nat} {n : Int} (h2 : n ≤ 1000) : (nx l p n).1 ≤ 1000 := by
  by_cases h1 : 1 ≤ n
  · have := (nx_lt (l := l) (p := p) h1 (by omega)).2
    omega
  · unfold nx
    rw [show decide (n < 1) = true from decide_eq_true (by omega)]
    cases decide ((p : Int) ≥ (l.n : Int)) <;> simp
theorem good_mk {op a b c n e : Int} (h : n ≤ 9223372036854775807) : GoodI (mkI op a b c n e) := ⟨h, Nat.zero_le _, Nat.zero_le _, Nat.zero_le _⟩
theorem GoodI.exit {x : InsL} (h : GoodI x) (e : Int) : GoodI { x with exit := e } := ⟨h.n, h.args, h.names, h.str⟩
theorem lvV_n (l : Sq Int) (ins : Sq InsL) : ∀ (m p : Nat) (h : Sq Int), (lvV l ins m p h).1.n = h.n + m
  | 0, p, h => rfl
  | m + 1, p, h => by
    show (lvV l ins m _ (appSq h ⟨1, fun _ => (vl l p ins).1⟩)).1.n = _
    rw [lvV_n]
    show h.n + 1 + m = _
    omega
theorem lv_small (l : Sq Int) (p : Nat) (ins : Sq InsL) (fuel : Int) (param : Nat) (h : param ≤ 1000) : SmallE (lv l p ins fuel param).1 := by
  have hv : (lvV l ins param p (nilSq 0)).1.n ≤ 1000 := by rw [lvV_n]; show 0 + param ≤ _; omega
  unfold lv lv6 lv7
  generalize ((nx l (nx l (lvV l ins param p (nilSq 0)).2 (fuel + 1)).2 5).1 == 0) = b
  cases b with
  | false =>
    refine ⟨by simp, fun j _ => hv, Nat.zero_le _, fun j hj => absurd hj (Nat.not_lt_zero j), fun j hj => absurd hj (Nat.not_lt_zero j)⟩
  | true =>
    refine ⟨by show 1 + 1 ≤ 1000; omega, ?_, Nat.zero_le _, fun j hj => absurd hj (Nat.not_lt_zero j), fun j hj => absurd hj (Nat.not_lt_zero j)⟩
    intro j _
    simp only [cond_true]
    show (Bool.rec (fr2 _) (⟨0, 0, (lvV l ins param p (nilSq 0)).1⟩ : FrameL) (Nat.blt j 1) : FrameL).vars.n ≤ 1000
    cases Nat.blt j 1 with
    | true => exact hv
    | false => show 2 ≤ 1000; omega
section
variable (l : Sq Int) (fuel : Int) (param : Nat) (hP : param ≤ 1000)
include hP
theorem kLA_grow {x : InsL} (hx : GoodI x) (p : Nat) (s : Bst) : Grow s (kLA l fuel param x p s) 1 1 :=
  Grow.both s _ (hx.exit _) (lv_small l p s.ins fuel param hP)
theorem k35_grow (c : Int) (s : Bst) : Grow s (k35 l c s) 1 0 := Grow.add s _ (good_mk (by have := nx_le (l := l) (p := s.p) (n := 2) (by omega); omega))
theorem k34_grow (c : Int) (s : Bst) : Grow s (k34 l param c s) 2 0 :=
  (Grow.add s _ (good_mk (by have := nx_le (l := l) (p := (nx l s.p (param : Int)).2) (n := 2) (by omega); omega))).trans (k35_grow l param hP c _)
theorem k33_grow (s : Bst) : Grow s (k33 l param s) 3 0 :=
  (Grow.add s s.p (x := { mkI 16 0 0 0 0 (-1) with names := ptN }) ⟨by decide, Nat.zero_le _, by decide, Nat.zero_le _⟩).trans (k34_grow l param hP _ _)
theorem k27_grow (c : Int) (s : Bst) : Grow s (k27 l c s) 1 0 := Grow.add s _ (good_mk (by have := nx_le (l := l) (p := (vl l s.p s.ins).2) (n := 2) (by omega); omega))
theorem k40_grow (x : InsL) (s : Bst) : Grow s (k40 l x s) 1 0 := by
  unfold k40
  cases (nx l s.p 2).1 == 0 with
  | true => exact Grow.add s _ (good_mk (by omega))
  | false => exact Grow.add s _ (good_mk (by omega))
theorem k47_grow (x : InsL) (s : Bst) : Grow s (k47 x s) 1 0 := Grow.add s _ (good_mk (by omega))
theorem k52_grow (x : InsL) (s : Bst) : Grow s (k52 l x s) 1 0 := Grow.add s _ ⟨by show (0 : Int) ≤ _; omega, Nat.zero_le _, Nat.zero_le _, Nat.zero_le _⟩
theorem k18_grow (c : Int) (s : Bst) : Grow s (k18 l fuel param c s) 1 1 := kLA_grow l fuel param hP (good_mk (by have := nx_le (l := l) (p := s.p) (n := 2) (by omega); omega)) _ s
theorem k3_grow (s : Bst) : Grow s (k3 l s) 1 0 := Grow.add s _ ⟨by show (0 : Int) ≤ _; omega, Nat.zero_le _, Nat.zero_le _, by
  show (kOf _ _).s.size ≤ 1000
  unfold kOf
  generalize Nat.beq _ 0 = a
  generalize Nat.beq _ 1 = b
  generalize Nat.beq _ 2 = c
  cases a <;> cases b <;> cases c <;> first | exact Nat.zero_le _ | (show 1 ≤ 1000; omega)⟩
theorem k7_grow (s : Bst) : Grow s (k7 l fuel param s) 1 1 := kLA_grow l fuel param hP (good_mk (wrap_le _)) _ s
theorem k11_grow (s : Bst) : Grow s (k11 l fuel param s) 1 1 := kLA_grow l fuel param hP (good_mk (wrap_le _)) _ s
theorem nOf_le (d : Nat) : nOf d ≤ 9223372036854775807 := by unfold nOf; cases Nat.beq d 0 <;> decide
theorem k15_grow (s : Bst) : Grow s (k15 l fuel param s) 2 2 := (kLA_grow l fuel param hP (good_mk (nOf_le param hP _)) _ s).trans (k18_grow l fuel param hP _ _)
theorem ksh_grow (s : Bst) : Grow s (ksh l fuel param s) 1 1 := Grow.both s _ ⟨by show (0 : Int) ≤ _; omega, Nat.zero_le _, by show 2 ≤ 1000; omega, Nat.zero_le _⟩ (lv_small l _ s.ins fuel param hP)
theorem k23_grow (s : Bst) : Grow s (k23 l fuel param s) 2 1 := (ksh_grow l fuel param hP s).trans (k35_grow l param hP _ _)
theorem k26_grow (s : Bst) : Grow s (k26 l fuel param s) 2 1 := (ksh_grow l fuel param hP s).trans (k27_grow l param hP _ _)
theorem k30_grow (s : Bst) : Grow s (k30 l fuel param s) 4 1 := (kLA_grow l fuel param hP (good_mk (by omega)) s.p s).trans (k33_grow l param hP _)
theorem k37_grow (s : Bst) : Grow s (k37 l fuel param s) 2 1 := (kLA_grow l fuel param hP (good_mk (by omega)) _ s).trans (k40_grow l param hP _ _)
theorem k44_grow (s : Bst) : Grow s (k44 l fuel param s) 2 1 := (kLA_grow l fuel param hP (good_mk (by omega)) _ s).trans (k47_grow param hP _ _)
theorem k49_grow (s : Bst) : Grow s (k49 l fuel param s) 2 1 := (kLA_grow l fuel param hP (good_mk (wrap_le _)) _ s).trans (k52_grow l param hP _ _)
theorem p_grow {s s' : Bst} {p : Nat} {c d : Nat} (h : Grow ⟨p, s.ins, s.ex⟩ s' c d) (h1 : c ≤ 4) (h2 : d ≤ 2) : Grow s s' 4 2 := by
  have := h.ins; have := h.ex
  refine ⟨?_, ?_, h.gi, h.ge⟩
  · have q : s'.ins.n ≤ s.ins.n + c := h.ins
    omega
  · have q : s'.ex.n ≤ s.ex.n + d := h.ex
    omega
theorem stp_grow (s : Bst) : Grow s (stp l fuel param s) 4 2 := by
  unfold stp
  generalize (nx l s.p 14).1 = t
  have G : ∀ {b : Bool} {x y : Bst}, Grow s x 4 2 → Grow s y 4 2 → Grow s (bif b then x else y) 4 2 := fun {b x y} h1 h2 => by cases b <;> assumption
  refine G (p_grow param hP (k3_grow l param hP _) (by omega) (by omega)) (G (p_grow param hP (k7_grow l fuel param hP _) (by omega) (by omega)) (G (p_grow param hP (k7_grow l fuel param hP _) (by omega) (by omega)) (G (p_grow param hP (k7_grow l fuel param hP _) (by omega) (by omega)) (G (p_grow param hP (k11_grow l fuel param hP _) (by omega) (by omega)) (G (p_grow param hP (k15_grow l fuel param hP _) (by omega) (by omega)) (G (p_grow param hP (k23_grow l fuel param hP _) (by omega) (by omega)) (G (p_grow param hP (k23_grow l fuel param hP _) (by omega) (by omega)) (G (p_grow param hP (k26_grow l fuel param hP _) (by omega) (by omega)) (G (p_grow param hP (k30_grow l fuel param hP _) (by omega) (by omega)) (G (p_grow param hP (k30_grow l fuel param hP _) (by omega) (by omega)) (G (p_grow param hP (k37_grow l fuel param hP _) (by omega) (by omega)) (G (p_grow param hP (k44_grow l fuel param hP _) (by omega) (by omega)) (p_grow param hP (k49_grow l fuel param hP _) (by omega) (by omega))))))))))))))
end
end Go.Proofs.YtgbbdaegmfjahaaGreat
set_option maxRecDepth 1000000
namespace Go.Proofs.YtgbbdaegmfjahaaGreat
open Go Go.V
noncomputable def F36s (l : Sq Int) (ds : List D) (rs : List Root) : Out := match ds with
  | [.c (.rt q _ _)] => match nthF rs q with
    | some (.box [.rt m a b, c, d, .sa i n, .sa j ne, .im (.v (.int .i64 fu)), .im (.v (.int .i64 pa))]) => match nthF rs m, nthF rs i, nthF rs j with
      | some (.box [y, .im (.v (.int .i64 p))]), some (.arr _ _ k get), some (.arr _ _ ke ge) =>
        (.t [], [(m, .box [y, .im (iI (stp l fu pa.toNat ⟨p.toNat, ⟨k, fun t => rIns (get t)⟩, ⟨ke, fun t => rExit (ge t)⟩⟩).p)]), (q, .box [.rt m a b, c, d, .sa (rs.length + 1) (stp l fu pa.toNat ⟨p.toNat, ⟨k, fun t => rIns (get t)⟩, ⟨ke, fun t => rExit (ge t)⟩⟩).ins.n, .sa rs.length (stp l fu pa.toNat ⟨p.toNat, ⟨k, fun t => rIns (get t)⟩, ⟨ke, fun t => rExit (ge t)⟩⟩).ex.n, .im (iI fu), .im (iI pa)]), (i, .dead), (j, .dead)],
          [exA (stp l fu pa.toNat ⟨p.toNat, ⟨k, fun t => rIns (get t)⟩, ⟨ke, fun t => rExit (ge t)⟩⟩).ex, insA (stp l fu pa.toNat ⟨p.toNat, ⟨k, fun t => rIns (get t)⟩, ⟨ke, fun t => rExit (ge t)⟩⟩).ins])
      | _, _, _ => badO
    | _ => badO
  | _ => badO
noncomputable def F11c (l : Sq Int) (sn : Sq InsL → InsL → Sq InsL) (sx : Sq ExitL → ExitL → Sq ExitL) (f : FuncId) (ds : List D) (rs : List Root) : Out := match f with
  | 36 => F36s l ds rs
  | f => F67 l sn sx f ds rs
noncomputable def X11 (l : Sq Int) (sn : Sq InsL → InsL → Sq InsL) (sx : Sq ExitL → ExitL → Sq ExitL) : Spc := { F := F11c l sn sx, W := W67 l, S := allS }
noncomputable def resR : Root := .box [.im (iI 0), .im (iI 0), .im (.v (.slice .none 0 0)), .im (.v (.slice .none 0 0))]
noncomputable def nilE : Sq ExitL := nilSq ⟨nilSq ⟨0, 0, nilSq 0⟩, nilSq zV, 0⟩
noncomputable def nilI : Sq InsL := nilSq zI
noncomputable section
def pI (k : Nat) : InsL := { mkI 1 0 0 0 0 (-1) with k := ⟨3, (k : Int), ⟨⟨[]⟩⟩⟩ }
def mdP : Nat → Nat → Sq InsL → Sq InsL
  | 0, _, s => s
  | m + 1, k, s => mdP m (k + 1) (snI s (pI k))
def mdA (l : Sq Int) (ins : Sq InsL) : Nat → Nat → Nat → Sq Int → Sq Int
  | 0, _, _, h => h
  | m + 1, k, p, h => bif (nx l p 2).1 == 0 then mdA l ins m (k + 1) (nx l p 2).2 (appSq h ⟨1, fun _ => (k : Int)⟩) else mdA l ins m (k + 1) (vl l (nx l p 2).2 ins).2 (appSq h ⟨1, fun _ => (vl l (nx l p 2).2 ins).1⟩)
def md31 (s : Bst) (h : Sq Int) : TraceL := ⟨⟨0, 0⟩, snI s.ins { mkI 20 0 0 0 0 (-1) with args := h }, s.ex⟩
def md19 (l : Sq Int) (fuel : Int) (param : Nat) (s : Bst) : TraceL := bif (nx l s.p 6).1 == 0 then ⟨⟨0, 0⟩, snI s.ins (mkI 21 0 0 0 0 (s.ex.n : Int)), snE s.ex (lv l (nx l s.p 6).2 s.ins fuel param).1⟩ else md31 s (mdA l s.ins param 0 (nx l s.p 6).2 (nilSq 0))
def itS (l : Sq Int) (fuel : Int) (param : Nat) : Nat → Bst → Bst
  | 0, s => s
  | m + 1, s => itS l fuel param m (stp l fuel param s)
def md8 (l : Sq Int) (fuel : Int) (param : Nat) (p : Nat) (ins : Sq InsL) (ex : Sq ExitL) : Bst := ⟨(nx l (lv l p ins 0 param).2 14).2, snI ins (mkI 18 0 0 0 fuel (ex.n : Int)), snE ex (lv l p ins 0 param).1⟩
def md7 (l : Sq Int) (param : Nat) (p : Nat) (ins : Sq InsL) (ex : Sq ExitL) : TraceL :=
  md19 l (1 + (nx l p 4).1) param (itS l (1 + (nx l p 4).1) param (nx l (lv l (nx l p 4).2 ins 0 param).2 14).1.toNat (md8 l (1 + (nx l p 4).1) param (nx l p 4).2 ins ex))
def made (l : Sq Int) : TraceL := md7 l (1 + (nx l 0 4).1.toNat) (nx l 0 4).2 (mdP (1 + (nx l 0 4).1.toNat) 0 nilI) nilE
end
def sp11 : Nat → Bool := fun i => Nat.beq i 4 || Nat.beq i 7 || Nat.beq i 16 || Nat.beq i 19 || Nat.beq i 26 || Nat.beq i 31
theorem fn11 : Fn 11 := ⟨by kernel_rfl, by kernel_rfl⟩
theorem vc11 (L : LP) (QD : D → Prop) (sn : Sq InsL → InsL → Sq InsL) (sx : Sq ExitL → ExitL → Sq ExitL) (l : Sq Int) (h : ( WC 33 [(.c (.rt 1 0 0)), (int 4)] [(.box [(ci 0), (ci 0), (.im (.v (.slice .none 0 0))), (.im (.v (.slice .none 0 0)))]), (.box [(.im (.sl 1 l.1 (fun i => eInt (l.2 i)))), (ci 0)]), (.box [(.rt 1 0 0), (ci 0), (ci 0), (.im (.v (.slice .none 0 0))), (.im (.v (.slice .none 0 0))), (ci 0), (ci 0)])] (int ((nx l 0 4).1)) 1 (numR l ((nx l 0 4).2)) ∧ L (todoG 11 4) ⟨[(2, ((.c (.rt 0 0 0)), [])), (3, ((.c (.rt 2 0 0)), [])), (4, ((int 0), []))], [(.box [(ci 0), (ci 0), (.im (.v (.slice .none 0 0))), (.im (.v (.slice .none 0 0)))]), (numR l ((nx l 0 4).2)), (.box [(.rt 1 0 0), (ci 0), (ci 0), (.im (.v (.slice .none 0 0))), (.im (.v (.slice .none 0 0))), (ci 0), (ci (IntKind.i64.wrap (1 + (nx l 0 4).1)))])], []⟩)) : vcF (X11 l sn sx) 11 sp11 L (endP QD) [dSq 1 eInt l] [] := Eq.mp (by kernel_rfl) h
noncomputable def st11_4 (sn : Sq InsL → InsL → Sq InsL) (sx : Sq ExitL → ExitL → Sq ExitL) (l : Sq Int) (p : Nat) (ins : Sq InsL) (exits : Sq ExitL) (param k : Nat) : VS := ⟨[(2, .c (.rt 0 0 0), []), (3, .c (.rt 2 0 0), []), (4, int k, [])], [resR, numR l p, bldC 1 3 ins.n 4 exits.n 0 param, insA ins, exA exits], []⟩
theorem vc11_4 (L : LP) (QD : D → Prop) (sn : Sq InsL → InsL → Sq InsL) (sx : Sq ExitL → ExitL → Sq ExitL) (l : Sq Int) (p : Nat) (ins : Sq InsL) (exits : Sq ExitL) (param k : Nat) (h : br (decide ((↑k : Int) < (↑param : Int))) ( ( LC 34 [(.c (.rt 2 0 0)), (.a [(ci 1), (ci 0), (ci 0), (ci 0), (ci 0), (.im (.v (.slice .none 0 0))), (ci 3), (ci (↑k : Int)), (.im (.v (.string ⟨⟨[]⟩⟩))), (.im (.v (.slice .none 0 0))), (ci 0), (ci 0), (ci (-1)), (.im (.v (.bool false)))])] [(.box [(ci 0), (ci 0), (.im (.v (.slice .none 0 0))), (.im (.v (.slice .none 0 0)))]), (numR l p), (bldC 1 3 ins.1 4 exits.1 0 (↑param : Int)), (insA ins), (exA exits)] (int (↑ins.1 : Int)) [(.box [(ci 0), (ci 0), (.im (.v (.slice .none 0 0))), (.im (.v (.slice .none 0 0)))]), (numR l p), (bldC 1 5 ((sn ins { op := Int.ofNat 1, a := Int.ofNat 0, b := Int.ofNat 0, c := Int.ofNat 0, n := Int.ofNat 0, args := { n := 0, get := fun x => Int.ofNat 0 }, k := { kind := Int.ofNat 3, n := Int.ofNat k, s := { data := { toList := [] } } }, names := { n := 0, get := fun x => { data := { toList := [] } } }, place := { fn := Int.ofNat 0, line := Int.ofNat 0 }, exit := Int.negSucc 0, once := false }).1) 4 exits.1 0 (↑param : Int)), .dead, (exA exits), (insA (sn ins { op := Int.ofNat 1, a := Int.ofNat 0, b := Int.ofNat 0, c := Int.ofNat 0, n := Int.ofNat 0, args := { n := 0, get := fun x => Int.ofNat 0 }, k := { kind := Int.ofNat 3, n := Int.ofNat k, s := { data := { toList := [] } } }, names := { n := 0, get := fun x => { data := { toList := [] } } }, place := { fn := Int.ofNat 0, line := Int.ofNat 0 }, exit := Int.negSucc 0, once := false }))] ∧ L (todoG 11 4) ⟨[(2, ((.c (.rt 0 0 0)), [])), (3, ((.c (.rt 2 0 0)), [])), (4, ((int (IntKind.i64.wrap ((↑k : Int) + 1))), []))], [(.box [(ci 0), (ci 0), (.im (.v (.slice .none 0 0))), (.im (.v (.slice .none 0 0)))]), (numR l p), (bldC 1 5 ((sn ins { op := Int.ofNat 1, a := Int.ofNat 0, b := Int.ofNat 0, c := Int.ofNat 0, n := Int.ofNat 0, args := { n := 0, get := fun x => Int.ofNat 0 }, k := { kind := Int.ofNat 3, n := Int.ofNat k, s := { data := { toList := [] } } }, names := { n := 0, get := fun x => { data := { toList := [] } } }, place := { fn := Int.ofNat 0, line := Int.ofNat 0 }, exit := Int.negSucc 0, once := false }).1) 4 exits.1 0 (↑param : Int)), .dead, (exA exits), (insA (sn ins { op := Int.ofNat 1, a := Int.ofNat 0, b := Int.ofNat 0, c := Int.ofNat 0, n := Int.ofNat 0, args := { n := 0, get := fun x => Int.ofNat 0 }, k := { kind := Int.ofNat 3, n := Int.ofNat k, s := { data := { toList := [] } } }, names := { n := 0, get := fun x => { data := { toList := [] } } }, place := { fn := Int.ofNat 0, line := Int.ofNat 0 }, exit := Int.negSucc 0, once := false }))], []⟩)) ( L (todoG 11 7) ⟨[(2, ((.c (.rt 0 0 0)), [])), (3, ((.c (.rt 2 0 0)), [])), (4, ((int (↑k : Int)), [])), (29, ((bool false), []))], [(.box [(ci 0), (ci 0), (.im (.v (.slice .none 0 0))), (.im (.v (.slice .none 0 0)))]), (numR l p), (bldC 1 3 ins.1 4 exits.1 0 (↑param : Int)), (insA ins), (exA exits)], []⟩)) : vcR (X11 l sn sx) 11 sp11 L (endP QD) 4 (st11_4 sn sx l p ins exits param k) := Eq.mp (by kernel_rfl) h
noncomputable def st11_7 (sn : Sq InsL → InsL → Sq InsL) (sx : Sq ExitL → ExitL → Sq ExitL) (l : Sq Int) (p : Nat) (ins : Sq InsL) (exits : Sq ExitL) (param : Nat) : VS := ⟨[(2, .c (.rt 0 0 0), []), (3, .c (.rt 2 0 0), [])], [resR, numR l p, bldC 1 3 ins.n 4 exits.n 0 param, insA ins, exA exits], []⟩
theorem vc11_7 (L : LP) (QD : D → Prop) (sn : Sq InsL → InsL → Sq InsL) (sx : Sq ExitL → ExitL → Sq ExitL) (l : Sq Int) (p : Nat) (ins : Sq InsL) (exits : Sq ExitL) (param : Nat) (h : ( WC 33 [(.c (.rt 1 0 0)), (int 4)] [(.box [(ci 0), (ci 0), (.im (.v (.slice .none 0 0))), (.im (.v (.slice .none 0 0)))]), (numR l p), (bldC 1 3 ins.1 4 exits.1 0 (↑param : Int)), (insA ins), (exA exits)] (int ((nx l p 4).1)) 1 (numR l ((nx l p 4).2)) ∧ ( LC 35 [(.c (.rt 2 0 0))] [(.box [(ci 0), (ci 0), (.im (.v (.slice .none 0 0))), (.im (.v (.slice .none 0 0)))]), (numR l ((nx l p 4).2)), (bldC 1 3 ins.1 4 exits.1 0 (↑param : Int)), (insA ins), (exA exits), (.box (lI0 18 0 0 0 (rInt (I.v (Value.int IntKind.i64 (IntKind.i64.wrap (1 + (nx l p 4).1))))) 0))] (int (↑exits.1 : Int)) [(.box [(ci 0), (ci 0), (.im (.v (.slice .none 0 0))), (.im (.v (.slice .none 0 0)))]), (numR l ((lv l (nx l p 4).2 ins 0 param).2)), (bldC 1 3 ins.1 6 ((sx exits (lv l (nx l p 4).2 ins 0 param).1).1) 0 (↑param : Int)), (insA ins), .dead, (.box (lI0 18 0 0 0 (rInt (I.v (Value.int IntKind.i64 (IntKind.i64.wrap (1 + (nx l p 4).1))))) 0)), (exA (sx exits (lv l (nx l p 4).2 ins 0 param).1))] ∧ ( LC 34 [(.c (.rt 2 0 0)), (.a (lI0 18 0 0 0 (rInt (I.v (Value.int IntKind.i64 (IntKind.i64.wrap (1 + (nx l p 4).1))))) (Int.ofNat exits.1)))] [(.box [(ci 0), (ci 0), (.im (.v (.slice .none 0 0))), (.im (.v (.slice .none 0 0)))]), (numR l ((lv l (nx l p 4).2 ins 0 param).2)), (bldC 1 3 ins.1 6 ((sx exits (lv l (nx l p 4).2 ins 0 param).1).1) (IntKind.i64.wrap (1 + (nx l p 4).1)) (↑param : Int)), (insA ins), .dead, (.box (lI0 18 0 0 0 (rInt (I.v (Value.int IntKind.i64 (IntKind.i64.wrap (1 + (nx l p 4).1))))) (Int.ofNat exits.1))), (exA (sx exits (lv l (nx l p 4).2 ins 0 param).1))] (int (↑ins.1 : Int)) [(.box [(ci 0), (ci 0), (.im (.v (.slice .none 0 0))), (.im (.v (.slice .none 0 0)))]), (numR l ((lv l (nx l p 4).2 ins 0 param).2)), (bldC 1 7 ((sn ins (mkI 18 0 0 0 (rInt (I.v (Value.int IntKind.i64 (IntKind.i64.wrap (1 + (nx l p 4).1))))) (Int.ofNat exits.1))).1) 6 ((sx exits (lv l (nx l p 4).2 ins 0 param).1).1) (IntKind.i64.wrap (1 + (nx l p 4).1)) (↑param : Int)), .dead, .dead, (.box (lI0 18 0 0 0 (rInt (I.v (Value.int IntKind.i64 (IntKind.i64.wrap (1 + (nx l p 4).1))))) (Int.ofNat exits.1))), (exA (sx exits (lv l (nx l p 4).2 ins 0 param).1)), (insA (sn ins (mkI 18 0 0 0 (rInt (I.v (Value.int IntKind.i64 (IntKind.i64.wrap (1 + (nx l p 4).1))))) (Int.ofNat exits.1))))] ∧ ( WC 33 [(.c (.rt 1 0 0)), (int 14)] [(.box [(ci 0), (ci 0), (.im (.v (.slice .none 0 0))), (.im (.v (.slice .none 0 0)))]), (numR l ((lv l (nx l p 4).2 ins 0 param).2)), (bldC 1 7 ((sn ins (mkI 18 0 0 0 (rInt (I.v (Value.int IntKind.i64 (IntKind.i64.wrap (1 + (nx l p 4).1))))) (Int.ofNat exits.1))).1) 6 ((sx exits (lv l (nx l p 4).2 ins 0 param).1).1) (IntKind.i64.wrap (1 + (nx l p 4).1)) (↑param : Int)), .dead, .dead, (.box (lI0 18 0 0 0 (rInt (I.v (Value.int IntKind.i64 (IntKind.i64.wrap (1 + (nx l p 4).1))))) (Int.ofNat exits.1))), (exA (sx exits (lv l (nx l p 4).2 ins 0 param).1)), (insA (sn ins (mkI 18 0 0 0 (rInt (I.v (Value.int IntKind.i64 (IntKind.i64.wrap (1 + (nx l p 4).1))))) (Int.ofNat exits.1))))] (int ((nx l (lv l (nx l p 4).2 ins 0 param).2 14).1)) 1 (numR l ((nx l (lv l (nx l p 4).2 ins 0 param).2 14).2)) ∧ L (todoG 11 16) ⟨[(2, ((.c (.rt 0 0 0)), [])), (3, ((.c (.rt 2 0 0)), [])), (5, ((.c (.rt 5 0 0)), [])), (7, ((int ((nx l (lv l (nx l p 4).2 ins 0 param).2 14).1)), [])), (8, ((int 0), []))], [(.box [(ci 0), (ci 0), (.im (.v (.slice .none 0 0))), (.im (.v (.slice .none 0 0)))]), (numR l ((nx l (lv l (nx l p 4).2 ins 0 param).2 14).2)), (bldC 1 7 ((sn ins (mkI 18 0 0 0 (rInt (I.v (Value.int IntKind.i64 (IntKind.i64.wrap (1 + (nx l p 4).1))))) (Int.ofNat exits.1))).1) 6 ((sx exits (lv l (nx l p 4).2 ins 0 param).1).1) (IntKind.i64.wrap (1 + (nx l p 4).1)) (↑param : Int)), .dead, .dead, (.box (lI0 18 0 0 0 (rInt (I.v (Value.int IntKind.i64 (IntKind.i64.wrap (1 + (nx l p 4).1))))) (Int.ofNat exits.1))), (exA (sx exits (lv l (nx l p 4).2 ins 0 param).1)), (insA (sn ins (mkI 18 0 0 0 (rInt (I.v (Value.int IntKind.i64 (IntKind.i64.wrap (1 + (nx l p 4).1))))) (Int.ofNat exits.1))))], []⟩))))) : vcR (X11 l sn sx) 11 sp11 L (endP QD) 7 (st11_7 sn sx l p ins exits param) := Eq.mp (by kernel_rfl) h
noncomputable def st11_16 (sn : Sq InsL → InsL → Sq InsL) (sx : Sq ExitL → ExitL → Sq ExitL) (l : Sq Int) (p : Nat) (ins : Sq InsL) (exits : Sq ExitL) (fuel : Int) (param : Nat) (x : InsL) (steps k : Nat) : VS := ⟨[(2, .c (.rt 0 0 0), []), (3, .c (.rt 2 0 0), []), (5, .c (.rt 5 0 0), []), (7, int steps, []), (8, int k, [])], [resR, numR l p, bldC 1 3 ins.n 4 exits.n fuel param, insA ins, exA exits, .box (lift (lIns x))], []⟩
theorem vc11_16 (L : LP) (QD : D → Prop) (sn : Sq InsL → InsL → Sq InsL) (sx : Sq ExitL → ExitL → Sq ExitL) (l : Sq Int) (p : Nat) (ins : Sq InsL) (exits : Sq ExitL) (fuel : Int) (param : Nat) (x : InsL) (steps k : Nat) (h : br (decide ((↑k : Int) < (↑steps : Int))) ( ( LC 36 [(.c (.rt 2 0 0))] [(.box [(ci 0), (ci 0), (.im (.v (.slice .none 0 0))), (.im (.v (.slice .none 0 0)))]), (numR l p), (bldC 1 3 ins.1 4 exits.1 fuel (↑param : Int)), (insA ins), (exA exits), (.box (lift (lIns (x))))] (.t []) [(.box [(ci 0), (ci 0), (.im (.v (.slice .none 0 0))), (.im (.v (.slice .none 0 0)))]), (numR l ((stp l fuel param { p := p, ins := ins, ex := exits }).p)), (bldC 1 7 ((stp l fuel param { p := p, ins := ins, ex := exits }).ins.1) 6 ((stp l fuel param { p := p, ins := ins, ex := exits }).ex.1) fuel (↑param : Int)), .dead, .dead, (.box (lift (lIns (x)))), (exA ((stp l fuel param { p := p, ins := ins, ex := exits }).ex)), (insA ((stp l fuel param { p := p, ins := ins, ex := exits }).ins))] ∧ L (todoG 11 16) ⟨[(2, ((.c (.rt 0 0 0)), [])), (3, ((.c (.rt 2 0 0)), [])), (5, ((.c (.rt 5 0 0)), [])), (7, ((int (↑steps : Int)), [])), (8, ((int (IntKind.i64.wrap ((↑k : Int) + 1))), []))], [(.box [(ci 0), (ci 0), (.im (.v (.slice .none 0 0))), (.im (.v (.slice .none 0 0)))]), (numR l ((stp l fuel param { p := p, ins := ins, ex := exits }).p)), (bldC 1 7 ((stp l fuel param { p := p, ins := ins, ex := exits }).ins.1) 6 ((stp l fuel param { p := p, ins := ins, ex := exits }).ex.1) fuel (↑param : Int)), .dead, .dead, (.box (lift (lIns (x)))), (exA ((stp l fuel param { p := p, ins := ins, ex := exits }).ex)), (insA ((stp l fuel param { p := p, ins := ins, ex := exits }).ins))], []⟩)) ( L (todoG 11 19) ⟨[(2, ((.c (.rt 0 0 0)), [])), (3, ((.c (.rt 2 0 0)), [])), (5, ((.c (.rt 5 0 0)), [])), (7, ((int (↑steps : Int)), [])), (8, ((int (↑k : Int)), [])), (75, ((bool false), []))], [(.box [(ci 0), (ci 0), (.im (.v (.slice .none 0 0))), (.im (.v (.slice .none 0 0)))]), (numR l p), (bldC 1 3 ins.1 4 exits.1 fuel (↑param : Int)), (insA ins), (exA exits), (.box (lift (lIns (x))))], []⟩)) : vcR (X11 l sn sx) 11 sp11 L (endP QD) 16 (st11_16 sn sx l p ins exits fuel param x steps k) := Eq.mp (by kernel_rfl) h
noncomputable def st11_19 (sn : Sq InsL → InsL → Sq InsL) (sx : Sq ExitL → ExitL → Sq ExitL) (l : Sq Int) (p : Nat) (ins : Sq InsL) (exits : Sq ExitL) (fuel : Int) (param : Nat) (x : InsL) : VS := ⟨[(2, .c (.rt 0 0 0), []), (3, .c (.rt 2 0 0), []), (5, .c (.rt 5 0 0), [])], [resR, numR l p, bldC 1 3 ins.n 4 exits.n fuel param, insA ins, exA exits, .box (lift (lIns x))], []⟩
theorem vc11_19 (L : LP) (QD : D → Prop) (sn : Sq InsL → InsL → Sq InsL) (sx : Sq ExitL → ExitL → Sq ExitL) (l : Sq Int) (p : Nat) (ins : Sq InsL) (exits : Sq ExitL) (fuel : Int) (param : Nat) (x : InsL) (h : ( WC 33 [(.c (.rt 1 0 0)), (int 6)] [(.box [(ci 0), (ci 0), (.im (.v (.slice .none 0 0))), (.im (.v (.slice .none 0 0)))]), (numR l p), (bldC 1 3 ins.1 4 exits.1 fuel (↑param : Int)), (insA ins), (exA exits), (.box (lift (lIns (x))))] (int ((nx l p 6).1)) 1 (numR l ((nx l p 6).2)) ∧ br ((nx l p 6).1 == 0) ( ( LC 35 [(.c (.rt 2 0 0))] [(.box [(ci 0), (ci 0), (.im (.v (.slice .none 0 0))), (.im (.v (.slice .none 0 0)))]), (numR l ((nx l p 6).2)), (bldC 1 3 ins.1 4 exits.1 fuel (↑param : Int)), (insA ins), (exA exits), (.box (lI0 21 0 0 0 0 0))] (int (↑exits.1 : Int)) [(.box [(ci 0), (ci 0), (.im (.v (.slice .none 0 0))), (.im (.v (.slice .none 0 0)))]), (numR l ((lv l (nx l p 6).2 ins fuel param).2)), (bldC 1 3 ins.1 6 ((sx exits (lv l (nx l p 6).2 ins fuel param).1).1) fuel (↑param : Int)), (insA ins), .dead, (.box (lI0 21 0 0 0 0 0)), (exA (sx exits (lv l (nx l p 6).2 ins fuel param).1))] ∧ ( LC 34 [(.c (.rt 2 0 0)), (.a (lI0 21 0 0 0 0 (Int.ofNat exits.1)))] [(.box [(ci 0), (ci 0), (.im (.v (.slice .none 0 0))), (.im (.v (.slice .none 0 0)))]), (numR l ((lv l (nx l p 6).2 ins fuel param).2)), (bldC 1 3 ins.1 6 ((sx exits (lv l (nx l p 6).2 ins fuel param).1).1) fuel (↑param : Int)), (insA ins), .dead, (.box (lI0 21 0 0 0 0 (Int.ofNat exits.1))), (exA (sx exits (lv l (nx l p 6).2 ins fuel param).1))] (int (↑ins.1 : Int)) [(.box [(ci 0), (ci 0), (.im (.v (.slice .none 0 0))), (.im (.v (.slice .none 0 0)))]), (numR l ((lv l (nx l p 6).2 ins fuel param).2)), (bldC 1 7 ((sn ins (mkI 21 0 0 0 0 (Int.ofNat exits.1))).1) 6 ((sx exits (lv l (nx l p 6).2 ins fuel param).1).1) fuel (↑param : Int)), .dead, .dead, (.box (lI0 21 0 0 0 0 (Int.ofNat exits.1))), (exA (sx exits (lv l (nx l p 6).2 ins fuel param).1)), (insA (sn ins (mkI 21 0 0 0 0 (Int.ofNat exits.1))))] ∧ QD (.a (lift (lTrace ({ place := { fn := Int.ofNat 0, line := Int.ofNat 0 }, ins := sn ins (mkI 21 0 0 0 0 (Int.ofNat exits.1)), exits := sx exits (lv l (nx l p 6).2 ins fuel param).1 }))))))) ( L (todoG 11 26) ⟨[(2, ((.c (.rt 0 0 0)), [])), (3, ((.c (.rt 2 0 0)), [])), (5, ((.c (.rt 5 0 0)), [])), (9, ((int 0), []))], [(.box [(ci 0), (ci 0), (.im (.v (.slice .none 0 0))), (.im (.v (.slice .none 0 0)))]), (numR l ((nx l p 6).2)), (bldC 1 3 ins.1 4 exits.1 fuel (↑param : Int)), (insA ins), (exA exits), (.box (lI0 20 0 0 0 0 (-1)))], []⟩))) : vcR (X11 l sn sx) 11 sp11 L (endP QD) 19 (st11_19 sn sx l p ins exits fuel param x) := Eq.mp (by kernel_rfl) h
noncomputable def st11_26 (sn : Sq InsL → InsL → Sq InsL) (sx : Sq ExitL → ExitL → Sq ExitL) (l : Sq Int) (p : Nat) (ins : Sq InsL) (exits : Sq ExitL) (fuel : Int) (param : Nat) (hq : Sq Int) (k : Nat) : VS := ⟨[(2, .c (.rt 0 0 0), []), (3, .c (.rt 2 0 0), []), (5, .c (.rt 5 0 0), []), (9, int k, [])], [resR, numR l p, bldC 1 3 ins.n 4 exits.n fuel param, insA ins, exA exits, .box [.im (iI 20), .im (iI 0), .im (iI 0), .im (iI 0), .im (iI 0), .sa 6 hq.n, .im (iI 0), .im (iI 0), .im (iS ⟨⟨[]⟩⟩), .im (.v (.slice none 0 0)), .im (iI 0), .im (iI 0), .im (iI (-1)), .im (iB false)], .arr 3 1 hq.n (fun i => eInt (hq.get i))], []⟩
theorem vc11_26 (L : LP) (QD : D → Prop) (sn : Sq InsL → InsL → Sq InsL) (sx : Sq ExitL → ExitL → Sq ExitL) (l : Sq Int) (p : Nat) (ins : Sq InsL) (exits : Sq ExitL) (fuel : Int) (param : Nat) (hq : Sq Int) (k : Nat) (h : br (decide ((↑k : Int) < (↑param : Int))) ( ( WC 33 [(.c (.rt 1 0 0)), (int 2)] [(.box [(ci 0), (ci 0), (.im (.v (.slice .none 0 0))), (.im (.v (.slice .none 0 0)))]), (numR l p), (bldC 1 3 ins.1 4 exits.1 fuel (↑param : Int)), (insA ins), (exA exits), (.box [(ci 20), (ci 0), (ci 0), (ci 0), (ci 0), (.sa 6 hq.1), (ci 0), (ci 0), (.im (.v (.string ⟨⟨[]⟩⟩))), (.im (.v (.slice .none 0 0))), (ci 0), (ci 0), (ci (-1)), (.im (.v (.bool false)))]), (.arr 3 1 hq.1 (fun i => eInt (hq.2 i)))] (int ((nx l p 2).1)) 1 (numR l ((nx l p 2).2)) ∧ br ((nx l p 2).1 == 0) ( nd (roomB (hq.1 + 1) 8) ( nd (hq.1.beq hq.1) ( L (todoG 11 26) ⟨[(2, ((.c (.rt 0 0 0)), [])), (3, ((.c (.rt 2 0 0)), [])), (5, ((.c (.rt 5 0 0)), [])), (9, ((int (IntKind.i64.wrap ((↑k : Int) + 1))), []))], [(.box [(ci 0), (ci 0), (.im (.v (.slice .none 0 0))), (.im (.v (.slice .none 0 0)))]), (numR l ((nx l p 2).2)), (bldC 1 3 ins.1 4 exits.1 fuel (↑param : Int)), (insA ins), (exA exits), (.box [(ci 20), (ci 0), (ci 0), (ci 0), (ci 0), (.sa 8 (.succ hq.1)), (ci 0), (ci 0), (.im (.v (.string ⟨⟨[]⟩⟩))), (.im (.v (.slice .none 0 0))), (ci 0), (ci 0), (ci (-1)), (.im (.v (.bool false)))]), .dead, (.row 3 1 1 [(ci (↑k : Int))]), (.arr 3 1 (hq.1 + 1) (appA hq.1 (fun i => eInt (hq.2 i)) (1, flat 1 [I.v (Value.int IntKind.i64 (↑k : Int))]).snd))], []⟩))) ( ( WC 37 [(.c (.rt 2 0 0))] [(.box [(ci 0), (ci 0), (.im (.v (.slice .none 0 0))), (.im (.v (.slice .none 0 0)))]), (numR l ((nx l p 2).2)), (bldC 1 3 ins.1 4 exits.1 fuel (↑param : Int)), (insA ins), (exA exits), (.box [(ci 20), (ci 0), (ci 0), (ci 0), (ci 0), (.sa 6 hq.1), (ci 0), (ci 0), (.im (.v (.string ⟨⟨[]⟩⟩))), (.im (.v (.slice .none 0 0))), (ci 0), (ci 0), (ci (-1)), (.im (.v (.bool false)))]), (.arr 3 1 hq.1 (fun i => eInt (hq.2 i))), .dead, .dead, .dead] (int ((vl l (nx l p 2).2 ins).1)) 1 (numR l ((vl l (nx l p 2).2 ins).2)) ∧ nd (roomB (hq.1 + 1) 8) ( nd (hq.1.beq hq.1) ( ( WC 37 [(.c (.rt 2 0 0))] [(.box [(ci 0), (ci 0), (.im (.v (.slice .none 0 0))), (.im (.v (.slice .none 0 0)))]), (numR l ((nx l p 2).2)), (bldC 1 3 ins.1 4 exits.1 fuel (↑param : Int)), (insA ins), (exA exits), (.box [(ci 20), (ci 0), (ci 0), (ci 0), (ci 0), (.sa 6 hq.1), (ci 0), (ci 0), (.im (.v (.string ⟨⟨[]⟩⟩))), (.im (.v (.slice .none 0 0))), (ci 0), (ci 0), (ci (-1)), (.im (.v (.bool false)))]), (.arr 3 1 hq.1 (fun i => eInt (hq.2 i))), .dead, .dead, .dead] (int ((vl l (nx l p 2).2 ins).1)) 1 (numR l ((vl l (nx l p 2).2 ins).2)) ∧ nd (roomB (hq.1 + 1) 8) ( nd (hq.1.beq hq.1) ( L (todoG 11 26) ⟨[(2, ((.c (.rt 0 0 0)), [])), (3, ((.c (.rt 2 0 0)), [])), (5, ((.c (.rt 5 0 0)), [])), (9, ((int (IntKind.i64.wrap ((↑k : Int) + 1))), []))], [(.box [(ci 0), (ci 0), (.im (.v (.slice .none 0 0))), (.im (.v (.slice .none 0 0)))]), (numR l ((vl l (nx l p 2).2 ins).2)), (bldC 1 3 ins.1 4 exits.1 fuel (↑param : Int)), (insA ins), (exA exits), (.box [(ci 20), (ci 0), (ci 0), (ci 0), (ci 0), (.sa 9 (.succ hq.1)), (ci 0), (ci 0), (.im (.v (.string ⟨⟨[]⟩⟩))), (.im (.v (.slice .none 0 0))), (ci 0), (ci 0), (ci (-1)), (.im (.v (.bool false)))]), .dead, .dead, (.row 3 1 1 [(ci ((vl l (nx l p 2).2 ins).1))]), (.arr 3 1 (hq.1 + 1) (appA hq.1 (fun i => eInt (hq.2 i)) (1, flat 1 [I.v (Value.int IntKind.i64 (vl l (nx l p 2).2 ins).1)]).snd))], []⟩))))))))) ( L (todoG 11 31) ⟨[(2, ((.c (.rt 0 0 0)), [])), (3, ((.c (.rt 2 0 0)), [])), (5, ((.c (.rt 5 0 0)), [])), (9, ((int (↑k : Int)), [])), (103, ((bool false), []))], [(.box [(ci 0), (ci 0), (.im (.v (.slice .none 0 0))), (.im (.v (.slice .none 0 0)))]), (numR l p), (bldC 1 3 ins.1 4 exits.1 fuel (↑param : Int)), (insA ins), (exA exits), (.box [(ci 20), (ci 0), (ci 0), (ci 0), (ci 0), (.sa 6 hq.1), (ci 0), (ci 0), (.im (.v (.string ⟨⟨[]⟩⟩))), (.im (.v (.slice .none 0 0))), (ci 0), (ci 0), (ci (-1)), (.im (.v (.bool false)))]), (.arr 3 1 hq.1 (fun i => eInt (hq.2 i)))], []⟩)) : vcR (X11 l sn sx) 11 sp11 L (endP QD) 26 (st11_26 sn sx l p ins exits fuel param hq k) := Eq.mp (by kernel_rfl) h
noncomputable def st11_31 (sn : Sq InsL → InsL → Sq InsL) (sx : Sq ExitL → ExitL → Sq ExitL) (l : Sq Int) (p : Nat) (ins : Sq InsL) (exits : Sq ExitL) (fuel : Int) (param : Nat) (x : InsL) : VS := ⟨[(2, .c (.rt 0 0 0), []), (3, .c (.rt 2 0 0), []), (5, .c (.rt 5 0 0), [])], [resR, numR l p, bldC 1 3 ins.n 4 exits.n fuel param, insA ins, exA exits, .box (lift (lIns x))], []⟩
theorem vc11_31 (L : LP) (QD : D → Prop) (sn : Sq InsL → InsL → Sq InsL) (sx : Sq ExitL → ExitL → Sq ExitL) (l : Sq Int) (p : Nat) (ins : Sq InsL) (exits : Sq ExitL) (fuel : Int) (param : Nat) (x : InsL) (h : ( LC 34 [(.c (.rt 2 0 0)), (.a (lift (lIns (x))))] [(.box [(ci 0), (ci 0), (.im (.v (.slice .none 0 0))), (.im (.v (.slice .none 0 0)))]), (numR l p), (bldC 1 3 ins.1 4 exits.1 fuel (↑param : Int)), (insA ins), (exA exits), (.box (lift (lIns (x))))] (int (↑ins.1 : Int)) [(.box [(ci 0), (ci 0), (.im (.v (.slice .none 0 0))), (.im (.v (.slice .none 0 0)))]), (numR l p), (bldC 1 6 ((sn ins x).1) 4 exits.1 fuel (↑param : Int)), .dead, (exA exits), (.box (lift (lIns (x)))), (insA (sn ins x))] ∧ QD (.a (lift (lTrace ({ place := { fn := Int.ofNat 0, line := Int.ofNat 0 }, ins := sn ins x, exits := exits })))))) : vcR (X11 l sn sx) 11 sp11 L (endP QD) 31 (st11_31 sn sx l p ins exits fuel param x) := Eq.mp (by kernel_rfl) h
theorem lp11_31 (l : Sq Int) (p : Nat) (ins : Sq InsL) (exits : Sq ExitL) (fuel : Int) (param : Nat) (x : InsL) (hI : ins.n ≤ 1000) : GoalF 11 0 (EndsP (dTrace (⟨⟨0, 0⟩, snI ins x, exits⟩))) (todoG 11 31) (st11_31 snI snE l p ins exits fuel param x) := by
  refine reachP (X := X11 l snI snE) (stop := sp11) (vc11_31 _ _ snI snE l p ins exits fuel param x ⟨use34 (m := 1) (q := 2) (i := 3) (j := 4) _ _ hI (DLe.refl _) rfl (nlb rfl) rfl rfl (nlb rfl), ?_⟩)
  exact DLe.refl _
theorem lp11_26 (l : Sq Int) (ins : Sq InsL) (exits : Sq ExitL) (fuel : Int) (param : Nat) (hl : l.n ≤ maxLen) (hI : ins.n ≤ 1000) (hP : param ≤ 1000) (o : Sq Int) : ∀ k, k ≤ param → ∀ (p : Nat) (hq : Sq Int), hq.n ≤ k → mdA l ins (param - k) k p hq = o → GoalF 11 0 (EndsP (dTrace (md31 ⟨0, ins, exits⟩ o))) (todoG 11 26) (st11_26 snI snE l p ins exits fuel param hq k) := by
  refine count_rule (fun k hk ih p hq hh ho => ?_) (fun p hq hh ho => ?_)
  · have q : param - k = (param - (k + 1)) + 1 := by omega
    rw [q] at ho
    refine reachP (X := X11 l snI snE) (stop := sp11) (vc11_26 _ _ snI snE l p ins exits fuel param hq k ?_)
    rw [wrap1 hk (Nat.le_trans hP (by decide))]
    refine br_mk (fun h3 => ?_) (fun h3 => (dec_lt h3 hk).elim)
    refine ⟨use33 l _ _ hl rfl, br_mk (fun h4 => ?_) (fun h4 => ?_)⟩
    · have e : mdA l ins (param - (k + 1) + 1) k p hq = mdA l ins (param - (k + 1)) (k + 1) (nx l p 2).2 (appSq hq ⟨1, fun _ => (k : Int)⟩) := by
        rw [show mdA l ins (param - (k + 1) + 1) k p hq = (bif (nx l p 2).1 == 0 then mdA l ins (param - (k + 1)) (k + 1) (nx l p 2).2 (appSq hq ⟨1, fun _ => (k : Int)⟩) else mdA l ins (param - (k + 1)) (k + 1) (vl l (nx l p 2).2 ins).2 (appSq hq ⟨1, fun _ => (vl l (nx l p 2).2 ins).1⟩)) from rfl, show ((nx l p 2).1 == 0) = true from h4]; rfl
      rw [e] at ho
      refine nd_mk (room_ok (by omega) (by omega)) (nd_mk (Nat.beq_refl _) ?_)
      exact GoalF.rename [0, 1, 2, 3, 4, 5, 8] rfl (GoalF.le (st11_26 snI snE l (nx l p 2).2 ins exits fuel param (appSq hq ⟨1, fun _ => (k : Int)⟩) (k + 1)) (by repeat' (first | exact trivial | refine wk1 rfl ?_)) (rc (rc (rc (rc (rc (rc (.cons (rt_one hq _) .nil))))))) rfl (ih _ _ (by show hq.n + 1 ≤ _; omega) ho))
    · have e : mdA l ins (param - (k + 1) + 1) k p hq = mdA l ins (param - (k + 1)) (k + 1) (vl l (nx l p 2).2 ins).2 (appSq hq ⟨1, fun _ => (vl l (nx l p 2).2 ins).1⟩) := by
        rw [show mdA l ins (param - (k + 1) + 1) k p hq = (bif (nx l p 2).1 == 0 then mdA l ins (param - (k + 1)) (k + 1) (nx l p 2).2 (appSq hq ⟨1, fun _ => (k : Int)⟩) else mdA l ins (param - (k + 1)) (k + 1) (vl l (nx l p 2).2 ins).2 (appSq hq ⟨1, fun _ => (vl l (nx l p 2).2 ins).1⟩)) from rfl, show ((nx l p 2).1 == 0) = false from h4]; rfl
      rw [e] at ho
      refine ⟨use37 (m := 1) (q := 2) (i := 3) (j := 4) l _ _ hl (by omega) rfl rfl rfl rfl (nlb rfl), nd_mk (room_ok (by omega) (by omega)) (nd_mk (Nat.beq_refl _) ⟨use37 (m := 1) (q := 2) (i := 3) (j := 4) l _ _ hl (by omega) rfl rfl rfl rfl (nlb rfl), nd_mk (room_ok (by omega) (by omega)) (nd_mk (Nat.beq_refl _) ?_)⟩)⟩
      exact GoalF.rename [0, 1, 2, 3, 4, 5, 9] rfl (GoalF.le (st11_26 snI snE l (vl l (nx l p 2).2 ins).2 ins exits fuel param (appSq hq ⟨1, fun _ => (vl l (nx l p 2).2 ins).1⟩) (k + 1)) (by repeat' (first | exact trivial | refine wk1 rfl ?_)) (rc (rc (rc (rc (rc (rc (.cons (rt_one hq _) .nil))))))) rfl (ih _ _ (by show hq.n + 1 ≤ _; omega) ho))
  · rw [Nat.sub_self] at ho
    refine reachP (X := X11 l snI snE) (stop := sp11) (vc11_26 _ _ snI snE l p ins exits fuel param hq _ ?_)
    refine br_mk (fun h3 => lt_self h3) (fun h3 => ?_)
    have ho : hq = o := ho
    subst ho
    exact GoalF.freeze 6 rfl (GoalF.rename [0, 1, 2, 3, 4, 5] rfl (GoalF.le (st11_31 snI snE l p ins exits fuel param { mkI 20 0 0 0 0 (-1) with args := hq }) (by repeat' (first | exact trivial | refine wk1 rfl ?_)) (rc (rc (rc (rc (rc (.cons (RtLe.box (by repeat' (first | exact All2.nil | refine All2.cons ?_ ?_ | exact CLe.refl _ | exact CLe.nil _ _))) .nil)))))) rfl (lp11_31 l p ins exits fuel param _ hI)))
theorem lp11_19 (l : Sq Int) (p : Nat) (ins : Sq InsL) (exits : Sq ExitL) (fuel : Int) (param : Nat) (x : InsL) (hl : l.n ≤ maxLen) (hI : ins.n ≤ 900) (hE : exits.n ≤ 900) (hF : 0 ≤ fuel ∧ fuel ≤ 1000) (hP : param ≤ 1000) : GoalF 11 0 (EndsP (dTrace (md19 l fuel param ⟨p, ins, exits⟩))) (todoG 11 19) (st11_19 snI snE l p ins exits fuel param x) := by
  refine reachP (X := X11 l snI snE) (stop := sp11) (vc11_19 _ _ snI snE l p ins exits fuel param x ⟨use33 l _ _ hl rfl, br_mk (fun h => ?_) (fun h => ?_)⟩)
  · rw [show md19 l fuel param ⟨p, ins, exits⟩ = ⟨⟨0, 0⟩, snI ins (mkI 21 0 0 0 0 (exits.n : Int)), snE exits (lv l (nx l p 6).2 ins fuel param).1⟩ from by unfold md19; rw [show ((nx l p 6).1 == 0) = true from h]; rfl]
    exact ⟨use35 (m := 1) (q := 2) (i := 3) (j := 4) l _ _ _ hl (by omega) (by omega) hF hP rfl rfl rfl rfl rfl, use34 (m := 1) (q := 2) (i := 3) (j := 6) _ _ (by omega) (by first | exact DLe.refl _ | exact a_le (by repeat' (first | exact All2.nil | refine All2.cons ?_ ?_ | exact CLe.refl _ | exact CLe.nil _ _))) rfl (nlb rfl) rfl rfl (nlb rfl), DLe.refl _⟩
  · rw [show md19 l fuel param ⟨p, ins, exits⟩ = md31 ⟨0, ins, exits⟩ (mdA l ins param 0 (nx l p 6).2 (nilSq 0)) from by unfold md19; rw [show ((nx l p 6).1 == 0) = false from h]; rfl]
    exact GoalF.adoptBox 5 5 3 1 _ rfl rfl (GoalF.le (st11_26 snI snE l (nx l p 6).2 ins exits fuel param (nilSq 0) 0) (by repeat' (first | exact trivial | refine wk1 rfl ?_)) (rc (rc (rc (rc (rc (rc (.cons (rt_nil 3 1 _ _) .nil))))))) rfl (lp11_26 l ins exits fuel param hl (by omega) hP _ 0 (Nat.zero_le _) _ (nilSq 0) (Nat.zero_le _) rfl))
theorem lp11_16 (l : Sq Int) (fuel : Int) (param : Nat) (x : InsL) (steps : Nat) (hl : l.n ≤ maxLen) (hF : 0 ≤ fuel ∧ fuel ≤ 1000) (hP : param ≤ 1000) (hS : steps ≤ 1000) (o : TraceL) : ∀ k, k ≤ steps → ∀ (p : Nat) (ins : Sq InsL) (exits : Sq ExitL), ins.n + 4 * (steps - k) ≤ 900 → exits.n + 2 * (steps - k) ≤ 900 → md19 l fuel param (itS l fuel param (steps - k) ⟨p, ins, exits⟩) = o → GoalF 11 0 (EndsP (dTrace (o))) (todoG 11 16) (st11_16 snI snE l p ins exits fuel param x steps k) := by
  refine count_rule (fun k hk ih p ins exits hI hE ho => ?_) (fun p ins exits hI hE ho => ?_)
  · have q : steps - k = (steps - (k + 1)) + 1 := by omega
    rw [q] at ho hI hE
    refine reachP (X := X11 l snI snE) (stop := sp11) (vc11_16 _ _ snI snE l p ins exits fuel param x steps k ?_)
    rw [wrap1 hk (Nat.le_trans hS (by decide))]
    refine br_mk (fun h3 => ?_) (fun h3 => (dec_lt h3 hk).elim)
    refine ⟨use36 (m := 1) (q := 2) (i := 3) (j := 4) l p ins exits fuel param hl (by omega) (by omega) hF hP rfl rfl rfl rfl rfl, ?_⟩
    have g := stp_grow l fuel param hP ⟨p, ins, exits⟩
    have g1 := g.ins
    have g2 := g.ex
    exact GoalF.rename [0, 1, 2, 7, 6, 5] rfl (GoalF.le (st11_16 snI snE l (stp l fuel param ⟨p, ins, exits⟩).p (stp l fuel param ⟨p, ins, exits⟩).ins (stp l fuel param ⟨p, ins, exits⟩).ex fuel param x steps (k + 1)) (by repeat' (first | exact trivial | refine wk1 rfl ?_)) (rc (rc (rc (rc (rc (rc .nil)))))) rfl (ih _ _ _ (by show _ + _ ≤ _; have g1 : _ ≤ ins.n + 4 := g1; omega) (by have g2 : _ ≤ exits.n + 2 := g2; omega) ho))
  · rw [Nat.sub_self] at ho hI hE
    refine reachP (X := X11 l snI snE) (stop := sp11) (vc11_16 _ _ snI snE l p ins exits fuel param x steps _ ?_)
    refine br_mk (fun h3 => lt_self h3) (fun h3 => ?_)
    have ho : md19 l fuel param ⟨p, ins, exits⟩ = o := ho
    subst ho
    exact GoalF.le (st11_19 snI snE l p ins exits fuel param x) (by repeat' (first | exact trivial | refine wk1 rfl ?_)) (rc (rc (rc (rc (rc (rc .nil)))))) rfl (lp11_19 l p ins exits fuel param x hl (by omega) (by omega) hF hP)
theorem lp11_7 (l : Sq Int) (p : Nat) (ins : Sq InsL) (exits : Sq ExitL) (param : Nat) (hl : l.n ≤ maxLen) (hI : ins.n ≤ 800) (hE : exits.n ≤ 800) (hP : param ≤ 1000) : GoalF 11 0 (EndsP (dTrace (md7 l param p ins exits))) (todoG 11 7) (st11_7 snI snE l p ins exits param) := by
  obtain ⟨d, hd, hlt⟩ := nx_nat (l := l) (p := (lv l (nx l p 4).2 ins 0 param).2) (n := 14) (by omega) (by omega)
  have hf := nx_lt (l := l) (p := p) (n := 4) (by omega) (by omega)
  have hF : (0 : Int) ≤ 0 ∧ (0 : Int) ≤ 1000 := by omega
  refine reachP (X := X11 l snI snE) (stop := sp11) (vc11_7 _ _ snI snE l p ins exits param ?_)
  rw [wrap_int (k := 1 + (nx l p 4).1) (by omega) (by omega)]
  refine ⟨use33 l _ _ hl rfl, use35 (m := 1) (q := 2) (i := 3) (j := 4) l _ _ _ hl (by omega) (by omega) hF hP rfl rfl rfl rfl rfl, use34 (m := 1) (q := 2) (i := 3) (j := 6) _ _ (by omega) (by first | exact DLe.refl _ | exact a_le (by repeat' (first | exact All2.nil | refine All2.cons ?_ ?_ | exact CLe.refl _ | exact CLe.nil _ _))) rfl (nlb rfl) rfl rfl (nlb rfl), use33 l _ _ hl rfl, ?_⟩
  rw [show md7 l param p ins exits = md19 l (1 + (nx l p 4).1) param (itS l (1 + (nx l p 4).1) param d (md8 l (1 + (nx l p 4).1) param (nx l p 4).2 ins exits)) from by unfold md7; rw [hd]; rfl]
  refine GoalF.rename [0, 1, 2, 7, 6, 5] rfl (GoalF.le (st11_16 snI snE l (md8 l (1 + (nx l p 4).1) param (nx l p 4).2 ins exits).p (md8 l (1 + (nx l p 4).1) param (nx l p 4).2 ins exits).ins (md8 l (1 + (nx l p 4).1) param (nx l p 4).2 ins exits).ex (1 + (nx l p 4).1) param (mkI 18 0 0 0 (1 + (nx l p 4).1) (exits.n : Int)) d 0) ⟨⟨rfl, _, rfl, DLe.refl _⟩, ⟨rfl, _, rfl, DLe.refl _⟩, ⟨rfl, _, rfl, DLe.refl _⟩, ⟨rfl, _, rfl, by rw [hd]; exact DLe.refl _⟩, ⟨rfl, _, rfl, DLe.refl _⟩, trivial⟩ (rc (rc (rc (rc (rc (.cons (RtLe.box (by repeat' (first | exact All2.nil | refine All2.cons ?_ ?_ | exact CLe.refl _ | exact CLe.nil _ _))) .nil)))))) rfl (lp11_16 l _ param _ d hl (by omega) hP (by omega) _ 0 (Nat.zero_le _) _ _ _ (by show ins.n + 1 + 4 * (d - 0) ≤ 900; omega) (by show exits.n + 1 + 2 * (d - 0) ≤ 900; omega) rfl))
theorem lp11_4 (l : Sq Int) (p : Nat) (exits : Sq ExitL) (param : Nat) (hl : l.n ≤ maxLen) (hE : exits.n ≤ 800) (hP : param ≤ 500) (o : TraceL) : ∀ k, k ≤ param → ∀ (ins : Sq InsL), ins.n ≤ k → md7 l param p (mdP (param - k) k ins) exits = o → GoalF 11 0 (EndsP (dTrace (o))) (todoG 11 4) (st11_4 snI snE l p ins exits param k) := by
  refine count_rule (fun k hk ih ins hI ho => ?_) (fun ins hI ho => ?_)
  · have q : param - k = (param - (k + 1)) + 1 := by omega
    rw [q] at ho
    refine reachP (X := X11 l snI snE) (stop := sp11) (vc11_4 _ _ snI snE l p ins exits param k ?_)
    rw [wrap1 hk (Nat.le_trans hP (by decide))]
    refine br_mk (fun h3 => ?_) (fun h3 => (dec_lt h3 hk).elim)
    refine ⟨use34 (m := 1) (q := 2) (i := 3) (j := 4) _ (pI k) (by omega) (by first | exact DLe.refl _ | exact a_le (by repeat' (first | exact All2.nil | refine All2.cons ?_ ?_ | exact CLe.refl _ | exact CLe.nil _ _))) rfl (nlb rfl) rfl rfl (nlb rfl), ?_⟩
    exact GoalF.rename [0, 1, 2, 5, 4] rfl (GoalF.le (st11_4 snI snE l p (snI ins (pI k)) exits param (k + 1)) (by repeat' (first | exact trivial | refine wk1 rfl ?_)) (rc (rc (rc (rc (rc .nil))))) rfl (ih _ (by show ins.n + 1 ≤ _; omega) ho))
  · rw [Nat.sub_self] at ho
    refine reachP (X := X11 l snI snE) (stop := sp11) (vc11_4 _ _ snI snE l p ins exits param _ ?_)
    refine br_mk (fun h3 => lt_self h3) (fun h3 => ?_)
    have ho : md7 l param p ins exits = o := ho
    subst ho
    exact GoalF.le (st11_7 snI snE l p ins exits param) (by repeat' (first | exact trivial | refine wk1 rfl ?_)) (rc (rc (rc (rc (rc .nil))))) rfl (lp11_7 l p ins exits param hl (by omega) hE (by omega))
theorem con11 (l : Sq Int) (hl : l.n ≤ maxLen) : LC 11 [dSq 1 eInt l] [] (dTrace (made l)) [] := by
  obtain ⟨d, hd, hlt⟩ := nx_nat (l := l) (p := 0) (n := 4) (by omega) (by omega)
  refine pure_vc (X := X11 l snI snE) (stop := sp11) fn11 (nlb (by kernel_rfl)) (vc11 _ _ snI snE l ⟨use33 l 0 _ hl rfl, ?_⟩)
  rw [hd, show IntKind.i64.wrap (1 + (d : Int)) = ((1 + d : Nat) : Int) from by rw [show 1 + (d : Int) = ((1 + d : Nat) : Int) by omega, wrap_nat (by omega)]]
  rw [show made l = md7 l (1 + d) (nx l 0 4).2 (mdP (1 + d) 0 nilI) nilE from by unfold made; rw [hd]; rfl]
  exact GoalF.adoptBox 2 3 52 14 _ rfl rfl (GoalF.adoptBox 2 4 57 3 _ rfl rfl (GoalF.le (st11_4 snI snE l (nx l 0 4).2 nilI nilE (1 + d) 0) (by repeat' (first | exact trivial | refine wk1 rfl ?_)) (rc (rc (rc (.cons (rt_nil 52 14 _ _) (.cons (rt_nil 57 3 _ _) .nil))))) rfl (lp11_4 l _ nilE (1 + d) hl (Nat.zero_le _) (by omega) _ 0 (Nat.zero_le _) nilI (Nat.zero_le _) rfl)))
open Go Go.V
noncomputable def las9 (t : TraceL) (f : Int → Int → Int) (ds : List D) : Out := match ds with
  | [.a [_, _, .im (.v _), _], _, _] => (int 0, [], [])
  | [_, .c (.im (.v (.int .i64 i))), .c (.im (.v (.int .i64 j)))] => (int (f i j), [], [])
  | _ => (.t [], [], [])
noncomputable def F20L (t : TraceL) : AnsL := [
  (11, fun ds rs => (dTrace t, [], [])),
  (23, fun ds rs => (bool true, [], [])),
  (28, fun ds rs => las9 t (lasL t) ds),
  (29, fun ds rs => las9 t (lasR t) ds)]
noncomputable def F20 (t : TraceL) := ext F12 (F20L t)
noncomputable def X9 (t : TraceL) : Spc := { F := F20 t }
def sp9 : Nat → Bool := fun i => Nat.beq i 4 || Nat.beq i 7 || Nat.beq i 12
theorem fn9 : Fn 9 := ⟨by kernel_rfl, by kernel_rfl⟩
theorem vc9 (L : LP) (QD : D → Prop) (t : TraceL) (l : Sq Int) (h : ( LC 23 [] [] (bool true) [] ∧ ( LC 11 [(.c (.im (.sl 1 l.1 (fun i => eInt (l.2 i)))))] [] (.a (lift (lTrace (t)))) [] ∧ L (todoG 9 4) ⟨[(3, ((bool true), [])), (4, ((.c (.rt 0 0 0)), [])), (5, ((int (-1)), []))], [(.box (lift (lTrace (t))))], []⟩))) : vcF (X9 t) 9 sp9 L (endP QD) [dSq 1 eInt l] [] := Eq.mp (by kernel_rfl) h
noncomputable def st9_4 (t : TraceL) (l : Sq Int) (i : Nat) : VS := ⟨[(3, (.c (.im (.v (.bool true)))), []), (4, (.c (.rt 0 0 0)), []), (5, int ((i : Int) - 1), [])], [(.box (lift (lTrace (t))))], []⟩
theorem vc9_4 (L : LP) (QD : D → Prop) (t : TraceL) (l : Sq Int) (i : Nat) (h : br (decide ((↑i : Int) - 1 ≤ (↑t.2.1 : Int))) ( L (todoG 9 7) ⟨[(3, ((bool true), [])), (4, ((.c (.rt 0 0 0)), [])), (5, ((int ((↑i : Int) - 1)), [])), (6, ((int (-1)), []))], [(.box (lift (lTrace (t))))], []⟩) ( L (todoG 9 12) ⟨[(3, ((bool true), [])), (4, ((.c (.rt 0 0 0)), [])), (5, ((int ((↑i : Int) - 1)), [])), (15, ((bool false), []))], [(.box (lift (lTrace (t))))], []⟩)) : vcR (X9 t) 9 sp9 L (endP QD) 4 (st9_4 t l i) := Eq.mp (by kernel_rfl) h
noncomputable def st9_7 (t : TraceL) (l : Sq Int) (i j : Nat) : VS := ⟨[(3, (.c (.im (.v (.bool true)))), []), (4, (.c (.rt 0 0 0)), []), (5, int ((i : Int) - 1), []), (6, int ((j : Int) - 1), [])], [(.box (lift (lTrace (t))))], []⟩
theorem vc9_7 (L : LP) (QD : D → Prop) (t : TraceL) (l : Sq Int) (i j : Nat) (h : br (decide ((↑j : Int) - 1 ≤ (↑t.2.1 : Int))) ( ( LC 28 [(.a (lift (lTrace (t)))), (int ((↑i : Int) - 1)), (int ((↑j : Int) - 1))] [] (int (lasL t ((↑i : Int) - 1) ((↑j : Int) - 1))) [] ∧ ( LC 29 [(.a (lift (lTrace (t)))), (int ((↑i : Int) - 1)), (int ((↑j : Int) - 1))] [] (int (lasR t ((↑i : Int) - 1) ((↑j : Int) - 1))) [] ∧ br (lasL t ((↑i : Int) - 1) ((↑j : Int) - 1) != lasR t ((↑i : Int) - 1) ((↑j : Int) - 1)) ( QD (bool false)) ( ( LC 28 [(.a (lift (lTrace (t)))), (int ((↑j : Int) - 1)), (int ((↑i : Int) - 1))] [] (int (lasL t ((↑j : Int) - 1) ((↑i : Int) - 1))) [] ∧ br (lasL t ((↑i : Int) - 1) ((↑j : Int) - 1) != lasL t ((↑j : Int) - 1) ((↑i : Int) - 1)) ( QD (bool false)) ( L (todoG 9 7) ⟨[(3, ((bool true), [])), (4, ((.c (.rt 0 0 0)), [])), (5, ((int ((↑i : Int) - 1)), [])), (6, ((int (IntKind.i64.wrap ((↑j : Int) - 1 + 1))), []))], [(.box (lift (lTrace (t))))], []⟩)))))) ( L (todoG 9 4) ⟨[(3, ((bool true), [])), (4, ((.c (.rt 0 0 0)), [])), (5, ((int (IntKind.i64.wrap ((↑i : Int) - 1 + 1))), []))], [(.box (lift (lTrace (t))))], []⟩)) : vcR (X9 t) 9 sp9 L (endP QD) 7 (st9_7 t l i j) := Eq.mp (by kernel_rfl) h
noncomputable def st9_12 (t : TraceL) (l : Sq Int)  : VS := ⟨[(3, (.c (.im (.v (.bool true)))), []), (4, (.c (.rt 0 0 0)), [])], [(.box (lift (lTrace (t))))], []⟩
theorem vc9_12 (L : LP) (QD : D → Prop) (t : TraceL) (l : Sq Int)  (h : ( LC 28 [(.a [(ci 0), (ci 0), (.im (.v (.slice .none 0 0))), (.im (.v (.slice .none 0 0)))]), (int 0), (int 0)] [] (int 0) [] ∧ QD (bool (0 == 0)))) : vcR (X9 t) 9 sp9 L (endP QD) 12 (st9_12 t l ) := Eq.mp (by kernel_rfl) h
noncomputable def zeroT : TraceL := ⟨⟨0, 0⟩, nilSq zeroI, nilSq ⟨nilSq ⟨0, 0, nilSq 0⟩, nilSq ⟨0, 0, nilSq (ByteArray.mk ⟨[]⟩), nilSq 0⟩, 0⟩⟩
theorem a_le9 {l l' : List C} (h : All2 CLe l l') : DLe (.a l) (.a l') := by
  rintro E av w v ⟨cs, rfl, hv⟩
  exact ⟨cs, rfl, All2.cle h hv⟩
theorem zeroT_le : DLe (.a [(.im (.v (.int .i64 0))), (.im (.v (.int .i64 0))), (.im (.v (.slice .none 0 0))), (.im (.v (.slice .none 0 0)))]) (dTrace zeroT) :=
  a_le9 (.cons (CLe.refl _) (.cons (CLe.refl _) (.cons (CLe.nil 14 _) (.cons (CLe.nil 3 _) .nil))))
theorem zeroT_small : SmallT zeroT := ⟨by decide, by decide, fun k hk => absurd hk (Nat.not_lt_zero k), fun k hk => absurd hk (Nat.not_lt_zero k), fun k hk => absurd hk (Nat.not_lt_zero k), fun k hk => absurd hk (Nat.not_lt_zero k)⟩
theorem zeroT_right : rightL zeroT = 31 := rfl
theorem zeroT_las : lasL zeroT 0 0 = 0 := by
  unfold lasL
  rw [zeroT_right]
  rfl
theorem con28z : LC 28 [.a [(.im (.v (.int .i64 0))), (.im (.v (.int .i64 0))), (.im (.v (.slice .none 0 0))), (.im (.v (.slice .none 0 0)))], int 0, int 0] [] (int 0) [] := by
  have := con28 zeroT 0 0 zeroT_small (fun h => by rw [zeroT_right] at h; cases h)
  rw [zeroT_las] at this
  exact LoCon.pre this (.cons zeroT_le (.cons (DLe.refl _) (.cons (DLe.refl _) .nil)))
structure GoodT (t : TraceL) : Prop where
  small : SmallT t
  num : ∀ k, k < t.ins.n → (t.ins.get k).n ≤ 9223372036854775807
theorem GoodT.mem {t : TraceL} (h : GoodT t) : rightL t = 0 → MemOK t := fun e => mem_right (right_eq t h.num ▸ e)
theorem lp9_12 (t : TraceL) (l : Sq Int) : GoalF 9 0 (EndsP (bool true)) (todoG 9 12) (st9_12 t l) := by
  refine reachP (X := X9 t) (stop := sp9) (vc9_12 _ _ t l ⟨con28z, ?_⟩)
  exact DLe.refl _
theorem lp9_7 (t : TraceL) (l : Sq Int) (hG : GoodT t) (i : Nat) (hi : i ≤ 2000) (end_ : GoalF 9 0 (EndsP (bool true)) (todoG 9 4) (st9_4 t l (i + 1))) : ∀ j, j ≤ t.ins.n + 2 → GoalF 9 0 (EndsP (bool true)) (todoG 9 7) (st9_7 t l i j) := by
  have hN := hG.small.ins
  refine count_rule (fun j hj ih => ?_) ?_
  · refine reachP (X := X9 t) (stop := sp9) (vc9_7 _ _ t l i j ?_)
    rw [show IntKind.i64.wrap ((j : Int) - 1 + 1) = ((j + 1 : Nat) : Int) - 1 from by rw [show (j : Int) - 1 + 1 = (j : Int) by omega, wrap_nat (by omega)]; omega]
    refine br_mk (fun h => ?_) (fun h => by have := of_decide_eq_false h; omega)
    refine ⟨con28 t _ _ hG.small hG.mem, con29 t _ _ hG.small (fun e => mem_right e), ?_⟩
    refine br_mk (fun h1 => ?_) (fun h1 => ⟨con28 t _ _ hG.small hG.mem, br_mk (fun h2 => ?_) (fun h2 => ih)⟩)
    · rw [las_eq t hG.num] at h1
      simp at h1
    · rw [las_symm t] at h2
      simp at h2
  · refine reachP (X := X9 t) (stop := sp9) (vc9_7 _ _ t l i _ ?_)
    rw [show IntKind.i64.wrap ((i : Int) - 1 + 1) = ((i + 1 : Nat) : Int) - 1 from by rw [show (i : Int) - 1 + 1 = (i : Int) by omega, wrap_nat (by omega)]; omega]
    refine br_mk (fun h => by have := of_decide_eq_true h; omega) (fun h => end_)
theorem lp9_4 (t : TraceL) (l : Sq Int) (hG : GoodT t) : ∀ i, i ≤ t.ins.n + 2 → GoalF 9 0 (EndsP (bool true)) (todoG 9 4) (st9_4 t l i) := by
  have hN := hG.small.ins
  refine count_rule (fun i hi ih => ?_) ?_
  · refine reachP (X := X9 t) (stop := sp9) (vc9_4 _ _ t l i ?_)
    refine br_mk (fun h => lp9_7 t l hG i (by omega) ih 0 (Nat.zero_le _)) (fun h => by have := of_decide_eq_false h; omega)
  · refine reachP (X := X9 t) (stop := sp9) (vc9_4 _ _ t l _ ?_)
    refine br_mk (fun h => by have := of_decide_eq_true h; omega) (fun h => ?_)
    exact GoalF.le (st9_12 t l) (by repeat' (first | exact trivial | refine wk1 rfl ?_)) (rc .nil) rfl (lp9_12 t l)
theorem con9 (t : TraceL) (l : Sq Int) (hG : GoodT t) (h11 : LC 11 [dSq 1 eInt l] [] (dTrace t) []) (h23 : LC 23 [] [] (bool true) []) : LC 9 [dSq 1 eInt l] [] (bool true) [] :=
  pure_vc (X := X9 t) (stop := sp9) fn9 (nlb (by kernel_rfl)) (vc9 _ _ t l ⟨h23, h11, lp9_4 t l hG 0 (Nat.zero_le _)⟩)
open Go Go.V
theorem mdP_grow : ∀ (m k p p' : Nat) (ins : Sq InsL) (ex : Sq ExitL), Grow ⟨p, ins, ex⟩ ⟨p', mdP m k ins, ex⟩ m 0
  | 0, k, p, p', ins, ex => ⟨Nat.le_refl _, Nat.le_refl _, fun h => h, fun h => h⟩
  | m + 1, k, p, p', ins, ex => by
    have h1 := Grow.add ⟨p, ins, ex⟩ p (x := pI k) ⟨by show (0 : Int) ≤ _; omega, Nat.zero_le _, Nat.zero_le _, Nat.zero_le _⟩
    have h2 := mdP_grow m (k + 1) p p' (snI ins (pI k)) ex
    exact (h1.trans h2).le (by omega) (by omega)
theorem itS_grow (l : Sq Int) (fuel : Int) (param : Nat) (hP : param ≤ 1000) : ∀ (m : Nat) (s : Bst), Grow s (itS l fuel param m s) (4 * m) (2 * m)
  | 0, s => Grow.refl s
  | m + 1, s => ((stp_grow l fuel param hP s).trans (itS_grow l fuel param hP m _)).le (by omega) (by omega)
theorem mdA_n (l : Sq Int) (ins : Sq InsL) : ∀ (m k p : Nat) (h : Sq Int), (mdA l ins m k p h).n = h.n + m
  | 0, k, p, h => rfl
  | m + 1, k, p, h => by
    unfold mdA
    cases (nx l p 2).1 == 0 with
    | true =>
      show (mdA l ins m _ _ _).n = _
      rw [mdA_n]
      show h.n + 1 + m = _
      omega
    | false =>
      show (mdA l ins m _ _ _).n = _
      rw [mdA_n]
      show h.n + 1 + m = _
      omega
theorem Grow.good {p : Nat} {s : Bst} {c d : Nat} (h : Grow ⟨p, nilI, nilE⟩ s c d) (hc : c ≤ 1000) (hd : d ≤ 1000) : GoodT ⟨⟨0, 0⟩, s.ins, s.ex⟩ := by
  have g1 := h.gi fun k hk => absurd hk (Nat.not_lt_zero k)
  have g2 := h.ge fun k hk => absurd hk (Nat.not_lt_zero k)
  have g3 : s.ins.n ≤ 0 + c := h.ins
  have g4 : s.ex.n ≤ 0 + d := h.ex
  exact ⟨⟨by show s.ins.n ≤ _; omega, by show s.ex.n ≤ _; omega, fun k hk => (g1 k hk).args, fun k hk => (g1 k hk).names, fun k hk => (g1 k hk).str, fun k hk => g2 k hk⟩, fun k hk => (g1 k hk).n⟩
theorem made_good (l : Sq Int) : GoodT (made l) := by
  obtain ⟨d, hd, hlt⟩ := nx_nat (l := l) (p := 0) (n := 4) (by omega) (by omega)
  unfold made
  rw [hd]
  show GoodT (md7 l (1 + d) (nx l 0 4).2 (mdP (1 + d) 0 nilI) nilE)
  have h1 := mdP_grow (1 + d) 0 0 0 nilI nilE
  generalize (nx l 0 4).2 = p
  unfold md7
  have hf := nx_lt (l := l) (p := p) (n := 4) (by omega) (by omega)
  obtain ⟨e, he, hle⟩ := nx_nat (l := l) (p := (lv l (nx l p 4).2 (mdP (1 + d) 0 nilI) 0 (1 + d)).2) (n := 14) (by omega) (by omega)
  rw [he]
  generalize hF : 1 + (nx l p 4).1 = fuel
  have h2 : Grow ⟨0, mdP (1 + d) 0 nilI, nilE⟩ (md8 l fuel (1 + d) (nx l p 4).2 (mdP (1 + d) 0 nilI) nilE) 1 1 :=
    Grow.both _ _ (good_mk (by omega)) (lv_small l _ _ _ _ (by omega))
  have h3 := (h1.trans h2).trans (itS_grow l fuel (1 + d) (by omega) e (md8 l fuel (1 + d) (nx l p 4).2 (mdP (1 + d) 0 nilI) nilE))
  show GoodT (md19 l fuel (1 + d) (itS l fuel (1 + d) e _))
  generalize itS l fuel (1 + d) e (md8 l fuel (1 + d) (nx l p 4).2 (mdP (1 + d) 0 nilI) nilE) = s at h3 ⊢
  unfold md19
  cases (nx l s.p 6).1 == 0 with
  | true => exact Grow.good (h3.trans (Grow.both s 0 (good_mk (by omega)) (lv_small l _ _ _ _ (by omega)))) (by omega) (by omega)
  | false =>
    refine Grow.good (h3.trans (Grow.add s 0 (x := { mkI 20 0 0 0 0 (-1) with args := mdA l s.ins (1 + d) 0 (nx l s.p 6).2 (nilSq 0) }) ⟨by show (0 : Int) ≤ _; omega, ?_, Nat.zero_le _, Nat.zero_le _⟩)) (by omega) (by omega)
    show (mdA l s.ins (1 + d) 0 (nx l s.p 6).2 (nilSq 0)).n ≤ 1000
    rw [mdA_n]
    show 0 + (1 + d) ≤ 1000
    omega
end Go.Proofs.YtgbbdaegmfjahaaGreat
