/- What a run of code leaves to be shown. -/
import Derived.Test.YtkbgcnppkmkkiaaDoorVm1
set_option linter.unusedVariables false
namespace Go.V

def getL (l : List I) (q : Nat) : I := match nth l q with
  | some x => x
  | none => .v (.tuple #[])

def flat (sz : Nat) (l : List I) (i j : Nat) : I := getL l (i * sz + j)
/-- A cell as it is now, as one that stays; and whether a root was looked at. -/
def reifyR (rs : List Root) (r : Nat) (rec : List C → Option (List I)) : Option I := match nth rs r with
  | some (.box l) => match rec l with
    | some is => some (.pt is.length (getL is))
    | none => none
  | _ => none
def reify1 (rs : List Root) (rec : List C → Option (List I)) : C → Option I
  | .im x => some x
  | .rt q 0 0 => reifyR rs q rec
  | .sa q m => match nth rs q with
    | some (.arr _ sz _ get) => some (.sl sz m get)
    | some (.row _ sz _ l) => match takeN (m * sz) l with
      | some l => match rec l with
        | some is => some (.sl sz m (flat sz is))
        | none => none
      | none => none
    | _ => none
  | .mp q => match nth rs q with
    | some (.set l) => some (.st l)
    | _ => none
  | .clo f [] => some (.fn f 0 (getL []))
  | .clo f [q] => match reifyR rs q rec with
    | some x => some (.fn f 1 (getL [x]))
    | none => none
  | .clo f [q, q'] => match reifyR rs q rec, reifyR rs q' rec with
    | some x, some y => some (.fn f 2 (getL [x, y]))
    | _, _ => none
  | .clo f [q, q', q''] => match reifyR rs q rec, reifyR rs q' rec, reifyR rs q'' rec with
    | some x, some y, some z => some (.fn f 3 (getL [x, y, z]))
    | _, _, _ => none
  | _ => none
def mapO {α β : Type} (f : α → Option β) : List α → Option (List β)
  | [] => some []
  | x :: l => match f x, mapO f l with
    | some y, some r => some (y :: r)
    | _, _ => none
def reify : Nat → List Root → List C → Option (List I)
  | 0, rs, l => mapO (reify1 rs fun _ => none) l
  | k + 1, rs, l => mapO (reify1 rs (reify k rs)) l
def lift : List I → List C
  | [] => []
  | x :: l => .im x :: lift l
def reifyD (rs : List Root) : D → Option D
  | .c x => match reify 6 rs [x] with
    | some [y] => some (.c (.im y))
    | _ => none
  | .a l => match reify 6 rs l with
    | some r => some (.a (lift r))
    | none => none
  | .t l => match reifyT rs l with
    | some r => some (.t r)
    | none => none
where reifyT (rs : List Root) : List (Bool × List C) → Option (List (Bool × List C))
  | [] => some []
  | (b, l) :: m => match reify 6 rs l, reifyT rs m with
    | some r, some q => some ((b, lift r) :: q)
    | _, _ => none
def reifyDs (rs : List Root) : List D → Option (List D)
  | [] => some []
  | d :: l => match reifyD rs d, reifyDs rs l with
    | some x, some r => some (x :: r)
    | _, _ => none

/-- No cell refers to a root. -/
def pureC : List C → Bool
  | [] => true
  | .im _ :: l => pureC l
  | _ :: _ => false
def pureD : D → Bool
  | .c x => pureC [x]
  | .a l => pureC l
  | .t l => l.all fun x => pureC x.2
def pureDs : List D → Bool
  | [] => true
  | d :: l => match pureD d with
    | true => pureDs l
    | false => false
/-- Plain cells alone. -/
def plainC : List C → Bool
  | [] => true
  | .im (.v _) :: l => plainC l
  | _ :: _ => false
def plainD : D → Bool
  | .c x => plainC [x]
  | .a l => plainC l
  | .t l => l.all fun x => plainC x.2

structure Cal where
  pur : FuncId → List D → Option (Option Prop × D)
  eff : FuncId → List D → List Root → Option (Option Prop × D × List Root)
  /-- a round of the loop over a function whose record root r is -/
  yld : Nat → List D → List Root → Option (Option Prop × D × List Root)

/-- What is to be shown only where the conditions g hold. -/
def wantsD (s : VS) (g0 : Cond) (p : Prop) : Cond → Prop
  | [] => p
  | (t, b) :: g => match look s.sl t with
    | some (.c (.im (.v (.bool x))), c) => match sub c g0 with
      | true => x = b → wantsD s g0 p g
      | false => False
    | _ => False

/-- What is to be shown, and what comes behind. -/
def andK (s : VS) (g : Cond) (p : Option Prop) (K : Prop) : Prop := match p with
  | none => K
  | some p => wantsD s g p g ∧ K

def okDst (N t : Nat) (g : Cond) (sl : Slots) : Bool := match Nat.blt t N with
  | true => match free t sl with
    | true => condFree t g
    | false => false
  | false => false

def putK (N : Nat) (s : VS) (dst : Option Tmp) (d : D) (g : Cond) (K : VS → Prop) : Prop := match dst with
  | none => K s
  | some t => match okDst N t g s.sl with
    | true => K { s with sl := (t, d, g) :: s.sl }
    | false => False

def condOf (ops : List Oper) (s : VS) (o : Oper) : Option Cond := match o.guard with
  | none => some []
  | some (j, want) => match nth ops j with
    | some p => match p.dst with
      | some t => match look s.sl t with
        | some (_, c) => some ((t, want) :: c)
        | none => none
      | none => none
    | none => none

/-- The cells of element i from j on are ys. -/
def upd (get : Nat → Nat → I) (i j : Nat) (ys : List I) : Nat → Nat → I := fun i' j' => if i' = i ∧ j ≤ j' ∧ j' < j + ys.length then getL ys (j' - j) else get i' j'
def app (n : Nat) (get get' : Nat → Nat → I) : Nat → Nat → I := fun i j => if i < n then get i j else get' (i - n) j

def fillA (sz : Nat) (s : VS) (g : Cond) : List (Nat × Operand) → List C → Option (List C)
  | [], l => some l
  | (k, x) :: r, l => match s.ev g x with
    | some d => match d.cells with
      | some cs => match Nat.beq cs.length sz && Nat.blt 0 sz with
        | true => match put l (k * sz) cs with
          | some l' => fillA sz s g r l'
          | none => none
        | false => none
      | none => none
    | none => none

def rep (l : List C) : Nat → List C
  | 0 => []
  | n + 1 => l ++ rep l n

def room (n bytes : Nat) : Prop := n ≤ maxLen ∧ n * bytes ≤ 140737488355328

def addI (n : Int) (l : List Int) : List Int := match elemI n l with
  | true => l
  | false => l ++ [n]

section
variable (T : Tab) (cal : Cal) (N : Nat)

/-- what is appended: cells of an element, how many elements, which -/
def srcD (rs : List Root) : D → Option (Nat × Nat × (Nat → Nat → I))
  | .c (.im (.sl sz k get)) => some (sz, k, get)
  | .c (.sa q k) => match nth rs q with
    | some (.arr _ sz _ get) => some (sz, k, get)
    | _ => none
  | _ => none

def appendK (s : VS) (t : TypeId) (d src : D) (dst : Option Tmp) (K : VS → Prop) : Prop := match T.ty t with
  | some { kd := .slice el, .. } => match T.ty el with
    | some y => match srcD s.rs src with
      | some (sz, k, get') => match Nat.beq sz y.size && Nat.blt 0 sz with
        | true => match d with
          | .c (.im (.v (.slice none 0 0))) => room k y.bytes ∧
            putK N { s with rs := s.rs ++ [.arr el sz k get'] } dst (.c (.sa s.rs.length k)) [] K
          | .c (.sa r m) => match nth s.rs r with
            | some (.arr el' sz' n get) => match Nat.beq el el' && Nat.beq sz sz' with
              | true => m = n ∧ room (n + k) y.bytes ∧
                putK N { s with rs := setAt s.rs r .dead ++ [.arr el sz (n + k) (app n get get')] } dst (.c (.sa s.rs.length (n + k))) [] K
              | false => False
            | _ => False
          | _ => False
        | false => False
      | none => False
    | none => False
  | _ => False

/-- the function that a call enters, and what is captured -/
def calleeD : D → Option (FuncId × List D)
  | .c (.clo f caps) => some (f, caps.map fun r => .c (.rt r 0 0))
  | .c (.im (.fn f n cap)) => some (f, (cellsFrom cap 0 n).map .c)
  | _ => none

def callK (s : VS) (g : Cond) (f : FuncId) (ds : List D) (dst : Option Tmp) (K : VS → Prop) : Prop := match reifyDs s.rs ds with
  | some is => match cal.pur f is with
    | some (p, d) => match pureDs ds || plainD d with
      | true => match pureD d with
        | true => andK s g p (putK N s dst d g K)
        | false => False
      | false => False
    | none => effK s g f ds dst K
  | none => effK s g f ds dst K
where effK (s : VS) (g : Cond) (f : FuncId) (ds : List D) (dst : Option Tmp) (K : VS → Prop) : Prop := match g, cal.eff f ds s.rs with
  | [], some (p, d, rs) => andK s [] p (putK N { s with rs := rs } dst d [] K)
  | _, _ => False

def yldK (s : VS) (g : Cond) (r : Nat) (ds : List D) (dst : Option Tmp) (K : VS → Prop) : Prop := match g, cal.yld r ds s.rs with
  | [], some (p, d, rs) => andK s [] p (putK N { s with rs := rs } dst d [] K)
  | _, _ => False

def storeK (s : VS) (t : TypeId) (x v : D) (K : VS → Prop) : Prop := match T.ty t with
  | some y => match v.cells with
    | some cs => match Nat.beq cs.length y.size && Nat.blt 0 y.size with
      | true => match x with
        | .c (.rt r i j) => match nth s.rs r with
          | some (.box l) => match i, put l j cs with
            | 0, some l' => K { s with rs := setAt s.rs r (.box l') }
            | _, _ => False
          | some (.arr el sz n get) => match imm cs, Nat.ble (j + y.size) sz with
            | some ys, true => i < n ∧ K { s with rs := setAt s.rs r (.arr el sz n (upd get i j ys)) }
            | _, _ => False
          | _ => False
        | _ => False
      | false => False
    | none => False
  | none => False

/-- Operations that change the frame's own memory, and calls. -/
def memK (s : VS) (g : Cond) (op : Op) (dst : Option Tmp) (K : VS → Prop) : Prop := match op with
  | .box t x => match g, s.ev g x with
    | [], some d => match d.cells with
      | some l => putK N { s with rs := s.rs ++ [.box l] } dst (.c (.rt s.rs.length 0 0)) [] K
      | none => False
    | _, _ => False
  | .alloc t => match g, T.ty t with
    | [], some y => match zeroC y with
      | some l => putK N { s with rs := s.rs ++ [.box l] } dst (.c (.rt s.rs.length 0 0)) [] K
      | none => False
    | _, _ => False
  | .store t x v => match g, dst, s.ev g x, s.ev g v with
    | [], none, some p, some d => storeK T s t p d K
    | _, _, _, _ => False
  | .buildSlice t n parts => match g, T.ty t with
    | [], some { kd := .slice el, .. } => match T.ty el with
      | some y => match zeroC y with
        | some z => match fillA y.size s g parts.toList (rep z n) with
          | some l => match imm l with
            | some is => match Nat.blt 0 y.size && Nat.ble (n * y.size) 1000000 with
              | true => putK N { s with rs := s.rs ++ [.arr el y.size n (flat y.size is)] } dst (.c (.sa s.rs.length n)) [] K
              | false => False
            | none => False
          | none => False
        | none => False
      | none => False
    | _, _ => False
  | .call c => match c.callee with
    | .builtin .append => match g, c.argTypes.toList, evs s g c.args.toList with
      | [], [t, t'], some [d, src] => match Nat.beq t t' with
        | true => appendK T N s t d src dst K
        | false => False
      | _, _, _ => False
    | .value f => match s.ev g f, evs s g c.args.toList with
      | some (.c (.yl r)), some ds => yldK cal N s g r ds dst K
      | some fd, some ds => match calleeD fd with
        | some (f, caps) => callK cal N s g f (ds ++ caps) dst K
        | none => False
      | _, _ => False
    | _ => False
  | .makeMap t none => match g, T.ty t with
    | [], some { kd := .map _ _, .. } => putK N { s with rs := s.rs ++ [.set []] } dst (.c (.mp s.rs.length)) [] K
    | _, _ => False
  | .mapUpdate t m k v => match g, dst with
    | [], none => match T.ty t with
      | some { kd := .map kt _, .. } => match T.ty kt with
        | some { kd := .int, .. } => match s.ev g m, s.ev g k, s.ev g v with
          | some (.c (.mp r)), some (.c (.im (.v (.int .i64 n)))), some (.c (.im (.v (.bool true)))) => match nth s.rs r with
            | some (.set l) => K { s with rs := setAt s.rs r (.set (addI n l)) }
            | _ => False
          | _, _, _ => False
        | _ => False
      | _ => False
    | _, _ => False
  | _ => False

def opK (ops : List Oper) (s : VS) (o : Oper) (K : VS → Prop) : Prop := match condOf ops s o with
  | none => False
  | some g => match pureOp T s g o.op with
    | some (p, d) => andK s g p (putK N s o.dst d g K)
    | none => memK T cal N s g o.op o.dst K

def opsK (ops : List Oper) (K : VS → Prop) : List Oper → VS → Prop
  | [], s => K s
  | o :: r, s => opK T cal N ops s o (opsK ops K r)

/-- Only these slots are kept. -/
def keepS (sl : Slots) : List Tmp → Slots
  | [] => []
  | t :: r => match look sl t with
    | some (d, []) => (t, d, []) :: keepS sl r
    | _ => keepS sl r

/-- A statement whose order is open: the operations up to n only look. -/
def quietK (ops : List Oper) (K : VS → Prop) : List Oper → VS → Prop
  | [], s => K s
  | o :: r, s => match condOf ops s o with
    | none => False
    | some g => match pureOp T s g o.op with
      | some (p, d) => andK s g p (putK N s o.dst d g (quietK ops K r))
      | none => match o.op with
        | .call c => match c.callee with
          | .value f => match s.ev g f, evs s g c.args.toList with
            | some fd, some ds => match calleeD fd with
              | some (f, caps) => match reifyDs s.rs (ds ++ caps) with
                | some is => match cal.pur f is with
                  | some (p, d) => match plainD d with
                    | true => andK s g p (putK N s o.dst d g (quietK ops K r))
                    | false => False
                  | none => False
                | none => False
              | none => False
            | _, _ => False
          | _ => False
        | _ => False

/-- keep: which slots are kept behind a region; cuts: the blocks at whose end a run stops; heads: for a statement whose order is open, how many operations only look -/
structure Plan where
  keep : Nat → List Tmp
  cuts : Nat → Bool
  heads : Nat → Nat

variable (pl : Plan) (X : List Item → VS → Prop) (Q : VS → Prop)

def exec : Nat → List Item → VS → Prop
  | 0, _, _ => False
  | n + 1, todo, s => match todo with
    | [] => Q s
    | .inBlock id :: k => match pl.cuts id with
      | true => X k s
      | false => exec n k s
    | .inLoop c :: k => X (.code c :: .inLoop c :: k) s
    | .code c :: k => match c with
      | .skip => exec n k s
      | .label _ => exec n k s
      | .ret => Q s
      | .seq a b => exec n (.code a :: .code b :: k) s
      | .cond c a b => match s.ev [] c with
        | some (.c (.im (.v (.bool p)))) => (p = true → exec n (.code a :: k) s) ∧ (p = false → exec n (.code b :: k) s)
        | _ => False
      | .block id c => exec n (.code c :: .inBlock id :: k) s
      | .loop c => X (.code c :: .inLoop c :: k) s
      | .exit id => match exitTo id k with
        | some k' => match pl.cuts id with
          | true => X k' s
          | false => exec n k' s
        | none => False
      | .region id ops false => opsK T cal N ops.toList (fun s' => exec n k { s' with sl := keepS s'.sl (pl.keep id) }) ops.toList s
      | .region id ops true => match Region.lexTailB .any ops (pl.heads id) with
        | true => quietK T cal N ops.toList (fun s' => opsK T cal N ops.toList (fun s' => exec n k { s' with sl := keepS s'.sl (pl.keep id) }) (ops.toList.drop (pl.heads id)) s') (ops.toList.take (pl.heads id)) s
        | false => match Region.lexB .any ops with
          | true => quietK T cal N ops.toList (fun s' => exec n k { s' with sl := keepS s'.sl (pl.keep id) }) ops.toList s
          | false => False
      | .rangeFunc f ps as b => X (.code (.rangeFunc f ps as b) :: k) s
      | _ => False
    | _ => False
end
end Go.V

namespace Go.V
section
variable (T : Tab)
/-- a result: is it an aggregate, its cells -/
def resOne (s : VS) : ResultVar → Option (Option Prop × Bool × List C)
  | .tmp t => match s.ev [] (.tmp t) with
    | some (.c x) => some (none, false, [x])
    | some (.a l) => some (none, true, l)
    | _ => none
  | .cell ad t => match pureOp T s [] (.load t (.tmp ad)) with
    | some (p, .c x) => some (p, false, [x])
    | some (p, .a l) => some (p, true, l)
    | _ => none
def bothP : Option Prop → Option Prop → Option Prop
  | none, p => p
  | p, none => p
  | some p, some q => some (p ∧ q)
def resAll (s : VS) : List ResultVar → Option (Option Prop × List (Bool × List C))
  | [] => some (none, [])
  | x :: r => match resOne T s x, resAll s r with
    | some (p, q), some (p', l) => some (bothP p p', q :: l)
    | _, _ => none
def resD (s : VS) (rs : List ResultVar) : Option (Option Prop × D) := match resAll T s rs with
  | some (p, [(false, [x])]) => some (p, .c x)
  | some (p, [(true, l)]) => some (p, .a l)
  | some (p, l) => some (p, .t l)
  | none => none
/-- The end of a function: what it hands back. -/
def finQ (rs : List ResultVar) (post : D → Prop) (s : VS) : Prop := match resD T s rs with
  | some (p, d) => match reifyD s.rs d with
    | some d' => match p with
      | none => post d'
      | some p => p ∧ post d'
    | none => False
  | none => False
/-- The slots of a function's arguments. -/
def argSlots : Nat → List D → Slots
  | _, [] => []
  | k, d :: l => (k, d, []) :: argSlots (k + 1) l
end
end Go.V
