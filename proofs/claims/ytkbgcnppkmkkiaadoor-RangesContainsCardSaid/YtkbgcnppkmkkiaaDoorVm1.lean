/- The abstract machine V: cells, states, what an operation does to a state, and the conditions that a run of code leaves to be shown. -/
import Derived.WalkKit
import Derived.StillTail
import Derived.Deep.Quiet
set_option linter.unusedVariables false
namespace Go.V

/-- One cell that can't be changed any more. -/
inductive I where
  | v (x : Value)
  | sl (sz n : Nat) (get : Nat → Nat → I)
  | pt (sz : Nat) (get : Nat → I)
  | fn (f : FuncId) (n : Nat) (cap : Nat → I)
  | st (l : List Int)
  | gp (g : Nat)   -- a package's variable
  | fm (l : List (Int × FuncId))   -- a map from numbers to functions
  | tx (s : ByteArray)   -- a text, known to be of a length that a number can tell

/-- One cell that may refer to a root of the state. -/
inductive C where
  | im (x : I)
  | rt (r i j : Nat)
  | sa (r m : Nat)
  | mp (r : Nat)
  | clo (f : FuncId) (caps : List Nat)
  | yl (r : Nat)

/-- A value: a cell, an aggregate, several results. -/
inductive D where
  | c (x : C)
  | a (l : List C)
  | t (l : List (Bool × List C))

abbrev Cond := List (Tmp × Bool)
abbrev Slots := List (Tmp × D × Cond)

/-- What a call, or the frame, has made and may change; a set of numbers is a map to 'true'; a loop over a function has a record of its own, and a block for deferred calls. -/
inductive Root where
  | dead
  | box (l : List C)
  | arr (e sz n : Nat) (get : Nat → Nat → I)
  | row (e sz n : Nat) (l : List C)
  | set (l : List Int)
  | loop (f N : Nat) (sl : Slots) (ps : List Tmp) (as bd : Code) (st : LoopState) (pend : Option Code)
  | dfr

structure VS where
  sl : Slots
  rs : List Root
  df : List Nat := []

def look : Slots → Tmp → Option (D × Cond)
  | [], _ => none
  | (k, d) :: r, t => match Nat.beq k t with
    | true => some d
    | false => look r t

abbrev D.v (x : Value) : D := .c (.im (.v x))
abbrev int (n : Int) : D := .v (.int .i64 n)
abbrev bool (b : Bool) : D := .v (.bool b)

def oneV : List Value → Option (List C)
  | [] => some []
  | x :: l => match x.oneCell', oneV l with
    | true, some r => some (.im (.v x) :: r)
    | _, _ => none
def constD (v : Value) : Option D := match v with
  | .agg cs => match oneV cs.toList with
    | some l => some (.a l)
    | none => none
  | v => match v.oneCell' with
    | true => some (.c (.im (.v v)))
    | false => none

def beqB : Bool → Bool → Bool
  | true, b => b
  | false, true => false
  | false, false => true
def condMem (x : Tmp × Bool) : Cond → Bool
  | [] => false
  | y :: m => match Nat.beq x.1 y.1 with
    | true => match beqB x.2 y.2 with
      | true => true
      | false => condMem x m
    | false => condMem x m
/-- Every condition of l is one of m. -/
def sub : Cond → Cond → Bool
  | [], _ => true
  | x :: l, m => match condMem x m with
    | true => sub l m
    | false => false

/-- What an operand stands for, where the conditions g hold. -/
def VS.ev (s : VS) (g : Cond) : Operand → Option D
  | .tmp t => match look s.sl t with
    | some (d, c) => match sub c g with
      | true => some d
      | false => none
    | none => none
  | .const v => constD v
  | .func f => some (.c (.im (.fn f 0 fun _ => .v (.bool false))))
  | .global g => some (.c (.im (.gp g)))

/-- No condition speaks of slot t. -/
def condFree (t : Tmp) : Cond → Bool
  | [] => true
  | x :: m => match Nat.beq x.1 t with
    | true => false
    | false => condFree t m
def free (t : Tmp) : Slots → Bool
  | [] => true
  | x :: r => match condFree t x.2.2 with
    | true => free t r
    | false => false

inductive Kd where
  | struct (fields : List (Nat × Nat))   -- offset, size
  | slice (e : Nat)
  | array (n e : Nat)
  | str | bool | int | map (k e : Nat) | ptr (e : Nat)
  | other

structure Ty where
  size : Nat
  bytes : Nat
  zero : Value
  kd : Kd

def Kd.agg : Kd → Bool
  | .struct _ => true
  | .array _ _ => true
  | _ => false

/-- Is the number one of the set's? -/
def elemI (n : Int) : List Int → Bool
  | [] => false
  | x :: l => match n == x with
    | true => true
    | false => elemI n l

/-- The value of an operation on two plain values. -/
def binV (op : BinOp) : Value → Value → Option Value
  | .int .i64 a, .int .i64 b => match op with
    | .add => some (.int .i64 (IntKind.i64.wrap (a + b)))
    | .sub => some (.int .i64 (IntKind.i64.wrap (a - b)))
    | .mul => some (.int .i64 (IntKind.i64.wrap (a * b)))
    | .eql => some (.bool (a == b))
    | .neq => some (.bool (a != b))
    | .lss => some (.bool (decide (a < b)))
    | .leq => some (.bool (decide (a ≤ b)))
    | .gtr => some (.bool (decide (a > b)))
    | .geq => some (.bool (decide (a ≥ b)))
    | .and => some (.int .i64 (IntKind.i64.wrap (BitVec.ofInt 64 a &&& BitVec.ofInt 64 b).toNat))
    | .andNot => some (.int .i64 (IntKind.i64.wrap (BitVec.ofInt 64 a &&& ~~~(BitVec.ofInt 64 b)).toNat))
    | _ => none
  | .int .u8 a, .int .u8 b => match op with
    | .eql => some (.bool (a == b))
    | .neq => some (.bool (a != b))
    | .lss => some (.bool (decide (a < b)))
    | .leq => some (.bool (decide (a ≤ b)))
    | .gtr => some (.bool (decide (a > b)))
    | .geq => some (.bool (decide (a ≥ b)))
    | _ => none
  | .string a, .string b => match op with
    | .eql => some (.bool (a.toList == b.toList))
    | .neq => some (.bool (!(a.toList == b.toList)))
    | _ => none
  | _, _ => none

/-- What is to be shown, if anything. -/
def need : Option Prop → Prop
  | none => True
  | some p => p

/-- The quotient and the rest, where the divisor isn't 0. -/
def divV (op : BinOp) : Value → Value → Option (Prop × Value)
  | .int .i64 a, .int .i64 b => match op with
    | .quo => some (b ≠ 0, .int .i64 (IntKind.i64.wrap (a.tdiv b)))
    | .rem => some (b ≠ 0, .int .i64 (a.tmod b))
    | .shl => some (0 ≤ b, .int .i64 (IntKind.i64.wrap (a * 2 ^ (min b.toNat 64))))
    | .shr => some (0 ≤ b, .int .i64 (a.fdiv (2 ^ (min b.toNat 64))))
    | _ => none
  | _, _ => none

inductive EK where
  | int | str | bool
/-- '==' of cells, in order (strings as bytes). -/
def eqK : List EK → List C → List C → Option Bool
  | [], [], [] => some true
  | .int :: k, .im (.v (.int .i64 x)) :: l, .im (.v (.int .i64 y)) :: m => match eqK k l m with
    | some c => some ((x == y) && c)
    | none => none
  | .str :: k, .im (.v (.string x)) :: l, .im (.v (.string y)) :: m => match eqK k l m with
    | some c => some ((x == y) && c)
    | none => none
  | .bool :: k, .im (.v (.bool x)) :: l, .im (.v (.bool y)) :: m => match eqK k l m with
    | some c => some ((x == y) && c)
    | none => none
  | _, _, _ => none
/-- What V knows of the program's types: their layout, and which structs may be compared. -/
structure Tab where
  ty : Nat → Option Ty
  eqs : Nat → Option (List EK)
  gl : Nat → Option I := fun _ => none   -- what package variables hold

/-- a map from numbers to functions: what is found -/
def findI (n : Int) (l : List (Int × FuncId)) : Option FuncId := match l with
  | [] => none
  | x :: l => match n == x.1 with
    | true => some x.2
    | false => findI n l
def cellsFrom (get : Nat → I) (o : Nat) : Nat → List C
  | 0 => []
  | n + 1 => .im (get o) :: cellsFrom get (o + 1) n

def takeN : Nat → List C → Option (List C)
  | 0, _ => some []
  | _ + 1, [] => none
  | n + 1, x :: l => match takeN n l with
    | some r => some (x :: r)
    | none => none
def dropN : Nat → List C → List C
  | 0, l => l
  | _ + 1, [] => []
  | n + 1, _ :: l => dropN n l
def nth {α : Type} : List α → Nat → Option α
  | [], _ => none
  | x :: _, 0 => some x
  | _ :: l, n + 1 => nth l n
def setAt {α : Type} : List α → Nat → α → List α
  | [], _, _ => []
  | _ :: l, 0, y => y :: l
  | x :: l, n + 1, y => x :: setAt l n y
/-- The cells from o on are ys. -/
def put (l : List C) (o : Nat) : List C → Option (List C)
  | [] => some l
  | y :: ys => match nth l o with
    | some _ => put (setAt l o y) (o + 1) ys
    | none => none

/-- an immutable value's cell or cells -/
def D.cells : D → Option (List C)
  | .c x => some [x]
  | .a l => some l
  | .t _ => none

def imm : List C → Option (List I)
  | [] => some []
  | .im x :: l => match imm l with
    | some r => some (x :: r)
    | none => none
  | _ :: _ => none

def evs (s : VS) (g : Cond) : List Operand → Option (List D)
  | [] => some []
  | x :: l => match s.ev g x, evs s g l with
    | some d, some r => some (d :: r)
    | _, _ => none

/-- Parts put into an aggregate: place, value. -/
def fillD (flds : List (Nat × Nat)) (s : VS) (g : Cond) : List (Nat × Operand) → List C → Option (List C)
  | [], l => some l
  | (k, x) :: r, l => match nth flds k, s.ev g x with
    | some (o, sz), some d => match d.cells with
      | some cs => match Nat.beq cs.length sz && Nat.blt 0 sz with
        | true => match put l o cs with
          | some l' => fillD flds s g r l'
          | none => none
        | false => none
      | none => none
    | _, _ => none

def zeroC (y : Ty) : Option (List C) := oneV y.zero.cells.toList

section
variable (T : Tab)

/-- len, max, min -/
def builtinD (b : Builtin) (ts : List TypeId) (ds : Option (List D)) : Option (Option Prop × D) := match b with
  | .len => match ts, ds with
    | [t], some [d] => match T.ty t with
      | some y => match y.kd, d with
        | .slice _, .c (.im (.sl _ n _)) => some (none, int n)
        | .slice _, .c (.sa _ m) => some (none, int m)
        | .slice _, .c (.im (.v (.slice _ n _))) => some (none, int n)
        | .str, .c (.im (.v (.string b))) => some (none, int b.size)
        | _, _ => none
      | none => none
    | _, _ => none
  | .max => match ds with
    | some [.c (.im (.v (.int .i64 a))), .c (.im (.v (.int .i64 b)))] => some (none, int (if b > a then b else a))
    | _ => none
  | .min => match ds with
    | some [.c (.im (.v (.int .i64 a))), .c (.im (.v (.int .i64 b)))] => some (none, int (if b < a then b else a))
    | _ => none
  | _ => none

/-- Operations that only compute: what is to be shown, and the value. -/
def pureOp (s : VS) (g : Cond) : Op → Option (Option Prop × D)
  | .move x => match s.ev g x with
    | some d => some (none, d)
    | none => none
  | .assign x => match s.ev g x with
    | some d => some (none, d)
    | none => none
  | .pick (.tmp t) a b => match s.ev g (.tmp t) with
    | some (.c (.im (.v (.bool p)))) => match s.ev ((t, true) :: g) a, s.ev ((t, false) :: g) b with
      | some (.c (.im (.v (.bool x)))), some (.c (.im (.v (.bool y)))) => some (none, bool (bif p then x else y))
      | _, _ => none
    | _ => none
  | .binOp op t x y _ => match s.ev g x, s.ev g y with
    | some (.c (.im (.v (.bool x)))), some (.c (.im (.v (.bool y)))) => match T.ty t with
      | some { kd := .bool, .. } => match op with
        | .eql => some (none, bool (x == y))
        | .neq => some (none, bool (!(x == y)))
        | _ => none
      | _ => none
    | some (.c (.im (.v x))), some (.c (.im (.v y))) => match binV op x y with
      | some z => some (none, .v z)
      | none => match divV op x y with
        | some (p, z) => some (some p, .v z)
        | none => none
    | some (.a l), some (.a m) => match T.eqs t with
      | some ks => match op, eqK ks l m with
        | .eql, some b => some (none, bool b)
        | .neq, some b => some (none, bool (!b))
        | _, _ => none
      | _ => none
    | _, _ => none
  | .unOp .not _ x => match s.ev g x with
    | some (.c (.im (.v (.bool b)))) => some (none, bool (!b))
    | _ => none
  | .unOp .neg _ x => match s.ev g x with
    | some (.c (.im (.v (.int .i64 n)))) => some (none, int (IntKind.i64.wrap (0 - n)))
    | _ => none
  | .nilCheck x => match s.ev g x with
    | some (.c (.rt r i j)) => some (none, .c (.rt r i j))
    | some (.c (.im (.pt sz get))) => some (none, .c (.im (.pt sz get)))
    | some (.c (.clo f caps)) => some (none, .c (.clo f caps))
    | some (.c (.im (.fn f n cap))) => some (none, .c (.im (.fn f n cap)))
    | _ => none
  | .fieldAddr t x f => match T.ty t with
    | some { kd := .struct fs, .. } => match nth fs f with
      | some (o, sz) => match Nat.blt 0 sz with
        | true => match s.ev g x with
          | some (.c (.rt r i j)) => some (none, .c (.rt r i (j + o)))
          | some (.c (.im (.pt n get))) => match Nat.ble (o + sz) n with
            | true => some (none, .c (.im (.pt (n - o) fun j => get (o + j))))
            | false => none
          | _ => none
        | false => none
      | none => none
    | _ => none
  | .indexAddr t x ix => match T.ty t with
    | some { kd := .slice e, .. } => match T.ty e with
      | some y => match s.ev g ix with
        | some (.c (.im (.v (.int .i64 i)))) => match s.ev g x with
          | some (.c (.im (.sl sz n get))) => match Nat.beq sz y.size with
            | true => some (some (0 ≤ i ∧ i < (n : Int)), .c (.im (.pt sz (get i.toNat))))
            | false => none
          | some (.c (.sa r m)) => match nth s.rs r with
            | some (.arr e' sz n get) => match Nat.beq sz y.size with
              | true => some (some (0 ≤ i ∧ i < (m : Int)), .c (.rt r i.toNat 0))
              | false => none
            | some (.row e' sz n l) => match Nat.beq sz y.size with
              | true => some (some (0 ≤ i ∧ i < (m : Int)), .c (.rt r i.toNat 0))
              | false => none
            | _ => none
          | _ => none
        | _ => none
      | none => none
    | _ => none
  | .load t x => match T.ty t with
    | some y => match s.ev g x with
      | some (.c (.rt r i j)) => match nth s.rs r with
        | some (.box l) => match i with
          | 0 => match y.kd.agg with
            | true => match takeN y.size (dropN j l) with
              | some cs => some (none, .a cs)
              | none => none
            | false => match nth l j with
              | some c => some (none, .c c)
              | none => none
          | _ => none
        | some (.arr _ sz n get) => match y.kd.agg with
          | true => match Nat.ble (j + y.size) sz with
            | true => some (some (i < n), .a (cellsFrom (get i) j y.size))
            | false => none
          | false => match Nat.blt j sz with
            | true => some (some (i < n), .c (.im (get i j)))
            | false => none
        | some (.row _ sz n l) => match y.kd.agg with
          | true => match takeN y.size (dropN (i * sz + j) l) with
            | some cs => some (none, .a cs)
            | none => none
          | false => match nth l (i * sz + j) with
            | some c => some (none, .c c)
            | none => none
        | _ => none
      | some (.c (.im (.pt n get))) => match y.kd.agg with
        | true => match Nat.ble y.size n with
          | true => some (none, .a (cellsFrom get 0 y.size))
          | false => none
        | false => match Nat.blt 0 n with
          | true => some (none, .c (.im (get 0)))
          | false => none
      | some (.c (.im (.gp q))) => match T.gl q with
        | some z => match y.kd.agg with
          | true => none
          | false => some (none, .c (.im z))
        | none => none
      | _ => none
    | none => none
  | .extract x k => match s.ev g x with
    | some (.t l) => match nth l k with
      | some (true, cs) => some (none, .a cs)
      | some (false, [c]) => some (none, .c c)
      | _ => none
    | _ => none
  | .build t parts => match T.ty t with
    | some y => match y.kd with
      | .struct fs => match zeroC y with
        | some z => match fillD fs s g parts.toList z with
          | some l => some (none, .a l)
          | none => none
        | none => none
      | _ => none
    | none => none
  | .makeFunc fn first caps => match fn, first.toList, evs s g caps.toList with
    | .func f, [], some [] => some (none, .c (.clo f []))
    | .func f, [], some [.c (.rt r 0 0)] => some (none, .c (.clo f [r]))
    | .func f, [], some [.c (.rt r 0 0), .c (.rt r' 0 0)] => some (none, .c (.clo f [r, r']))
    | .func f, [], some [.c (.rt r 0 0), .c (.rt r' 0 0), .c (.rt r'' 0 0)] => some (none, .c (.clo f [r, r', r'']))
    | _, _, _ => none
  | .call c => match c.callee with
    | .builtin b => builtinD T b c.argTypes.toList (evs s g c.args.toList)
    | _ => none
  | .lookup t x i false => match T.ty t with
    | some { kd := .map k e, .. } => match T.ty k, T.ty e with
      | some { kd := .int, .. }, some { zero := .bool false, .. } => match s.ev g x, s.ev g i with
        | some (.c (.mp r)), some (.c (.im (.v (.int .i64 n)))) => match nth s.rs r with
          | some (.set l) => some (none, bool (elemI n l))
          | _ => none
        | some (.c (.im (.st l))), some (.c (.im (.v (.int .i64 n)))) => some (none, bool (elemI n l))
        | _, _ => none
      | _, _ => none
    | _ => none
  | .slice t x none (some hi) none => match T.ty t with
    | some { kd := .slice e, .. } => match T.ty e with
      | some _ => match s.ev g x, s.ev g hi with
        | some (.c (.im (.sl sz n get))), some (.c (.im (.v (.int .i64 h)))) => some (some (0 ≤ h ∧ h ≤ (n : Int)), .c (.im (.sl sz h.toNat get)))
        | some (.c (.sa r m)), some (.c (.im (.v (.int .i64 h)))) => match nth s.rs r with
          | some (.arr _ _ _ _) => some (some (0 ≤ h ∧ h ≤ (m : Int)), .c (.sa r h.toNat))
          | some (.row _ _ _ _) => some (some (0 ≤ h ∧ h ≤ (m : Int)), .c (.sa r h.toNat))
          | _ => none
        | some (.c (.im (.v (.slice none 0 0)))), some (.c (.im (.v (.int .i64 h)))) => some (some (h = 0), .c (.im (.v (.slice none 0 0))))
        | _, _ => none
      | none => none
    | _ => none
  | _ => none

end
end Go.V
