/- A run of code on given values: what the machine comes to, reckoned by the kernel: small functions, so that each step is cheap. -/
import Derived.Test.YtkbgcnppkmkkiaaDoorVm5
set_option linter.unusedVariables false
namespace Go.V
noncomputable section

def lookF (l : Slots) (t : Tmp) : Option D := List.rec none (fun x _ ih => Bool.rec ih (some x.2.1) (Nat.beq x.1 t)) l
def nthF {α : Type} (l : List α) : Nat → Option α := List.rec (fun _ => none) (fun x _ ih n => Nat.rec (some x) (fun m _ => ih m) n) l
def findF {α : Type} (t : Nat) (l : List (Nat × α)) : Option α := List.rec none (fun x _ ih => Bool.rec ih (some x.2) (Nat.beq x.1 t)) l

def evF (sl : Slots) (x : Operand) : Option D := match x with
  | .tmp t => lookF sl t
  | .const v => constD v
  | .func f => some (.c (.im (.fn f 0 fun _ => .v (.bool false))))
  | .global g => some (.c (.im (.gp g)))
def evsF (sl : Slots) (l : List Operand) : Option (List D) := List.rec (some []) (fun x _ ih => match evF sl x with
  | some d => match ih with
    | some r => some (d :: r)
    | none => none
  | none => none) l

def ivalF (x : I) : Option Value := match x with
  | .v x => some x
  | _ => none
def cvalF (x : C) : Option Value := match x with
  | .im x => ivalF x
  | _ => none
def valF (d : Option D) : Option Value := match d with
  | some (.c x) => cvalF x
  | _ => none
def vint (v : Value) : Option Int := match v with
  | .int .i64 n => some n
  | _ => none
def vbool (v : Value) : Option Bool := match v with
  | .bool b => some b
  | _ => none
def intF (d : Option D) : Option Int := match valF d with
  | some v => vint v
  | none => none
def boolF (d : Option D) : Option Bool := match valF d with
  | some v => vbool v
  | none => none
def cellF (d : Option D) : Option C := match d with
  | some (.c x) => some x
  | _ => none

def geB (b : Int) : Bool := match b with
  | .ofNat _ => true
  | .negSucc _ => false
def binI (op : BinOp) (a b : Int) : Option Value := match op with
  | .add => some (.int .i64 (IntKind.i64.wrap (a + b)))
  | .sub => some (.int .i64 (IntKind.i64.wrap (a - b)))
  | .mul => some (.int .i64 (IntKind.i64.wrap (a * b)))
  | .eql => some (.bool (a == b))
  | .neq => some (.bool (a != b))
  | .lss => some (.bool (decide (a < b)))
  | .leq => some (.bool (decide (a ≤ b)))
  | .gtr => some (.bool (decide (a > b)))
  | .geq => some (.bool (decide (a ≥ b)))
  | .quo => Bool.rec (some (.int .i64 (IntKind.i64.wrap (a.tdiv b)))) none (b == 0)
  | .rem => Bool.rec (some (.int .i64 (a.tmod b))) none (b == 0)
  | .and => some (.int .i64 (IntKind.i64.wrap (BitVec.ofInt 64 a &&& BitVec.ofInt 64 b).toNat))
  | .andNot => some (.int .i64 (IntKind.i64.wrap (BitVec.ofInt 64 a &&& ~~~(BitVec.ofInt 64 b)).toNat))
  | .shl => Bool.rec none (some (.int .i64 (IntKind.i64.wrap (a * 2 ^ (min b.toNat 64))))) (geB b)
  | .shr => Bool.rec none (some (.int .i64 (a.fdiv (2 ^ (min b.toNat 64))))) (geB b)
  | _ => none
def binB (T : Tab) (t : Nat) (op : BinOp) (a b : Bool) : Option Value := match T.ty t with
  | some { kd := .bool, .. } => match op with
    | .eql => some (.bool (a == b))
    | .neq => some (.bool (!(a == b)))
    | _ => none
  | _ => none
def binVal (T : Tab) (t : Nat) (op : BinOp) (u v : Value) : Option Value := match vint u, vint v with
  | some a, some b => binI op a b
  | _, _ => match vbool u, vbool v with
    | some a, some b => binB T t op a b
    | _, _ => binV op u v
def eqF (T : Tab) (t : Nat) (op : BinOp) (l m : List C) : Option D := match T.eqs t with
  | some ks => match eqK ks l m with
    | some b => match op with
      | .eql => some (bool b)
      | .neq => some (bool (!b))
      | _ => none
    | none => none
  | none => none
def aggF (d : Option D) : Option (List C) := match d with
  | some (.a l) => some l
  | _ => none
/-- A slice's cell beside nil. -/
def nilI (x : I) : Option Bool := match x with
  | .v (.slice none 0 0) => some true
  | .sl _ (_ + 1) _ => some false
  | _ => none
def nilF (rs : List Root) (x : C) : Option Bool := match x with
  | .im x => nilI x
  | .sa r (_ + 1) => match nthF rs r with
    | some (.row _ _ _ _) => some false
    | _ => none
  | _ => none
def isNil (y : Operand) : Bool := match y with
  | .const (.slice none 0 0) => true
  | _ => false
def nilcF (T : Tab) (s : VS) (op : BinOp) (t : Nat) (x : Operand) : Option D := match T.ty t with
  | some { kd := .slice _, .. } => match cellF (evF s.sl x) with
    | some c => match nilF s.rs c with
      | some b => match op with
        | .eql => some (bool b)
        | .neq => some (bool (!b))
        | _ => none
      | none => none
    | none => none
  | _ => none
def binF (T : Tab) (s : VS) (op : BinOp) (t : Nat) (x y : Operand) : Option D := match isNil y with
  | true => nilcF T s op t x
  | false => match valF (evF s.sl x), valF (evF s.sl y) with
    | some u, some v => match binVal T t op u v with
      | some z => some (.v z)
      | none => none
    | _, _ => match aggF (evF s.sl x), aggF (evF s.sl y) with
      | some l, some m => eqF T t op l m
      | _, _ => none
def unF (s : VS) (op : UnOp) (x : Operand) : Option D := match op with
  | .not => match boolF (evF s.sl x) with
    | some b => some (bool (!b))
    | none => none
  | .neg => match intF (evF s.sl x) with
    | some n => some (int (IntKind.i64.wrap (0 - n)))
    | none => none
  | _ => none
def pickF (s : VS) (c x y : Operand) : Option D := match boolF (evF s.sl c) with
  | some b => match boolF (Bool.rec (evF s.sl y) (evF s.sl x) b) with
    | some z => some (bool z)
    | none => none
  | none => none
def nilchkF (s : VS) (x : Operand) : Option D := match cellF (evF s.sl x) with
  | some c => match c with
    | .rt _ _ _ => some (.c c)
    | .clo _ _ => some (.c c)
    | .im (.pt _ _) => some (.c c)
    | .im (.fn _ _ _) => some (.c c)
    | _ => none
  | none => none
def faddrC (o sz : Nat) (c : C) : Option D := match c with
  | .rt r i j => some (.c (.rt r i (j + o)))
  | .im (.pt n get) => Bool.rec none (some (.c (.im (.pt (n - o) fun j => get (o + j))))) (Nat.ble (o + sz) n)
  | _ => none
def faddrF (T : Tab) (s : VS) (t : Nat) (x : Operand) (f : Nat) : Option D := match T.ty t with
  | some { kd := .struct fs, .. } => match nthF fs f with
    | some o => match cellF (evF s.sl x) with
      | some c => Bool.rec none (faddrC o.1 o.2 c) (Nat.blt 0 o.2)
      | none => none
    | none => none
  | _ => none
def inB (i : Int) (n : Nat) : Bool := match i with
  | .ofNat k => Nat.blt k n
  | .negSucc _ => false
def iaddrC (rs : List Root) (size : Nat) (i : Int) (c : C) : Option D := match c with
  | .im (.sl sz n get) => Bool.rec none (Bool.rec none (some (.c (.im (.pt sz (get i.toNat))))) (inB i n)) (Nat.beq sz size)
  | .sa r m => match nthF rs r with
    | some (.row _ sz _ _) => Bool.rec none (Bool.rec none (some (.c (.rt r i.toNat 0))) (inB i m)) (Nat.beq sz size)
    | _ => none
  | _ => none
def elemF (T : Tab) (t : Nat) : Option Ty := match T.ty t with
  | some { kd := .slice e, .. } => T.ty e
  | _ => none
/-- an element of an array in a root -/
def arrF (T : Tab) (t : Nat) : Option (Nat × Ty) := match T.ty t with
  | some { kd := .array n e, .. } => match T.ty e with
    | some y => some (n, y)
    | none => none
  | _ => none
def iaddrA (n size : Nat) (i : Int) (c : C) : Option D := match c with
  | .rt r k j => Bool.rec none (some (.c (.rt r k (j + i.toNat * size)))) (inB i n)
  | _ => none
def iaddrF (T : Tab) (s : VS) (t : Nat) (x ix : Operand) : Option D := match arrF T t with
  | some a => match intF (evF s.sl ix) with
    | some i => match cellF (evF s.sl x) with
      | some c => iaddrA a.1 a.2.size i c
      | none => none
    | none => none
  | none => match elemF T t with
  | some y => match intF (evF s.sl ix) with
    | some i => match cellF (evF s.sl x) with
      | some c => iaddrC s.rs y.size i c
      | none => none
    | none => none
  | none => none
def loadBox (y : Ty) (l : List C) (j : Nat) : Option D := match y.kd.agg with
  | true => match takeN y.size (dropN j l) with
    | some cs => some (.a cs)
    | none => none
  | false => match nthF l j with
    | some c => some (.c c)
    | none => none
def loadPt (y : Ty) (n : Nat) (get : Nat → I) : Option D := match y.kd.agg with
  | true => Bool.rec none (some (.a (cellsFrom get 0 y.size))) (Nat.ble y.size n)
  | false => Bool.rec none (some (.c (.im (get 0)))) (Nat.blt 0 n)
def loadR (y : Ty) (x : Option Root) (i j : Nat) : Option D := match x with
  | some (.box l) => match i with
    | 0 => loadBox y l j
    | _ + 1 => none
  | some (.row _ sz _ l) => loadBox y l (i * sz + j)
  | _ => none
def loadG (T : Tab) (y : Ty) (q : Nat) : Option D := match T.gl q with
  | some z => match y.kd.agg with
    | true => none
    | false => some (.c (.im z))
  | none => none
def loadC (T : Tab) (rs : List Root) (y : Ty) (c : C) : Option D := match c with
  | .rt r i j => loadR y (nthF rs r) i j
  | .im (.gp q) => loadG T y q
  | .im (.pt n get) => loadPt y n get
  | _ => none
def loadF (T : Tab) (s : VS) (t : Nat) (x : Operand) : Option D := match T.ty t with
  | some y => match cellF (evF s.sl x) with
    | some c => loadC T s.rs y c
    | none => none
  | none => none
def tupF (d : Option D) : Option (List (Bool × List C)) := match d with
  | some (.t l) => some l
  | _ => none
def extractF (s : VS) (x : Operand) (k : Nat) : Option D := match tupF (evF s.sl x) with
  | some l => match nthF l k with
    | some (true, cs) => some (.a cs)
    | some (false, [c]) => some (.c c)
    | _ => none
  | none => none
def fillF (flds : List (Nat × Nat)) (sl : Slots) (parts : List (Nat × Operand)) : List C → Option (List C) := List.rec (fun l => some l) (fun p _ ih l =>
  match nthF flds p.1 with
  | some o => match evF sl p.2 with
    | some d => match d.cells with
      | some cs => Bool.rec none (match put l o.1 cs with
        | some l' => ih l'
        | none => none) (Nat.beq cs.length o.2 && Nat.blt 0 o.2)
      | none => none
    | none => none
  | none => none) parts
def buildF (T : Tab) (s : VS) (t : Nat) (parts : List (Nat × Operand)) : Option D := match T.ty t with
  | some y => match y.kd with
    | .struct fs => match zeroC y with
      | some z => match fillF fs s.sl parts z with
        | some l => some (.a l)
        | none => none
      | none => none
    | _ => none
  | none => none
def mkfnF (s : VS) (fn : Fn) (first : List Operand) (caps : List Operand) : Option D := match fn with
  | .func f => match first with
    | [] => match evsF s.sl caps with
      | some [] => some (.c (.clo f []))
      | some [.c (.rt r 0 0)] => some (.c (.clo f [r]))
      | some [.c (.rt r 0 0), .c (.rt r' 0 0)] => some (.c (.clo f [r, r']))
      | some [.c (.rt r 0 0), .c (.rt r' 0 0), .c (.rt r'' 0 0)] => some (.c (.clo f [r, r', r'']))
      | _ => none
    | _ => none
  | _ => none
def lenC (c : C) : Option D := match c with
  | .im (.sl _ n _) => some (int n)
  | .sa _ m => some (int m)
  | .im (.v (.slice _ n _)) => some (int n)
  | _ => none
def lenF (T : Tab) (s : VS) (ts : List TypeId) (xs : List Operand) : Option D := match ts, xs with
  | [t], [x] => match T.ty t with
    | some { kd := .slice _, .. } => match cellF (evF s.sl x) with
      | some c => lenC c
      | none => none
    | some { kd := .str, .. } => match valF (evF s.sl x) with
      | some (.string b) => some (int b.size)
      | _ => none
    | _ => none
  | _, _ => none
def maxF (s : VS) (xs : List Operand) : Option D := match xs with
  | [x, y] => match intF (evF s.sl x), intF (evF s.sl y) with
    | some a, some b => some (int (if b > a then b else a))
    | _, _ => none
  | _ => none
def minF (s : VS) (xs : List Operand) : Option D := match xs with
  | [x, y] => match intF (evF s.sl x), intF (evF s.sl y) with
    | some a, some b => some (int (if b < a then b else a))
    | _, _ => none
  | _ => none
def builtF (T : Tab) (s : VS) (b : Builtin) (ts : List TypeId) (xs : List Operand) : Option D := match b with
  | .len => lenF T s ts xs
  | .max => maxF s xs
  | .min => minF s xs
  | _ => none
def calF (T : Tab) (s : VS) (c : Call) : Option D := match c.callee with
  | .builtin b => builtF T s b c.argTypes.toList c.args.toList
  | _ => none
def mapK (T : Tab) (t : Nat) : Bool := match T.ty t with
  | some { kd := .map k e, .. } => match T.ty k, T.ty e with
    | some { kd := .int, .. }, some { zero := .bool false, .. } => true
    | _, _ => false
  | _ => false
def setF (rs : List Root) (c : C) : Option (List Int) := match c with
  | .mp r => match nthF rs r with
    | some (.set l) => some l
    | _ => none
  | .im (.st l) => some l
  | _ => none
/-- a map from numbers to functions -/
def fmK (T : Tab) (t : Nat) : Bool := match T.ty t with
  | some { kd := .map k e, .. } => match T.ty k, T.ty e with
    | some { kd := .int, .. }, some { zero := .nilFunc, .. } => true
    | _, _ => false
  | _ => false
def findG (n : Int) (l : List (Int × FuncId)) : Option FuncId := List.rec none (fun x _ ih => Bool.rec ih (some x.2) (n == x.1)) l
def fmC (x : Option FuncId) : C := match x with
  | some f => .im (.fn f 0 fun _ => .v (.bool false))
  | none => .im (.v .nilFunc)
def fmB (x : Option FuncId) : Bool := match x with
  | some _ => true
  | none => false
def fmD (ok : Bool) (x : Option FuncId) : D := match ok with
  | true => .t [(false, [fmC x]), (false, [.im (.v (.bool (fmB x)))])]
  | false => .c (fmC x)
def fmF (T : Tab) (s : VS) (t : Nat) (x i : Operand) (ok : Bool) : Option D := Bool.rec none (match cellF (evF s.sl x), intF (evF s.sl i) with
  | some (.im (.fm l)), some n => some (fmD ok (findG n l))
  | _, _ => none) (fmK T t)
def lookupF (T : Tab) (s : VS) (t : Nat) (x i : Operand) (ok : Bool) : Option D := match ok with
  | true => fmF T s t x i true
  | false => Bool.rec (fmF T s t x i false) (match cellF (evF s.sl x), intF (evF s.sl i) with
    | some c, some n => match setF s.rs c with
      | some l => some (bool (elemI n l))
      | none => none
    | _, _ => none) (mapK T t)
def leB (i : Int) (n : Nat) : Bool := match i with
  | .ofNat k => Nat.ble k n
  | .negSucc _ => false
def sliceC (rs : List Root) (c : C) (h : Int) : Option D := match c with
  | .im (.sl sz n get) => Bool.rec none (some (.c (.im (.sl sz h.toNat get)))) (leB h n)
  | .sa r m => match nthF rs r with
    | some (.row _ _ _ _) => Bool.rec none (some (.c (.sa r h.toNat))) (leB h m)
    | _ => none
  | .im (.v (.slice none 0 0)) => Bool.rec none (some (.c c)) (h == 0)
  | _ => none
/-- from a place on -/
def sliceL (sz : Nat) (c : C) (h : Int) : Option D := match c with
  | .im (.sl sz' n get) => Bool.rec none (some (.c (.im (.sl sz' (n - h.toNat) fun i j => get (h.toNat + i) j)))) (leB h n && Nat.beq sz' sz)
  | _ => none
def sliceF (T : Tab) (s : VS) (t : Nat) (x : Operand) (lo hi mx : Option Operand) : Option D := match lo, hi, mx with
  | none, some h, none => match elemF T t with
    | some _ => match cellF (evF s.sl x), intF (evF s.sl h) with
      | some c, some n => sliceC s.rs c n
      | _, _ => none
    | none => none
  | some l, none, none => match elemF T t with
    | some y => match cellF (evF s.sl x), intF (evF s.sl l) with
      | some c, some n => sliceL y.size c n
      | _, _ => none
    | none => none
  | _, _, _ => none

/-- An operation that only computes. -/
def lookO (T : Tab) (s : VS) (op : Op) : Option D := match op with
  | .move x => evF s.sl x
  | .assign x => evF s.sl x
  | .pick c x y => pickF s c x y
  | .binOp o t x y _ => binF T s o t x y
  | .unOp o _ x => unF s o x
  | .nilCheck x => nilchkF s x
  | .fieldAddr t x f => faddrF T s t x f
  | .indexAddr t x i => iaddrF T s t x i
  | .load t x => loadF T s t x
  | .extract x k => extractF s x k
  | .build t ps => buildF T s t ps.toList
  | .makeFunc fn first caps => mkfnF s fn first.toList caps.toList
  | .call c => calF T s c
  | .lookup t x i ok => lookupF T s t x i ok
  | .slice t x lo hi mx => sliceF T s t x lo hi mx
  | _ => none

/-- What a prover knows of the functions. keep: the slots to be kept behind a region; mode: how a call is met: 0: as one that only looks; 1: with the roots at hand; 2: as one that hands back a row of its own; 3: as 0 where nothing that is handed over is a root's, else as 1. -/
structure Hint where
  keep : FuncId → Nat → Option (List Tmp)
  mode : FuncId → Nat

/-- Calls that lie deeper. -/
structure Lo where
  call : FuncId → List D → List Root → Option (D × List Root)
  yld : Nat → List D → List Root → Option (D × List Root)

def putF (N : Nat) (s : VS) (dst : Option Tmp) (d : D) : Option VS := match dst with
  | none => some s
  | some t => Bool.rec none (some { s with sl := (t, d, []) :: s.sl }) (Nat.blt t N)

/-- Slices of root r are slices of cells that stay. -/
def subC (r : Nat) (sz : Nat) (get : Nat → Nat → I) (x : C) : C := match x with
  | .sa q m => Bool.rec x (.im (.sl sz m get)) (Nat.beq q r)
  | _ => x
def subD (r : Nat) (sz : Nat) (get : Nat → Nat → I) (d : D) : D := match d with
  | .c x => .c (subC r sz get x)
  | .a l => .a (l.map (subC r sz get))
  | .t l => .t (l.map fun x => (x.1, x.2.map (subC r sz get)))
def subR (r : Nat) (sz : Nat) (get : Nat → Nat → I) (x : Root) : Root := match x with
  | .box l => .box (l.map (subC r sz get))
  | .row e k n l => .row e k n (l.map (subC r sz get))
  | _ => x
def freezeL (r sz : Nat) (s : VS) (l : Option (List I)) : Option VS := match l with
  | some is => some { s with sl := s.sl.map (fun x => (x.1, subD r sz (flat sz is) x.2.1, x.2.2)), rs := setAt (s.rs.map (subR r sz (flat sz is))) r .dead }
  | none => none
def freeze (r : Nat) (s : VS) : Option VS := match nthF s.rs r with
  | some (.row _ sz _ l) => freezeL r sz s (imm l)
  | some .dead => some s
  | _ => none
def freezes (l : List Nat) (s : VS) : Option VS := List.rec (fun s => some s) (fun r _ ih s => match freeze r s with
  | some s' => ih s'
  | none => none) l s
/-- The rows that cells are slices of, the inner ones first; nothing else refers to a root. -/
def sasC (rec : List C → Option (List Nat)) (rs : List Root) (x : C) : Option (List Nat) := match x with
  | .im _ => some []
  | .sa r _ => match nthF rs r with
    | some (.row _ _ _ l) => match rec l with
      | some m => some (m ++ [r])
      | none => none
    | _ => none
  | _ => none
def sasL1 (rec : List C → Option (List Nat)) (rs : List Root) (l : List C) : Option (List Nat) := List.rec (some []) (fun x _ ih => match sasC rec rs x with
  | some a => match ih with
    | some b => some (a ++ b)
    | none => none
  | none => none) l
def sasL (rs : List Root) (k : Nat) : List C → Option (List Nat) := Nat.rec (fun _ => none) (fun _ ih => sasL1 ih rs) k
def sasD (rs : List Root) (d : D) : Option (List Nat) := match d with
  | .c x => sasL rs 6 [x]
  | .a l => sasL rs 6 l
  | .t _ => none
def sasDs (rs : List Root) (l : List D) : Option (List Nat) := List.rec (some []) (fun d _ ih => match sasD rs d, ih with
  | some a, some b => some (a ++ b)
  | _, _ => none) l

/-- What an operation does: the value for its slot, the roots that it writes. b: the root that it may make; a call with the roots at hand: all roots. -/
inductive Eff where
  | val (d : D)
  | wr (d : Option D) (ws : List (Nat × Root))
  | all (d : D) (rs : List Root)
  | cold (l : List Nat)   -- these slices are to be frozen first

def boxF (b : Nat) (s : VS) (x : Operand) : Option Eff := match evF s.sl x with
  | some d => match d.cells with
    | some l => some (.wr (some (.c (.rt b 0 0))) [(b, .box l)])
    | none => none
  | none => none
def allocF (T : Tab) (b : Nat) (t : Nat) : Option Eff := match T.ty t with
  | some y => match zeroC y with
    | some l => some (.wr (some (.c (.rt b 0 0))) [(b, .box l)])
    | none => none
  | none => none
def storeR (rs : List Root) (size r i j : Nat) (cs : List C) : Option Eff := match nthF rs r with
  | some (.box l) => match i with
    | 0 => match put l j cs with
      | some l' => some (.wr none [(r, .box l')])
      | none => none
    | _ + 1 => none
  | some (.row el sz n l) => match put l (i * sz + j) cs with
    | some l' => some (.wr none [(r, .row el sz n l')])
    | none => none
  | _ => none
def storeF (T : Tab) (s : VS) (dst : Option Tmp) (t : Nat) (x v : Operand) : Option Eff := match dst with
  | some _ => none
  | none => match T.ty t, evF s.sl v with
    | some y, some d => match d.cells with
      | some cs => Bool.rec none (match cellF (evF s.sl x) with
        | some (.rt r i j) => storeR s.rs y.size r i j cs
        | _ => none) (Nat.beq cs.length y.size && Nat.blt 0 y.size)
      | none => none
    | _, _ => none
def fillAF (sz : Nat) (sl : Slots) (parts : List (Nat × Operand)) : List C → Option (List C) := List.rec (fun l => some l) (fun p _ ih l =>
  match evF sl p.2 with
  | some d => match d.cells with
    | some cs => Bool.rec none (match put l (p.1 * sz) cs with
      | some l' => ih l'
      | none => none) (Nat.beq cs.length sz && Nat.blt 0 sz)
    | none => none
  | none => none) parts
def bsF (T : Tab) (b : Nat) (s : VS) (t n : Nat) (parts : List (Nat × Operand)) : Option Eff := match T.ty t with
  | some { kd := .slice el, .. } => match T.ty el with
    | some y => match zeroC y with
      | some z => match fillAF y.size s.sl parts (rep z n) with
        | some l => Bool.rec none (some (.wr (some (.c (.sa b n))) [(b, .row el y.size n l)])) (Nat.blt 0 y.size && Nat.ble (n * y.size) 1000000)
        | none => none
      | none => none
    | none => none
  | _ => none
def roomB (n bytes : Nat) : Bool := Nat.ble n maxLen && Nat.ble (n * bytes) 140737488355328
def apd (el sz k : Nat) (l' : List C) (bytes b : Nat) (rs : List Root) (c : C) : Option Eff := match c with
  | .im (.v (.slice none 0 0)) => match k with
    | 0 => some (.val (.c c))
    | _ + 1 => Bool.rec none (some (.wr (some (.c (.sa b k))) [(b, .row el sz k l')])) (roomB k bytes)
  | .sa r m => match nthF rs r with
    | some (.row el' sz' n l) => Bool.rec none (Bool.rec none (some (.wr (some (.c (.sa b (n + k)))) [(r, .dead), (b, .row el sz (n + k) (l ++ l'))]))
        (Nat.beq m n && roomB (n + k) bytes)) (Nat.beq el el' && Nat.beq sz sz')
    | _ => none
  | _ => none
/-- The cells of a slice, in order. -/
def tabF (get : Nat → Nat → I) (sz : Nat) (i : Nat) (n : Nat) : List C := Nat.rec (fun _ => []) (fun _ ih i => cellsFrom (get i) 0 sz ++ ih (i + 1)) n i
def srcF (rs : List Root) (c : C) : Option (Nat × Nat × List C) := match c with
  | .im (.sl sz k get) => some (sz, k, tabF get sz 0 k)
  | .im (.v (.slice none 0 0)) => some (0, 0, [])
  | .sa q k => match nthF rs q with
    | some (.row _ sz n l) => Bool.rec none (match takeN (k * sz) l with
      | some l' => some (sz, k, l')
      | none => none) (Nat.ble k n)
    | _ => none
  | _ => none
def apdF (T : Tab) (el : Nat) (b : Nat) (rs : List Root) (x src : Option C) : Option Eff := match T.ty el with
  | some ty => match src with
    | some src => match srcF rs src with
      | some (sz, k, l') => match x with
        | some c => match k with
          | 0 => Bool.rec none (apd el ty.size 0 [] ty.bytes b rs c) (Nat.blt 0 ty.size)
          | _ + 1 => Bool.rec none (apd el sz k l' ty.bytes b rs c) (Nat.beq sz ty.size && Nat.blt 0 sz)
        | none => none
      | none => none
    | none => none
  | none => none
def appF (T : Tab) (b : Nat) (s : VS) (ts : List TypeId) (xs : List Operand) : Option Eff := match ts, xs with
  | [t, t'], [x, y] => Bool.rec none (match T.ty t with
    | some { kd := .slice el, .. } => apdF T el b s.rs (cellF (evF s.sl x)) (cellF (evF s.sl y))
    | _ => none) (Nat.beq t t')
  | _, _ => none

/-- A call that only looks. -/
def purF (lo : Lo) (rs : List Root) (f : FuncId) (ds : List D) : Option D := match reifyDs rs ds with
  | some is => match lo.call f is [] with
    | some (d, rs') => reifyD rs' d
    | none => none
  | none => none
/-- A call that hands back a row of its own, of plain cells. -/
def ownF (lo : Lo) (rs : List Root) (f : FuncId) (ds : List D) (b : Nat) : Option Eff := match reifyDs rs ds with
  | some is => match lo.call f is [] with
    | some (.c (.sa q m), rs') => match nthF rs' q with
      | some (.row el sz n l) => Bool.rec none (some (.wr (some (.c (.sa b n))) [(b, .row el sz n l)])) (Nat.beq m n && pureC l)
      | _ => none
    | some (d, rs') => match reifyD rs' d with
      | some d' => Bool.rec none (some (.val d')) (plainD d')
      | none => none
    | none => none
  | none => none
/-- The cells that a call hands back may be the caller's: those are frozen first. -/
def coldF (rs : List Root) (ds : List D) (e : Eff) : Option Eff := match sasDs rs ds with
  | some (r :: l) => some (.cold (r :: l))
  | some [] => some e
  | none => none
def effF (lo : Lo) (rs : List Root) (f : FuncId) (ds : List D) : Option Eff := match lo.call f ds rs with
  | some (d, rs') => some (.all d rs')
  | none => none
def pcallF (lo : Lo) (rs : List Root) (f : FuncId) (ds : List D) : Option Eff := match purF lo rs f ds with
  | some d => Bool.rec (Bool.rec none (coldF rs ds (.val d)) (pureD d)) (some (.val d)) (plainD d)
  | none => none
def ocallF (lo : Lo) (rs : List Root) (f : FuncId) (ds : List D) (b : Nat) : Option Eff := match ownF lo rs f ds b with
  | some (.val d) => some (.val d)
  | some (.wr d [(q, .row el sz n l)]) => Bool.rec (coldF rs ds (.wr d [(q, .row el sz n l)])) (some (.wr d [(q, .row el sz n l)])) (plainC l)
  | _ => none
def callF (lo : Lo) (hi : Hint) (rs : List Root) (b : Nat) (f : FuncId) (ds : List D) : Option Eff := match hi.mode f with
  | 0 => pcallF lo rs f ds
  | 1 => effF lo rs f ds
  | 2 => ocallF lo rs f ds b
  | _ => Bool.rec (effF lo rs f ds) (pcallF lo rs f ds) (pureDs ds)
def yldF (lo : Lo) (rs : List Root) (r : Nat) (ds : List D) : Option Eff := match lo.yld r ds rs with
  | some (d, rs') => some (.all d rs')
  | none => none
def calleeC (c : C) : Option (FuncId × List D) := match c with
  | .clo f caps => some (f, caps.map fun r => .c (.rt r 0 0))
  | .im (.fn f n cap) => some (f, (cellsFrom cap 0 n).map .c)
  | _ => none
def valueF (lo : Lo) (hi : Hint) (b : Nat) (s : VS) (f : Operand) (xs : List Operand) : Option Eff := match cellF (evF s.sl f), evsF s.sl xs with
  | some c, some ds => match c with
    | .yl r => yldF lo s.rs r ds
    | _ => match calleeC c with
      | some (g, caps) => callF lo hi s.rs b g (ds ++ caps)
      | none => none
  | _, _ => none
def callO (T : Tab) (lo : Lo) (hi : Hint) (b : Nat) (s : VS) (c : Call) : Option Eff := match c.callee with
  | .builtin .append => appF T b s c.argTypes.toList c.args.toList
  | .value f => valueF lo hi b s f c.args.toList
  | _ => none
def mkmapF (T : Tab) (b t : Nat) (r : Option Operand) : Option Eff := match r, T.ty t with
  | none, some { kd := .map _ _, .. } => some (.wr (some (.c (.mp b))) [(b, .set [])])
  | _, _ => none
def mkslF (T : Tab) (b : Nat) (s : VS) (t : Nat) (l c : Operand) : Option Eff := match T.ty t with
  | some { kd := .slice el, .. } => match T.ty el with
    | some y => match zeroC y with
      | some z => match intF (evF s.sl l), intF (evF s.sl c) with
        | some (.ofNat n), some (.ofNat m) => Bool.rec none (some (.wr (some (.c (.sa b n))) [(b, .row el y.size n (rep z n))])) (Nat.beq n m && (Nat.blt 0 y.size && (Nat.ble n 100000 && Nat.ble (n * y.bytes) 281474976710656)))
        | _, _ => none
      | none => none
    | none => none
  | _ => none
def mapuF (T : Tab) (s : VS) (dst : Option Tmp) (t : Nat) (m k v : Operand) : Option Eff := match dst with
  | some _ => none
  | none => Bool.rec none (match cellF (evF s.sl m), intF (evF s.sl k), boolF (evF s.sl v) with
    | some (.mp r), some n, some true => match nthF s.rs r with
      | some (.set l) => some (.wr none [(r, .set (addI n l))])
      | _ => none
    | _, _, _ => none) (mapK T t)
/-- Any other operation. -/
def workO (T : Tab) (lo : Lo) (hi : Hint) (b : Nat) (s : VS) (dst : Option Tmp) (op : Op) : Option Eff := match op with
  | .box _ x => boxF b s x
  | .alloc t => allocF T b t
  | .store t x v => storeF T s dst t x v
  | .buildSlice t n ps => bsF T b s t n ps.toList
  | .call c => callO T lo hi b s c
  | .makeMap t r => mkmapF T b t r
  | .makeSlice t l c => mkslF T b s t l c
  | .mapUpdate t m k v => mapuF T s dst t m k v
  | _ => none
def effO (T : Tab) (lo : Lo) (hi : Hint) (b : Nat) (s : VS) (dst : Option Tmp) (op : Op) : Option Eff := match lookO T s op with
  | some d => some (.val d)
  | none => workO T lo hi b s dst op

def writes (ws : List (Nat × Root)) (rs : List Root) : List Root := List.rec (fun rs => rs) (fun p _ ih rs => ih (setAt rs p.1 p.2)) ws rs
/-- The roots behind an operation. -/
def place (b : Nat) (x : Root) (rs : List Root) : List Root := Bool.rec (setAt rs b x) (rs ++ [x]) (Nat.beq b rs.length)
def effR (e : Eff) (rs : List Root) : List Root := match e with
  | .wr _ [(q, x)] => place q x rs
  | .wr _ [(q, x), (b, y)] => place b y (setAt rs q x)
  | .all _ rs' => rs'
  | _ => rs
def putOF (N : Nat) (s : VS) (dst : Option Tmp) (d : Option D) : Option VS := match d with
  | some d => putF N s dst d
  | none => some s
def stepF (N : Nat) (s : VS) (dst : Option Tmp) (e : Eff) : Option VS := match e with
  | .val d => putF N s dst d
  | .wr d ws => putOF N { s with rs := effR (.wr d ws) s.rs } dst d
  | .all d rs => putF N { s with rs := rs } dst d
  | .cold _ => none
/-- An operation, in the order of the text; the slices that get into an array are frozen. -/
def coldW (T : Tab) (lo : Lo) (hi : Hint) (N : Nat) (dst : Option Tmp) (op : Op) (s : Option VS) : Option VS := match s with
  | some s => match effO T lo hi s.rs.length s dst op with
    | some e => stepF N s dst e
    | none => none
  | none => none
def workF (T : Tab) (lo : Lo) (hi : Hint) (N : Nat) (s : VS) (dst : Option Tmp) (op : Op) : Option VS := match effO T lo hi s.rs.length s dst op with
  | some (.cold l) => coldW T lo hi N dst op (freezes l s)
  | some e => stepF N s dst e
  | none => none
/-- Whether an operation is wanted: its guard's value is known. -/
def wantC (d : Option D) (want : Bool) : Option Bool := match d with
  | some (.t []) => some false
  | _ => match boolF d with
    | some x => some (beqB x want)
    | none => none
def wantF (ops : List Oper) (sl : Slots) (g : Option (Nat × Bool)) : Option Bool := match g with
  | none => some true
  | some (j, want) => match nthF ops j with
    | some p => match p.dst with
      | some t => wantC (lookF sl t) want
      | none => none
    | none => none
def opF (T : Tab) (lo : Lo) (hi : Hint) (N : Nat) (ops : List Oper) (s : VS) (o : Oper) : Option VS := match wantF ops s.sl o.guard with
  | some true => workF T lo hi N s o.dst o.op
  | some false => putF N s o.dst (.t [])
  | none => none
def opsF (T : Tab) (lo : Lo) (hi : Hint) (N : Nat) (ops l : List Oper) : VS → Option VS := List.rec (fun s => some s) (fun o _ ih s => match opF T lo hi N ops s o with
  | some s' => ih s'
  | none => none) l

end
end Go.V
