/- Statements whose order is open; whole runs; calls. -/
import Derived.Test.YtkbgcnppkmkkiaaDoorVx1
set_option linter.unusedVariables false
namespace Go.V
noncomputable section

/-- Whom each operation waits for, by bits. -/
def depsM (acc : List Nat) (l : List Edge) : Nat → Nat := List.rec (fun m => m) (fun e _ ih m => Bool.rec (ih m) (ih (Nat.lor (Nat.lor (Nat.shiftLeft 1 e.on) m) (match nthF acc e.on with
  | some x => x
  | none => 0))) (Region.binds .any e)) l
def ancsM (l : List Oper) : List Nat → List Nat := List.rec (fun acc => acc) (fun o _ ih acc => ih (acc ++ [depsM acc o.after.toList 0])) l
/-- The place of the operation that writes slot t. -/
def dstAt (t : Tmp) (l : List Oper) : Nat → Option Nat := List.rec (fun _ => none) (fun o _ ih k => match o.dst with
  | some t' => Bool.rec (ih (k + 1)) (some k) (Nat.beq t t')
  | none => ih (k + 1)) l
def readT (ops : List Oper) (m : Nat) (t : Tmp) : Bool := match dstAt t ops 0 with
  | some j => Nat.testBit m j
  | none => true
def readB (ops : List Oper) (m : Nat) (l : List Operand) : Bool := List.rec true (fun x _ ih => match x with
  | .tmp t => Bool.rec false ih (readT ops m t)
  | _ => ih) l
def guardB (m : Nat) (g : Option (Nat × Bool)) : Bool := match g with
  | some (j, _) => Nat.testBit m j
  | none => true
def orderB (ops l : List Oper) : List Nat → Bool := List.rec (fun _ => true) (fun o _ ih ms => match ms with
  | m :: ms => Bool.rec false (ih ms) (guardB m o.guard && readB ops m o.op.operands.toList)
  | [] => false) l
def newDst (t : Tmp) (l : List Oper) : Bool := match dstAt t l 0 with
  | some _ => false
  | none => true
def distB (l : List Oper) : Bool := List.rec true (fun o l ih => match o.dst with
  | some t => Bool.rec false ih (newDst t l)
  | none => ih) l
/-- Operations wait for earlier ones alone. -/
def belowB (l : List Nat) : Nat → Bool := List.rec (fun _ => true) (fun m _ ih i => Bool.rec false (ih (i + 1)) (Nat.blt m (Nat.shiftLeft 1 i))) l
def staticB (ops : List Oper) : Bool := distB ops && (orderB ops ops (ancsM ops []) && belowB (ancsM ops []) 0)

def makesC (c : Callee) : Nat := match c with
  | .builtin .append => 1
  | .value _ => 1
  | _ => 0
def makesN (op : Op) : Nat := match op with
  | .box _ _ => 1
  | .alloc _ => 1
  | .buildSlice _ _ _ => 1
  | .makeMap _ _ => 1
  | .makeSlice _ _ _ => 1
  | .call c => makesC c.callee
  | _ => 0
def holesN (l : List Oper) : Nat := List.rec 0 (fun o _ ih => makesN o.op + ih) l

/-- One operation among others whose order is open: its effect on the slots and the roots. -/
structure Upd where
  dst : Option Tmp
  val : Option D
  ws : List (Nat × Root)
  al : Option (List Root)
  ex : Bool := false   -- reckoned with all roots at hand, none hidden
def putU (s : VS) (dst : Option Tmp) (d : Option D) : VS := match dst with
  | some t => match d with
    | some d => { s with sl := (t, d, []) :: s.sl }
    | none => s
  | none => s
def allR (al : Option (List Root)) (rs : List Root) : List Root := match al with
  | some rs' => rs'
  | none => rs
def Upd.on (u : Upd) (s : VS) : VS := putU { s with rs := writes u.ws (allR u.al s.rs) } u.dst u.val
def okT (N : Nat) (dst : Option Tmp) (d : Option D) : Bool := match dst with
  | some t => match d with
    | some _ => Nat.blt t N
    | none => false
  | none => true
inductive Fst where
  | cold (l : List Nat)
  | ok (u : Upd)
/-- Does every other operation wait for number i, or is waited for by it? -/
def compB (i m : Nat) (ancs : List Nat) : Nat → Bool := List.rec (fun _ => true) (fun x _ ih k => Bool.rec false (ih (k + 1)) (Nat.beq k i || (Nat.testBit m k || Nat.testBit x i))) ancs
def barB (ancs : List Nat) (i : Nat) : Bool := match nthF ancs i with
  | some m => compB i m ancs 0
  | none => false
/-- Are two roots the same, to be seen at once? -/
def eqV (x y : Value) : Bool := match x, y with
  | .int .i64 a, .int .i64 b => a == b
  | .bool a, .bool b => beqB a b
  | _, _ => false
def eqC1 (x y : C) : Bool := match x, y with
  | .im (.v a), .im (.v b) => eqV a b
  | .rt r i j, .rt r' i' j' => Nat.beq r r' && (Nat.beq i i' && Nat.beq j j')
  | .sa r m, .sa r' m' => Nat.beq r r' && Nat.beq m m'
  | .mp r, .mp r' => Nat.beq r r'
  | _, _ => false
def eqCs (l : List C) : List C → Bool := List.rec (fun m => match m with
  | [] => true
  | _ => false) (fun x _ ih m => match m with
  | y :: m => Bool.rec false (ih m) (eqC1 x y)
  | [] => false) l
def eqR1 (x y : Root) : Bool := match x, y with
  | .dead, .dead => true
  | .box l, .box m => eqCs l m
  | _, _ => false
/-- It refers to no root from n on. -/
def allLt (n : Nat) (l : List Nat) : Bool := List.rec true (fun r _ ih => Bool.rec false ih (Nat.blt r n)) l
def lowC (n : Nat) (x : C) : Bool := match x with
  | .im _ => true
  | .rt r _ _ => Nat.blt r n
  | .sa r _ => Nat.blt r n
  | .mp r => Nat.blt r n
  | .yl r => Nat.blt r n
  | .clo _ l => allLt n l
def lowCs (n : Nat) (l : List C) : Bool := List.rec true (fun x _ ih => Bool.rec false ih (lowC n x)) l
def lowR (n : Nat) (x : Root) : Bool := match x with
  | .dead => true
  | .box l => lowCs n l
  | .row _ _ _ l => lowCs n l
  | .set _ => true
  | .dfr => true
  | _ => false
def lowT (n : Nat) (l : List (Bool × List C)) : Bool := List.rec true (fun x _ ih => Bool.rec false ih (lowCs n x.2)) l
def lowD (n : Nat) (d : D) : Bool := match d with
  | .c x => lowC n x
  | .a l => lowCs n l
  | .t l => lowT n l
/-- What a call has written of the roots that were there. -/
def diffW (n : Nat) (rs : List Root) : List Root → Nat → Option (List (Nat × Root)) := List.rec (fun _ _ => some []) (fun x _ ih rs' k => match rs' with
  | y :: rs' => Bool.rec (Bool.rec none (match ih rs' (k + 1) with
    | some ws => some ((k, y) :: ws)
    | none => none) (lowR n y)) (ih rs' (k + 1)) (eqR1 x y)
  | [] => none) rs
def allU (dst : Option Tmp) (d : D) (rs rs' : List Root) : Option Fst := match diffW rs.length rs rs' 0 with
  | some ws => Bool.rec none (some (.ok ⟨dst, some d, ws, none, true⟩)) (lowD rs.length d)
  | none => none
def updE (rs : List Root) (ancs : List Nat) (i : Nat) (dst : Option Tmp) (e : Option Eff) : Option Fst := match e with
  | some (.val d) => some (.ok ⟨dst, some d, [], none, false⟩)
  | some (.wr d ws) => some (.ok ⟨dst, d, ws, none, false⟩)
  | some (.cold l) => some (.cold l)
  | some (.all d rs') => Bool.rec (allU dst d rs rs') (some (.ok ⟨dst, some d, [], some rs', false⟩)) (barB ancs i)
  | none => none
def evalU (T : Tab) (lo : Lo) (hi : Hint) (ancs : List Nat) (i b : Nat) (ops : List Oper) (s : VS) (o : Oper) : Option Fst := match wantF ops s.sl o.guard with
  | some true => updE s.rs ancs i o.dst (effO T lo hi b s o.dst o.op)
  | some false => some (.ok ⟨o.dst, some (.t []), [], none, false⟩)
  | none => none
/-- In the order of the text: slices to be frozen first, or who writes which roots, and the state. -/
inductive Run1 where
  | cold (l : List Nat)
  | ok (W : List (Nat × List Nat)) (s : VS)
def addW (k : Nat) (u : Upd) (W : List (Nat × List Nat)) : List (Nat × List Nat) := match u.ws with
  | [] => W
  | ws => W ++ [(k, ws.map (·.1))]
def firstF (T : Tab) (lo : Lo) (hi : Hint) (N : Nat) (ancs : List Nat) (ops l : List Oper) : Nat → Nat → List (Nat × List Nat) → VS → Option Run1 := List.rec (fun _ _ W s => some (.ok W s)) (fun o _ ih k b W s =>
  match evalU T lo hi ancs k b ops s o with
  | some (.ok u) => Bool.rec none (ih (k + 1) (b + makesN o.op) (addW k u W) (u.on s)) (okT N u.dst u.val)
  | some (.cold c) => some (.cold c)
  | none => none) l
/-- The roots that those write who neither wait for operation i nor are waited for by it. -/
def freeR (ancs : List Nat) (i m : Nat) (W : List (Nat × List Nat)) : List Nat := List.rec [] (fun w _ ih =>
  Bool.rec (w.2 ++ ih) ih (Nat.beq w.1 i || (Nat.testBit m w.1 || (match nthF ancs w.1 with
    | some x => Nat.testBit x i
    | none => false)))) W
def hides (l : List Nat) (rs : List Root) : List Root := List.rec (fun rs => rs) (fun q _ ih rs => ih (setAt rs q .dead)) l rs
def memN (n : Nat) (l : List Nat) : Bool := List.rec false (fun x _ ih => Bool.rec ih true (Nat.beq x n)) l
def apartN (l m : List Nat) : Bool := List.rec true (fun x _ ih => Bool.rec ih false (memN x m)) l
def wroteF (k : Nat) (W : List (Nat × List Nat)) : List Nat := match findF k W with
  | some l => l
  | none => []
def subN (l m : List Nat) : Bool := List.rec true (fun x _ ih => Bool.rec false ih (memN x m)) l
def hid (l : List Nat) (s : VS) : VS := match l with
  | [] => s
  | _ => { s with rs := hides l s.rs }
def exB (ex : Bool) (l : List Nat) : Bool := match ex with
  | false => true
  | true => match l with
    | [] => true
    | _ => false
def secondF (T : Tab) (lo : Lo) (hi : Hint) (N : Nat) (ops : List Oper) (ancs : List Nat) (W : List (Nat × List Nat)) (l : List Oper) : List Nat → Nat → Nat → VS → Option VS := List.rec (fun _ _ _ s => some s) (fun o _ ih ms i b s =>
  match ms with
  | m :: ms => match evalU T lo hi ancs i b ops (hid (freeR ancs i m W) s) o with
    | some (.ok u) => Bool.rec none (ih ms (i + 1) (b + makesN o.op) (u.on s)) (okT N u.dst u.val && (subN (u.ws.map (·.1)) (wroteF i W) && (apartN (u.ws.map (·.1)) (freeR ancs i m W) && exB u.ex (freeR ancs i m W))))
    | _ => none
  | [] => none) l
def startF (ops : List Oper) (s : VS) : VS := { s with rs := s.rs ++ List.replicate (holesN ops) .dead }
def drawW (T : Tab) (lo : Lo) (hi : Hint) (N : Nat) (ops : List Oper) (s0 s' : VS) (b : Nat) (W : List (Nat × List Nat)) : Option VS := match W with
  | [] => some s'
  | _ => secondF T lo hi N ops (ancsM ops []) W ops (ancsM ops []) 0 b s0
def drawF (T : Tab) (lo : Lo) (hi : Hint) (N : Nat) (ops : List Oper) (n : Nat) : VS → Option VS := Nat.rec (fun _ => none) (fun _ ih s =>
  match firstF T lo hi N (ancsM ops []) ops ops 0 s.rs.length [] (startF ops s) with
  | some (.cold l) => match freezes l s with
    | some s' => ih s'
    | none => none
  | some (.ok W s') => drawW T lo hi N ops (startF ops s) s' s.rs.length W
  | none => none) n

def tidyF (hi : Hint) (f : FuncId) (id : Nat) (s : VS) : VS := match hi.keep f id with
  | some l => { s with sl := keepS s.sl l }
  | none => s
def regionF (T : Tab) (lo : Lo) (hi : Hint) (N : Nat) (f : FuncId) (ro : Option Nat) (id : Nat) (ops : List Oper) (draw : Bool) (s : VS) : Option VS := match draw with
  | false => match opsF T lo hi N ops ops s with
    | some s' => some (tidyF hi f id s')
    | none => none
  | true => match ro with
    | some _ => none
    | none => match staticB ops with
      | true => match drawF T lo hi N ops 8 s with
        | some s' => some (tidyF hi f id s')
        | none => none
      | false => none
def beginF (ro : Option Nat) (s : VS) : Option VS := match ro with
  | some r => match nthF s.rs r with
    | some (.loop g M sl ps as bd .ready none) => some { s with rs := setAt s.rs r (.loop g M sl ps as bd .busy none) }
    | _ => none
  | none => none
/-- A loop over a function: what comes behind it, and the state. -/
def rangeF (lo : Lo) (N : Nat) (f : FuncId) (ro : Option Nat) (g : Operand) (ps : List Tmp) (as b : Code) (s : VS) : Option (Option Code × VS) := match ro with
  | some _ => none
  | none => match cellF (evF s.sl g) with
    | some c => match calleeC c with
      | some (h, caps) => match lo.call h (.c (.yl (s.rs.length + 1)) :: caps) (s.rs ++ [.dfr, .loop f N s.sl ps as b .ready none]) with
        | some (_, rs') => match nthF rs' (s.rs.length + 1) with
          | some (.loop _ _ _ _ _ _ .ready none) => some (none, { s with rs := setAt rs' (s.rs.length + 1) .dead, df := s.rs.length :: s.df })
          | some (.loop _ _ _ _ _ _ .done (some c)) => some (some c, { s with rs := setAt rs' (s.rs.length + 1) .dead, df := s.rs.length :: s.df })
          | _ => none
        | none => none
      | none => none
    | none => none
def jumpF (j : Option Code) (k : List Item) : List Item := match j with
  | some c => .code c :: k
  | none => k

/-- f: the function; ro: the root of the loop's record, in a round. -/
def runF (T : Tab) (lo : Lo) (hi : Hint) (N : Nat) (f : FuncId) (ro : Option Nat) (n : Nat) : List Item → VS → Option (Option Code × VS) := Nat.rec (fun _ _ => none) (fun _ ih todo s => match todo with
  | [] => some (none, s)
  | x :: k => match x with
    | .inBlock _ => ih k s
    | .inLoop c => ih (.code c :: .inLoop c :: k) s
    | .beginRound => match beginF ro s with
      | some s' => ih k s'
      | none => none
    | .code c => match c with
      | .skip => ih k s
      | .label _ => ih k s
      | .ret => some (some .ret, s)
      | .seq a b => ih (.code a :: .code b :: k) s
      | .cond c a b => match boolF (evF s.sl c) with
        | some p => ih (.code (Bool.rec b a p) :: k) s
        | none => none
      | .block id c => ih (.code c :: .inBlock id :: k) s
      | .loop c => ih (.code c :: .inLoop c :: k) s
      | .exit id => match exitTo id k with
        | some k' => ih k' s
        | none => some (some (.exit id), s)
      | .region id ops draw => match regionF T lo hi N f ro id ops.toList draw s with
        | some s' => ih k s'
        | none => none
      | .rangeFunc g ps as b => match rangeF lo N f ro g ps.toList as b s with
        | some (j, s') => ih (jumpF j k) s'
        | none => none
      | _ => none
    | _ => none) n

/-- the blocks for deferred calls are taken -/
def takeF (l : List Nat) : List Root → Option (List Root) := List.rec (fun rs => some rs) (fun r _ ih rs => match nthF rs r with
  | some .dfr => ih (setAt rs r .dead)
  | _ => none) l
def resOneF (T : Tab) (s : VS) (x : ResultVar) : Option (Bool × List C) := match (match x with
    | .tmp t => lookF s.sl t
    | .cell ad t => loadF T s t (.tmp ad)) with
  | some (.c x) => some (false, [x])
  | some (.a l) => some (true, l)
  | _ => none
def resAllF (T : Tab) (s : VS) (l : List ResultVar) : Option (List (Bool × List C)) := List.rec (some []) (fun x _ ih => match resOneF T s x, ih with
  | some q, some l => some (q :: l)
  | _, _ => none) l
def resF (T : Tab) (s : VS) (l : List ResultVar) : Option D := match resAllF T s l with
  | some [(false, [x])] => some (.c x)
  | some [(true, l)] => some (.a l)
  | some l => some (.t l)
  | none => none
def endF (T : Tab) (s : VS) (l : List ResultVar) : Option (D × List Root) := match takeF s.df s.rs with
  | some rs => match resF T { s with rs := rs } l with
    | some d => some (d, rs)
    | none => none
  | none => none
def retB (j : Option Code) : Bool := match j with
  | none => true
  | some .ret => true
  | _ => false
def setP (N : Nat) (ps : List Tmp) : List D → Slots → Option Slots := List.rec (fun ds sl => match ds with
  | [] => some sl
  | _ => none) (fun t _ ih ds sl => match ds with
  | d :: ds => Bool.rec none (ih ds ((t, d, []) :: sl)) (Nat.blt t N)
  | [] => none) ps
def bodyS (T : Tab) (hi : Hint) (F : FuncId → Option Func) (fuel : Nat) (lo : Lo) (f : FuncId) (ds : List D) (rs : List Root) : Option (D × List Root) := match F f with
  | some fn => match fn.body with
    | some c => Bool.rec none (match runF T lo hi fn.ntmps f none fuel [.code c] ⟨argSlots 0 ds, rs, []⟩ with
      | some (j, s) => Bool.rec none (endF T s fn.results.toList) (retB j)
      | none => none) (Nat.ble ds.length fn.ntmps)
    | none => none
  | none => none
/-- Kn: what is known of functions without arguments. -/
def callS (T : Tab) (hi : Hint) (F : FuncId → Option Func) (Kn : FuncId → Option D) (fuel : Nat) (lo : Lo) (f : FuncId) (ds : List D) (rs : List Root) : Option (D × List Root) := match Kn f with
  | some d => match ds with
    | [] => some (d, rs)
    | _ => none
  | none => bodyS T hi F fuel lo f ds rs
def roundF (r : Nat) (j : Option Code) (s : VS) : Option (D × List Root) := match s.df with
  | [] => match nthF s.rs r with
    | some (.loop f N sl ps as bd .busy none) => match j with
      | none => some (bool true, setAt s.rs r (.loop f N sl ps as bd .ready none))
      | some c => some (bool false, setAt s.rs r (.loop f N sl ps as bd .done (some c)))
    | _ => none
  | _ => none
def yldS (T : Tab) (hi : Hint) (fuel : Nat) (lo : Lo) (r : Nat) (ds : List D) (rs : List Root) : Option (D × List Root) := match nthF rs r with
  | some (.loop f N sl ps as bd .ready none) => match setP N ps ds sl with
    | some sl => match runF T lo hi N f (some r) fuel [.code as, .beginRound, .code bd] ⟨sl, rs, []⟩ with
      | some (j, s) => roundF r j s
      | none => none
    | none => none
  | _ => none
def loN (T : Tab) (hi : Hint) (F : FuncId → Option Func) (Kn : FuncId → Option D) (fuel : Nat) (n : Nat) : Lo := Nat.rec ⟨fun _ _ _ => none, fun _ _ _ => none⟩ (fun _ ih => ⟨callS T hi F Kn fuel ih, yldS T hi fuel ih⟩) n
end
end Go.V
