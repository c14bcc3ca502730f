/- The abstract machine V: cells, states, what an operation does to a state, and the conditions that a run of code leaves to be shown. -/
import Derived.WalkKit
import Derived.StillTail
import Derived.Deep.Quiet
import Derived.Deep.MidRow
import Derived.Maps.AppendAt
import Derived.RangeFuncNested
import Derived.MapKept
set_option linter.unusedVariables false
set_option linter.defProp false
set_option linter.unusedSimpArgs false
namespace Go
def ak := @Option.some.injEq
def kD := @Nat.blt_eq
def dv := @List.getElem?_append_left
def bw := @Prod.mk.injEq
def dq := @Nat.beq_refl
def eK := @List.getElem?_eq_getElem
def dI := @List.getElem?_set
def gm := @List.getElem?_append_right
def bG := @Nat.le_refl
def bu := @Nat.zero_le
def dx := @List.getElem?_take
def dJ := @Bool.and_eq_true
def dK := @Value.slice.injEq
def eV := @List.mem_cons_of_mem
def cW := @Nat.le_trans
def eI := @List.mem_cons_self
def fU := @Nat.mul_le_mul_right
def eB := @Bool.eq_iff_iff
end Go
namespace Go.V
inductive I where
 | v (x:Value)
 | sl (sz n:Nat) (get:Nat->Nat->I)
 | pt (sz:Nat) (get:Nat->I)
 | fn (f:FuncId) (n:Nat) (cap:Nat->I)
 | st (l:List Int)
 | gp (g:Nat)
 | fm (l:List (Int×FuncId))
 | tx (s:ByteArray)
inductive C where
 | im (x:I)
 | rt (r i j:Nat)
 | sa (r m:Nat)
 | mp (r:Nat)
 | dM (f:FuncId) (eA:List Nat)
 | yl (r:Nat)
 | ow (r j:Nat)
inductive D where
 | c (x:C)
 | a (l:List C)
 | t (l:List (Bool×List C))
abbrev e5:=List (Tmp×Bool)
abbrev aK:=List (Tmp×D×e5)
inductive O where
 | im (x:I)
 | ar (e sz n:Nat) (get:Nat->Nat->I)
 | ns (e sz n:Nat) (get:Nat->Nat->O)
inductive Fc where
 | c (x:C)
 | o (x:O)
inductive ag where
 | dead
 | box (l:List C)
 | arr (e sz n:Nat) (get:Nat->Nat->I)
 | row (e sz n:Nat) (l:List C)
 | bt (e sz n:Nat) (get:Nat->Nat->O) (et:Option (Nat×List Fc))
 | own (l:List O)
 | set (l:List Int)
 | loop (f N:Nat) (sl:aK) (ps:List Tmp) (as bd:Code) (st:LoopState) (fF:Option Code)
 | kA
structure VS where
 sl:aK
 rs:List ag
 df:List Nat:=[]
def look:aK->Tmp->Option (D×e5)
 | [],_=>none
 | (k,d)::r,t=>match Nat.beq k t with
   | true=>some d
   | false=>look r t
abbrev D.v (x:Value):D:=.c (.im (.v x))
abbrev int (n:Int):D:=.v (.int .i64 n)
abbrev bool (b:Bool):D:=.v (.bool b)
def Ly:List Value->Option (List C)
 | []=>some []
 | x::l=>match x.oneCell',Ly l with
   | true,some r=>some (.im (.v x)::r)
   | _,_=>none
def DN (v:Value):Option D:=match v with
 | .agg cs=>match Ly cs.toList with
   | some l=>some (.a l)
   | none=>none
 | v=>match v.oneCell' with
   | true=>some (.c (.im (.v v)))
   | false=>none
def MG:Bool->Bool->Bool
 | true,b=>b
 | false,true=>false
 | false,false=>true
def pW (x:Tmp×Bool):e5->Bool
 | []=>false
 | y::m=>match Nat.beq x.1 y.1 with
   | true=>match MG x.2 y.2 with
     | true=>true
     | false=>pW x m
   | false=>pW x m
def sub:e5->e5->Bool
 | [],_=>true
 | x::l,m=>match pW x m with
   | true=>sub l m
   | false=>false
def VS.ev (s:VS) (g:e5):Operand->Option D
 | .tmp t=>match look s.sl t with
   | some (d,c)=>match sub c g with
     | true=>some d
     | false=>none
   | none=>none
 | .const v=>DN v
 | .func f=>some (.c (.im (.fn f 0 λ_=>.v (.bool false))))
 | .global g=>some (.c (.im (.gp g)))
def ie (t:Tmp):e5->Bool
 | []=>true
 | x::m=>match Nat.beq x.1 t with
   | true=>false
   | false=>ie t m
def free (t:Tmp):aK->Bool
 | []=>true
 | x::r=>match ie t x.2.2 with
   | true=>free t r
   | false=>false
inductive Kd where
 | struct (fields:List (Nat×Nat))
 | slice (e:Nat)
 | array (n e:Nat)
 | str|bool|int|map (k e:Nat)|ptr (e:Nat)|func
 | other
structure Ty where
 size:Nat
 bytes:Nat
 zero:Value
 kd:Kd
def Kd.agg:Kd->Bool
 | .struct _=>true
 | .array _ _=>true
 | _=>false
def dX (n:Int):List Int->Bool
 | []=>false
 | x::l=>match n==x with
   | true=>true
   | false=>dX n l
def BZ (op:BinOp):Value->Value->Option Value
 | .int .i64 a,.int .i64 b=>match op with
   | .add=>some (.int .i64 (IntKind.i64.wrap (a+b)))
   | .sub=>some (.int .i64 (IntKind.i64.wrap (a-b)))
   | .mul=>some (.int .i64 (IntKind.i64.wrap (a*b)))
   | .eql=>some (.bool (a==b))
   | .neq=>some (.bool (a != b))
   | .lss=>some (.bool (decide (a<b)))
   | .leq=>some (.bool (decide (a<=b)))
   | .gtr=>some (.bool (decide (a>b)))
   | .geq=>some (.bool (decide (a≥b)))
   | .and=>some (.int .i64 (IntKind.i64.wrap (BitVec.ofInt 64 a &&& BitVec.ofInt 64 b).toNat))
   | .andNot=>some (.int .i64 (IntKind.i64.wrap (BitVec.ofInt 64 a &&& ~~~(BitVec.ofInt 64 b)).toNat))
   | _=>none
 | .int .u8 a,.int .u8 b=>match op with
   | .eql=>some (.bool (a==b))
   | .neq=>some (.bool (a != b))
   | .lss=>some (.bool (decide (a<b)))
   | .leq=>some (.bool (decide (a<=b)))
   | .gtr=>some (.bool (decide (a>b)))
   | .geq=>some (.bool (decide (a≥b)))
   | _=>none
 | .string a,.string b=>match op with
   | .eql=>some (.bool (a.toList==b.toList))
   | .neq=>some (.bool (!(a.toList==b.toList)))
   | _=>none
 | _,_=>none
def need:Option Prop->Prop
 | none=>True
 | some p=>p
def zP (op:BinOp):Value->Value->Option (Prop×Value)
 | .int .i64 a,.int .i64 b=>match op with
   | .quo=>some (b≠0,.int .i64 (IntKind.i64.wrap (a.tdiv b)))
   | .rem=>some (b≠0,.int .i64 (a.tmod b))
   | .shl=>some (0<=b,.int .i64 (IntKind.i64.wrap (a*2 ^ (min b.toNat 64))))
   | .shr=>some (0<=b,.int .i64 (a.fdiv (2 ^ (min b.toNat 64))))
   | _=>none
 | _,_=>none
inductive EK where
 | int|str|bool
def I7:List EK->List C->List C->Option Bool
 | [],[],[]=>some true
 | .int::k,.im (.v (.int .i64 x))::l,.im (.v (.int .i64 y))::m=>match I7 k l m with
   | some c=>some ((x==y)&&c)
   | none=>none
 | .str::k,.im (.v (.string x))::l,.im (.v (.string y))::m=>match I7 k l m with
   | some c=>some ((x==y)&&c)
   | none=>none
 | .bool::k,.im (.v (.bool x))::l,.im (.v (.bool y))::m=>match I7 k l m with
   | some c=>some ((x==y)&&c)
   | none=>none
 | _,_,_=>none
structure dL where
 ty:Nat->Option Ty
 eqs:Nat->Option (List EK)
 gl:Nat->Option I:=λ_=>none
 ga:Nat->Option (Nat×(Nat->I)):=λ_=>none
def dL.gv (T:dL) (g:Nat):Option (Nat×(Nat->I)):=match T.gl g with
 | some x=>some (1,λ_=>x)
 | none=>T.ga g
def A6 (n:Int) (l:List (Int×FuncId)):Option FuncId:=match l with
 | []=>none
 | x::l=>match n==x.1 with
   | true=>some x.2
   | false=>A6 n l
def dT (get:Nat->I) (o:Nat):Nat->List C
 | 0=>[]
 | n+1=>.im (get o)::dT get (o+1) n
def takeN:Nat->List C->Option (List C)
 | 0,_=>some []
 | _+1,[]=>none
 | n+1,x::l=>match takeN n l with
   | some r=>some (x::r)
   | none=>none
def w9:Nat->List C->List C
 | 0,l=>l
 | _+1,[]=>[]
 | n+1,_::l=>w9 n l
def nth {α:Type}:List α->Nat->Option α
 | [],_=>none
 | x::_,0=>some x
 | _::l,n+1=>nth l n
def setAt {α:Type}:List α->Nat->α->List α
 | [],_,_=>[]
 | _::l,0,y=>y::l
 | x::l,n+1,y=>x::setAt l n y
def put (l:List C) (o:Nat):List C->Option (List C)
 | []=>some l
 | y::ys=>match nth l o with
   | some _=>put (setAt l o y) (o+1) ys
   | none=>none
def D.cells:D->Option (List C)
 | .c x=>some [x]
 | .a l=>some l
 | .t _=>none
def CY:List C->Option (List I)
 | []=>some []
 | .im x::l=>match CY l with
   | some r=>some (x::r)
   | none=>none
 | _::_=>none
def GR (s:VS) (g:e5):List Operand->Option (List D)
 | []=>some []
 | x::l=>match s.ev g x,GR s g l with
   | some d,some r=>some (d::r)
   | _,_=>none
def yU (qT:List (Nat×Nat)) (s:VS) (g:e5):List (Nat×Operand)->List C->Option (List C)
 | [],l=>some l
 | (k,x)::r,l=>match nth qT k,s.ev g x with
   | some (o,sz),some d=>match d.cells with
     | some cs=>match Nat.beq cs.length sz&&Nat.blt 0 sz with
       | true=>match put l o cs with
         | some l'=>yU qT s g r l'
         | none=>none
       | false=>none
     | none=>none
   | _,_=>none
def xK (y:Ty):Option (List C):=Ly y.zero.cells.toList
noncomputable def oI:O->I:=O.rec (λx=>x) (λ_ sz n get=>.sl sz n get) (λ_ sz n _ ih=>.sl sz n ih)
noncomputable def aV {α:Type} (l:List α):Nat->Option α:=List.rec (λ_=>none) (λx _ ih n=>Nat.rec (some x) (λm _=>ih m) n) l
def LM (x:O):Option C:=match x with
 | .im x=>some (.im x)
 | _=>none
noncomputable def Lk (x:Option Fc):Option C:=match x with
 | some (.c x)=>some x
 | some (.o x)=>LM x
 | none=>none
noncomputable def zX (get:Nat->Nat->O) (et:Option (Nat×List Fc)) (i j:Nat):Option C:=match et with
 | none=>LM (get i j)
 | some x=>Bool.rec (LM (get i j)) (Lk (aV x.2 j)) (Nat.beq i x.1)
noncomputable def pN (f:Nat->Option C) (j:Nat) (n:Nat):Option (List C):=Nat.rec (λ_=>some []) (λ_ ih j=>match f j with
 | some c=>match ih (j+1) with
   | some l=>some (c::l)
   | none=>none
 | none=>none) n j
section
variable (T:dL)
def gw (b:Builtin) (ts:List TypeId) (ds:Option (List D)):Option (Option Prop×D):=match b with
 | .len=>match ts,ds with
   | [t],some [d]=>match T.ty t with
     | some y=>match y.kd,d with
       | .slice _,.c (.im (.sl _ n _))=>some (none,int n)
       | .slice _,.c (.sa _ m)=>some (none,int m)
       | .slice _,.c (.im (.v (.slice _ n _)))=>some (none,int n)
       | .str,.c (.im (.v (.string b)))=>some (none,int b.size)
       | _,_=>none
     | none=>none
   | _,_=>none
 | .max=>match ds with
   | some [.c (.im (.v (.int .i64 a))),.c (.im (.v (.int .i64 b)))]=>some (none,int (if b>a then b else a))
   | _=>none
 | .min=>match ds with
   | some [.c (.im (.v (.int .i64 a))),.c (.im (.v (.int .i64 b)))]=>some (none,int (if b<a then b else a))
   | _=>none
 | _=>none
noncomputable def bm (s:VS) (g:e5):Op->Option (Option Prop×D)
 | .move x=>match s.ev g x with
   | some d=>some (none,d)
   | none=>none
 | .assign x=>match s.ev g x with
   | some d=>some (none,d)
   | none=>none
 | .pick (.tmp t) a b=>match s.ev g (.tmp t) with
   | some (.c (.im (.v (.bool p))))=>match s.ev ((t,true)::g) a,s.ev ((t,false)::g) b with
     | some (.c (.im (.v (.bool x)))),some (.c (.im (.v (.bool y))))=>some (none,bool (bif p then x else y))
     | _,_=>none
   | _=>none
 | .binOp op t x y _=>match s.ev g x,s.ev g y with
   | some (.c (.im (.v (.bool x)))),some (.c (.im (.v (.bool y))))=>match T.ty t with
     | some { kd:=.bool,.. }=>match op with
       | .eql=>some (none,bool (x==y))
       | .neq=>some (none,bool (!(x==y)))
       | _=>none
     | _=>none
   | some (.c (.im (.v x))),some (.c (.im (.v y)))=>match BZ op x y with
     | some z=>some (none,.v z)
     | none=>match zP op x y with
       | some (p,z)=>some (some p,.v z)
       | none=>none
   | some (.a l),some (.a m)=>match T.eqs t with
     | some ks=>match op,I7 ks l m with
       | .eql,some b=>some (none,bool b)
       | .neq,some b=>some (none,bool (!b))
       | _,_=>none
     | _=>none
   | _,_=>none
 | .unOp .not _ x=>match s.ev g x with
   | some (.c (.im (.v (.bool b))))=>some (none,bool (!b))
   | _=>none
 | .unOp .neg _ x=>match s.ev g x with
   | some (.c (.im (.v (.int .i64 n))))=>some (none,int (IntKind.i64.wrap (0-n)))
   | _=>none
 | .nilCheck x=>match s.ev g x with
   | some (.c (.rt r i j))=>some (none,.c (.rt r i j))
   | some (.c (.im (.pt sz get)))=>some (none,.c (.im (.pt sz get)))
   | some (.c (.dM f eA))=>some (none,.c (.dM f eA))
   | some (.c (.im (.fn f n cap)))=>some (none,.c (.im (.fn f n cap)))
   | _=>none
 | .fieldAddr t x f=>match T.ty t with
   | some { kd:=.struct fs,.. }=>match nth fs f with
     | some (o,sz)=>match Nat.blt 0 sz with
       | true=>match s.ev g x with
         | some (.c (.rt r i j))=>some (none,.c (.rt r i (j+o)))
         | some (.c (.im (.pt n get)))=>match Nat.ble (o+sz) n with
           | true=>some (none,.c (.im (.pt (n-o) λj=>get (o+j))))
           | false=>none
         | _=>none
       | false=>none
     | none=>none
   | _=>none
 | .indexAddr t x ix=>match T.ty t with
   | some { kd:=.slice e,.. }=>match T.ty e with
     | some y=>match s.ev g ix with
       | some (.c (.im (.v (.int .i64 i))))=>match s.ev g x with
         | some (.c (.im (.sl sz n get)))=>match Nat.beq sz y.size with
           | true=>some (some (0<=i/\i<(n:Int)),.c (.im (.pt sz (get i.toNat))))
           | false=>none
         | some (.c (.sa r m))=>match nth s.rs r with
           | some (.arr e' sz n get)=>match Nat.beq sz y.size with
             | true=>some (some (0<=i/\i<(m:Int)),.c (.rt r i.toNat 0))
             | false=>none
           | some (.row e' sz n l)=>match Nat.beq sz y.size with
             | true=>some (some (0<=i/\i<(m:Int)),.c (.rt r i.toNat 0))
             | false=>none
           | some (.bt e' sz n get et)=>match Nat.beq sz y.size with
             | true=>some (some (0<=i/\i<(m:Int)),.c (.rt r i.toNat 0))
             | false=>none
           | _=>none
         | _=>none
       | _=>none
     | none=>none
   | _=>none
 | .load t x=>match T.ty t with
   | some y=>match s.ev g x with
     | some (.c (.rt r i j))=>match nth s.rs r with
       | some (.box l)=>match i with
         | 0=>match y.kd.agg with
           | true=>match takeN y.size (w9 j l) with
             | some cs=>some (none,.a cs)
             | none=>none
           | false=>match nth l j with
             | some c=>some (none,.c c)
             | none=>none
         | _=>none
       | some (.arr _ sz n get)=>match y.kd.agg with
         | true=>match Nat.ble (j+y.size) sz with
           | true=>some (some (i<n),.a (dT (get i) j y.size))
           | false=>none
         | false=>match Nat.blt j sz with
           | true=>some (some (i<n),.c (.im (get i j)))
           | false=>none
       | some (.row _ sz n l)=>match y.kd.agg with
         | true=>match takeN y.size (w9 (i*sz+j) l) with
           | some cs=>some (none,.a cs)
           | none=>none
         | false=>match nth l (i*sz+j) with
           | some c=>some (none,.c c)
           | none=>none
       | some (.bt _ sz n get et)=>match y.kd.agg with
         | true=>match Nat.ble (j+y.size) sz with
           | true=>match pN (zX get et i) j y.size with
             | some l=>some (some (i<n),.a l)
             | none=>none
           | false=>none
         | false=>match Nat.blt j sz with
           | true=>match zX get et i j with
             | some c=>some (some (i<n),.c c)
             | none=>none
           | false=>none
       | _=>none
     | some (.c (.im (.pt n get)))=>match y.kd.agg with
       | true=>match Nat.ble y.size n with
         | true=>some (none,.a (dT get 0 y.size))
         | false=>none
       | false=>match Nat.blt 0 n with
         | true=>some (none,.c (.im (get 0)))
         | false=>none
     | some (.c (.im (.gp q)))=>match T.gl q with
       | some z=>match y.kd.agg with
         | true=>none
         | false=>some (none,.c (.im z))
       | none=>none
     | _=>none
   | none=>none
 | .extract x k=>match s.ev g x with
   | some (.t l)=>match nth l k with
     | some (true,cs)=>some (none,.a cs)
     | some (false,[c])=>some (none,.c c)
     | _=>none
   | _=>none
 | .build t parts=>match T.ty t with
   | some y=>match y.kd with
     | .struct fs=>match xK y with
       | some z=>match yU fs s g parts.toList z with
         | some l=>some (none,.a l)
         | none=>none
       | none=>none
     | _=>none
   | none=>none
 | .makeFunc fn first eA=>match fn,first.toList,GR s g eA.toList with
   | .func f,[],some []=>some (none,.c (.dM f []))
   | .func f,[],some [.c (.rt r 0 0)]=>some (none,.c (.dM f [r]))
   | .func f,[],some [.c (.rt r 0 0),.c (.rt r' 0 0)]=>some (none,.c (.dM f [r,r']))
   | .func f,[],some [.c (.rt r 0 0),.c (.rt r' 0 0),.c (.rt r'' 0 0)]=>some (none,.c (.dM f [r,r',r'']))
   | _,_,_=>none
 | .call c=>match c.callee with
   | .builtin b=>gw T b c.argTypes.toList (GR s g c.args.toList)
   | _=>none
 | .lookup t x i false=>match T.ty t with
   | some { kd:=.map k e,.. }=>match T.ty k,T.ty e with
     | some { kd:=.int,.. },some { zero:=.bool false,.. }=>match s.ev g x,s.ev g i with
       | some (.c (.mp r)),some (.c (.im (.v (.int .i64 n))))=>match nth s.rs r with
         | some (.set l)=>some (none,bool (dX n l))
         | _=>none
       | some (.c (.im (.st l))),some (.c (.im (.v (.int .i64 n))))=>some (none,bool (dX n l))
       | _,_=>none
     | _,_=>none
   | _=>none
 | .slice t x none (some hi) none=>match T.ty t with
   | some { kd:=.slice e,.. }=>match T.ty e with
     | some _=>match s.ev g x,s.ev g hi with
       | some (.c (.im (.sl sz n get))),some (.c (.im (.v (.int .i64 h))))=>some (some (0<=h/\h<=(n:Int)),.c (.im (.sl sz h.toNat get)))
       | some (.c (.sa r m)),some (.c (.im (.v (.int .i64 h))))=>match nth s.rs r with
         | some (.arr _ _ _ _)=>some (some (0<=h/\h<=(m:Int)),.c (.sa r h.toNat))
         | some (.row _ _ _ _)=>some (some (0<=h/\h<=(m:Int)),.c (.sa r h.toNat))
         | some (.bt _ _ _ _ _)=>some (some (0<=h/\h<=(m:Int)),.c (.sa r h.toNat))
         | _=>none
       | some (.c (.im (.v (.slice none 0 0)))),some (.c (.im (.v (.int .i64 h))))=>some (some (h=0),.c (.im (.v (.slice none 0 0))))
       | _,_=>none
     | none=>none
   | _=>none
 | _=>none
end
def iv (l:List I) (q:Nat):I:=match nth l q with
 | some x=>x
 | none=>.v (.tuple #[])
def flat (sz:Nat) (l:List I) (i j:Nat):I:=iv l (i*sz+j)
def kc (rs:List ag) (r:Nat) (rec:List C->Option (List I)):Option I:=match nth rs r with
 | some (.box l)=>match rec l with
   | some is=>some (.pt is.length (iv is))
   | none=>none
 | _=>none
noncomputable def nB (rs:List ag) (rec:List C->Option (List I)):C->Option I
 | .im x=>some x
 | .rt q 0 0=>kc rs q rec
 | .sa q m=>match nth rs q with
   | some (.arr _ sz _ get)=>some (.sl sz m get)
   | some (.row _ sz _ l)=>match takeN (m*sz) l with
     | some l=>match rec l with
       | some is=>some (.sl sz m (flat sz is))
       | none=>none
     | none=>none
   | some (.bt _ sz _ get none)=>some (.sl sz m λi j=>oI (get i j))
   | _=>none
 | .mp q=>match nth rs q with
   | some (.set l)=>some (.st l)
   | _=>none
 | .dM f []=>some (.fn f 0 (iv []))
 | .dM f [q]=>match kc rs q rec with
   | some x=>some (.fn f 1 (iv [x]))
   | none=>none
 | .dM f [q,q']=>match kc rs q rec,kc rs q' rec with
   | some x,some y=>some (.fn f 2 (iv [x,y]))
   | _,_=>none
 | .dM f [q,q',q'']=>match kc rs q rec,kc rs q' rec,kc rs q'' rec with
   | some x,some y,some z=>some (.fn f 3 (iv [x,y,z]))
   | _,_,_=>none
 | _=>none
def rz {α β:Type} (f:α->Option β):List α->Option (List β)
 | []=>some []
 | x::l=>match f x,rz f l with
   | some y,some r=>some (y::r)
   | _,_=>none
noncomputable def reify:Nat->List ag->List C->Option (List I)
 | 0,rs,l=>rz (nB rs λ_=>none) l
 | k+1,rs,l=>rz (nB rs (reify k rs)) l
def lift:List I->List C
 | []=>[]
 | x::l=>.im x::lift l
noncomputable def dF (rs:List ag):D->Option D
 | .c x=>match reify 6 rs [x] with
   | some [y]=>some (.c (.im y))
   | _=>none
 | .a l=>match reify 6 rs l with
   | some r=>some (.a (lift r))
   | none=>none
 | .t l=>match reifyT rs l with
   | some r=>some (.t r)
   | none=>none
where reifyT (rs:List ag):List (Bool×List C)->Option (List (Bool×List C))
 | []=>some []
 | (b,l)::m=>match reify 6 rs l,reifyT rs m with
   | some r,some q=>some ((b,lift r)::q)
   | _,_=>none
noncomputable def dn (rs:List ag):List D->Option (List D)
 | []=>some []
 | d::l=>match dF rs d,dn rs l with
   | some x,some r=>some (x::r)
   | _,_=>none
def fI:List C->Bool
 | []=>true
 | .im _::l=>fI l
 | _::_=>false
def ki:D->Bool
 | .c x=>fI [x]
 | .a l=>fI l
 | .t l=>l.all λx=>fI x.2
def fk:List D->Bool
 | []=>true
 | d::l=>match ki d with
   | true=>fk l
   | false=>false
def fe:List C->Bool
 | []=>true
 | .im (.v _)::l=>fe l
 | _::_=>false
def ir:D->Bool
 | .c x=>fe [x]
 | .a l=>fe l
 | .t l=>l.all λx=>fe x.2
structure Cal where
 pur:FuncId->List D->Option (Option Prop×D)
 eff:FuncId->List D->List ag->Option (Option Prop×D×List ag)
 NW:Nat->List D->List ag->Option (Option Prop×D×List ag)
def X6 (s:VS) (g0:e5) (p:Prop):e5->Prop
 | []=>p
 | (t,b)::g=>match look s.sl t with
   | some (.c (.im (.v (.bool x))),c)=>match sub c g0 with
     | true=>x=b->X6 s g0 p g
     | false=>False
   | _=>False
def E6 (N t:Nat) (g:e5) (sl:aK):Bool:=match Nat.blt t N with
 | true=>match free t sl with
   | true=>ie t g
   | false=>false
 | false=>false
def ai5 (N:Nat) (s:VS) (dst:Option Tmp) (d:D) (g:e5) (K:VS->Prop):Prop:=match dst with
 | none=>K s
 | some t=>match E6 N t g s.sl with
   | true=>K { s with sl:=(t,d,g)::s.sl }
   | false=>False
def zi (get:Nat->Nat->I) (i j:Nat) (ys:List I):Nat->Nat->I:=λi' j'=>if i'=i/\j<=j'/\j'<j+ys.length then iv ys (j'-j) else get i' j'
def app (n:Nat) (get get':Nat->Nat->I):Nat->Nat->I:=λi j=>if i<n then get i j else get' (i-n) j
def zk (sz:Nat) (s:VS) (g:e5):List (Nat×Operand)->List C->Option (List C)
 | [],l=>some l
 | (k,x)::r,l=>match s.ev g x with
   | some d=>match d.cells with
     | some cs=>match Nat.beq cs.length sz&&Nat.blt 0 sz with
       | true=>match put l (k*sz) cs with
         | some l'=>zk sz s g r l'
         | none=>none
       | false=>none
     | none=>none
   | none=>none
def Sb (l:List C):Nat->List C
 | 0=>[]
 | n+1=>l++Sb l n
def room (n bytes:Nat):Prop:=n<=maxLen/\n*bytes<=140737488355328
def sV (n:Int) (l:List Int):List Int:=match dX n l with
 | true=>l
 | false=>l++[n]
section
variable (T:dL) (Z2:Cal) (N:Nat)
def Xo (rs:List ag):D->Option (Nat×Nat×(Nat->Nat->I))
 | .c (.im (.sl sz k get))=>some (sz,k,get)
 | .c (.sa q k)=>match nth rs q with
   | some (.arr _ sz _ get)=>some (sz,k,get)
   | _=>none
 | _=>none
def av6 (s:VS) (t:TypeId) (d src:D) (dst:Option Tmp) (K:VS->Prop):Prop:=match T.ty t with
 | some { kd:=.slice el,.. }=>match T.ty el with
   | some y=>match Xo s.rs src with
     | some (sz,k,get')=>match Nat.beq sz y.size&&Nat.blt 0 sz with
       | true=>match d with
         | .c (.im (.v (.slice none 0 0)))=>room k y.bytes/\
           ai5 N { s with rs:=s.rs++[.arr el sz k get'] } dst (.c (.sa s.rs.length k)) [] K
         | .c (.sa r m)=>match nth s.rs r with
           | some (.arr pF cF n get)=>match Nat.beq el pF&&Nat.beq sz cF with
             | true=>m=n/\room (n+k) y.bytes/\
               ai5 N { s with rs:=setAt s.rs r .dead++[.arr el sz (n+k) (app n get get')] } dst (.c (.sa s.rs.length (n+k))) [] K
             | false=>False
           | _=>False
         | _=>False
       | false=>False
     | none=>False
   | none=>False
 | _=>False
def Kh:D->Option (FuncId×List D)
 | .c (.dM f eA)=>some (f,eA.map λr=>.c (.rt r 0 0))
 | .c (.im (.fn f n cap))=>some (f,(dT cap 0 n).map .c)
 | _=>none
def D3 (s:VS) (t:TypeId) (x v:D) (K:VS->Prop):Prop:=match T.ty t with
 | some y=>match v.cells with
   | some cs=>match Nat.beq cs.length y.size&&Nat.blt 0 y.size with
     | true=>match x with
       | .c (.rt r i j)=>match nth s.rs r with
         | some (.box l)=>match i,put l j cs with
           | 0,some l'=>K { s with rs:=setAt s.rs r (.box l') }
           | _,_=>False
         | some (.arr el sz n get)=>match CY cs,Nat.ble (j+y.size) sz with
           | some ys,true=>i<n/\K { s with rs:=setAt s.rs r (.arr el sz n (zi get i j ys)) }
           | _,_=>False
         | _=>False
       | _=>False
     | false=>False
   | none=>False
 | none=>False
def vf (sl:aK):List Tmp->aK
 | []=>[]
 | t::r=>match look sl t with
   | some (d,[])=>(t,d,[])::vf sl r
   | _=>vf sl r
structure aL1 where
 ar6:Nat->List Tmp
 aR2:Nat->Bool
 heads:Nat->Nat
variable (pl:aL1) (X:List Item->VS->Prop) (Q:VS->Prop)
end
section
variable (T:dL)
noncomputable def qH (s:VS):ResultVar->Option (Option Prop×Bool×List C)
 | .tmp t=>match s.ev [] (.tmp t) with
   | some (.c x)=>some (none,false,[x])
   | some (.a l)=>some (none,true,l)
   | _=>none
 | .cell ad t=>match bm T s [] (.load t (.tmp ad)) with
   | some (p,.c x)=>some (p,false,[x])
   | some (p,.a l)=>some (p,true,l)
   | _=>none
def Kf:Option Prop->Option Prop->Option Prop
 | none,p=>p
 | p,none=>p
 | some p,some q=>some (p/\q)
noncomputable def qG (s:VS):List ResultVar->Option (Option Prop×List (Bool×List C))
 | []=>some (none,[])
 | x::r=>match qH T s x,qG s r with
   | some (p,q),some (p',l)=>some (Kf p p',q::l)
   | _,_=>none
noncomputable def Uj (s:VS) (rs:List ResultVar):Option (Option Prop×D):=match qG T s rs with
 | some (p,[(false,[x])])=>some (p,.c x)
 | some (p,[(true,l)])=>some (p,.a l)
 | some (p,l)=>some (p,.t l)
 | none=>none
def dk:Nat->List D->aK
 | _,[]=>[]
 | k,d::l=>(k,d,[])::dk (k+1) l
end
noncomputable section
def eJ (l:aK) (t:Tmp):Option D:=List.rec none (λx _ ih=>Bool.rec ih (some x.2.1) (Nat.beq x.1 t)) l
def findF {α:Type} (t:Nat) (l:List (Nat×α)):Option α:=List.rec none (λx _ ih=>Bool.rec ih (some x.2) (Nat.beq x.1 t)) l
def cl (sl:aK) (x:Operand):Option D:=match x with
 | .tmp t=>eJ sl t
 | .const v=>DN v
 | .func f=>some (.c (.im (.fn f 0 λ_=>.v (.bool false))))
 | .global g=>some (.c (.im (.gp g)))
def zD (sl:aK) (l:List Operand):Option (List D):=List.rec (some []) (λx _ ih=>match cl sl x with
 | some d=>match ih with
   | some r=>some (d::r)
   | none=>none
 | none=>none) l
def WY (x:I):Option Value:=match x with
 | .v x=>some x
 | _=>none
def V2 (x:C):Option Value:=match x with
 | .im x=>WY x
 | _=>none
def Gy (d:Option D):Option Value:=match d with
 | some (.c x)=>V2 x
 | _=>none
def G8 (v:Value):Option Int:=match v with
 | .int .i64 n=>some n
 | _=>none
def A9 (v:Value):Option Bool:=match v with
 | .bool b=>some b
 | _=>none
def iu (d:Option D):Option Int:=match Gy d with
 | some v=>G8 v
 | none=>none
def jn (d:Option D):Option Bool:=match Gy d with
 | some v=>A9 v
 | none=>none
def dm (d:Option D):Option C:=match d with
 | some (.c x)=>some x
 | _=>none
def geB (b:Int):Bool:=match b with
 | .ofNat _=>true
 | .negSucc _=>false
def vR (op:BinOp) (a b:Int):Option Value:=match op with
 | .add=>some (.int .i64 (IntKind.i64.wrap (a+b)))
 | .sub=>some (.int .i64 (IntKind.i64.wrap (a-b)))
 | .mul=>some (.int .i64 (IntKind.i64.wrap (a*b)))
 | .eql=>some (.bool (a==b))
 | .neq=>some (.bool (a != b))
 | .lss=>some (.bool (decide (a<b)))
 | .leq=>some (.bool (decide (a<=b)))
 | .gtr=>some (.bool (decide (a>b)))
 | .geq=>some (.bool (decide (a≥b)))
 | .quo=>Bool.rec (some (.int .i64 (IntKind.i64.wrap (a.tdiv b)))) none (b==0)
 | .rem=>Bool.rec (some (.int .i64 (a.tmod b))) none (b==0)
 | .and=>some (.int .i64 (IntKind.i64.wrap (BitVec.ofInt 64 a &&& BitVec.ofInt 64 b).toNat))
 | .andNot=>some (.int .i64 (IntKind.i64.wrap (BitVec.ofInt 64 a &&& ~~~(BitVec.ofInt 64 b)).toNat))
 | .shl=>Bool.rec none (some (.int .i64 (IntKind.i64.wrap (a*2 ^ (min b.toNat 64))))) (geB b)
 | .shr=>Bool.rec none (some (.int .i64 (a.fdiv (2 ^ (min b.toNat 64))))) (geB b)
 | _=>none
def at9 (T:dL) (t:Nat) (op:BinOp) (a b:Bool):Option Value:=match T.ty t with
 | some { kd:=.bool,.. }=>match op with
   | .eql=>some (.bool (a==b))
   | .neq=>some (.bool (!(a==b)))
   | _=>none
 | _=>none
def Hk (T:dL) (t:Nat) (op:BinOp) (u v:Value):Option Value:=match G8 u,G8 v with
 | some a,some b=>vR op a b
 | _,_=>match A9 u,A9 v with
   | some a,some b=>at9 T t op a b
   | _,_=>BZ op u v
def eqF (T:dL) (t:Nat) (op:BinOp) (l m:List C):Option D:=match T.eqs t with
 | some ks=>match I7 ks l m with
   | some b=>match op with
     | .eql=>some (bool b)
     | .neq=>some (bool (!b))
     | _=>none
   | none=>none
 | none=>none
def Uy (d:Option D):Option (List C):=match d with
 | some (.a l)=>some l
 | _=>none
def nR (x:I):Option Bool:=match x with
 | .v (.slice none _ _)=>some true
 | .v (.slice (some _) _ _)=>some false
 | .sl _ (_+1) _=>some false
 | _=>none
def Li (rs:List ag) (x:C):Option Bool:=match x with
 | .im x=>nR x
 | .sa r (_+1)=>match aV rs r with
   | some (.row _ _ _ _)=>some false
   | some (.arr _ _ _ _)=>some false
   | some (.bt _ _ _ _ _)=>some false
   | _=>none
 | _=>none
def isNil (y:Operand):Bool:=match y with
 | .const (.slice none 0 0)=>true
 | _=>false
def ve (T:dL) (s:VS) (op:BinOp) (t:Nat) (x:Operand):Option D:=match T.ty t with
 | some { kd:=.slice _,.. }=>match dm (cl s.sl x) with
   | some c=>match Li s.rs c with
     | some b=>match op with
       | .eql=>some (bool b)
       | .neq=>some (bool (!b))
       | _=>none
     | none=>none
   | none=>none
 | _=>none
def al0 (c:C):Option Bool:=match c with
 | .rt _ _ _=>some false
 | .im (.pt _ _)=>some false
 | .im (.v (.pointer none))=>some true
 | _=>none
def V9 (c:C):Option Bool:=match c with
 | .im (.fn _ _ _)=>some false
 | .dM _ _=>some false
 | .im (.v .nilFunc)=>some true
 | _=>none
def G4 (y:Operand):Bool:=match y with
 | .const (.pointer none)=>true
 | .const .nilFunc=>true
 | _=>false
def ad6 (y:Operand) (k:Kd) (c:C):Option Bool:=match y with
 | .const (.pointer none)=>match k with
   | .ptr _=>al0 c
   | _=>none
 | .const .nilFunc=>match k with
   | .func=>V9 c
   | _=>none
 | _=>none
def KA (T:dL) (s:VS) (op:BinOp) (t:Nat) (x y:Operand):Option D:=match T.ty t with
 | some ty=>match dm (cl s.sl x) with
   | some c=>match ad6 y ty.kd c with
     | some b=>match op with
       | .eql=>some (bool b)
       | .neq=>some (bool (!b))
       | _=>none
     | none=>none
   | none=>none
 | none=>none
def xS (T:dL) (s:VS) (op:BinOp) (t:Nat) (x y:Operand):Option D:=match isNil y with
 | true=>ve T s op t x
 | false=>match G4 y with
  | true=>KA T s op t x y
  | false=>match Gy (cl s.sl x),Gy (cl s.sl y) with
   | some u,some v=>match Hk T t op u v with
     | some z=>some (.v z)
     | none=>none
   | _,_=>match Uy (cl s.sl x),Uy (cl s.sl y) with
     | some l,some m=>eqF T t op l m
     | _,_=>none
def unF (s:VS) (op:UnOp) (x:Operand):Option D:=match op with
 | .not=>match jn (cl s.sl x) with
   | some b=>some (bool (!b))
   | none=>none
 | .neg=>match iu (cl s.sl x) with
   | some n=>some (int (IntKind.i64.wrap (0-n)))
   | none=>none
 | _=>none
def Ah (s:VS) (c x y:Operand):Option D:=match jn (cl s.sl c) with
 | some b=>match jn (Bool.rec (cl s.sl y) (cl s.sl x) b) with
   | some z=>some (bool z)
   | none=>none
 | none=>none
def wG (s:VS) (x:Operand):Option D:=match dm (cl s.sl x) with
 | some c=>match c with
   | .rt _ _ _=>some (.c c)
   | .dM _ _=>some (.c c)
   | .im (.pt _ _)=>some (.c c)
   | .im (.fn _ _ _)=>some (.c c)
   | _=>none
 | none=>none
def Pn (o sz:Nat) (c:C):Option D:=match c with
 | .rt r i j=>some (.c (.rt r i (j+o)))
 | .im (.pt n get)=>Bool.rec none (some (.c (.im (.pt (n-o) λj=>get (o+j))))) (Nat.ble (o+sz) n)
 | _=>none
def Db (T:dL) (s:VS) (t:Nat) (x:Operand) (f:Nat):Option D:=match T.ty t with
 | some { kd:=.struct fs,.. }=>match aV fs f with
   | some o=>match dm (cl s.sl x) with
     | some c=>Bool.rec none (Pn o.1 o.2 c) (Nat.blt 0 o.2)
     | none=>none
   | none=>none
 | _=>none
def cM (i:Int) (n:Nat):Bool:=match i with
 | .ofNat k=>Nat.blt k n
 | .negSucc _=>false
def ri (rs:List ag) (size:Nat) (i:Int) (c:C):Option D:=match c with
 | .im (.sl sz n get)=>Bool.rec none (Bool.rec none (some (.c (.im (.pt sz (get i.toNat))))) (cM i n)) (Nat.beq sz size)
 | .sa r m=>match aV rs r with
   | some (.row _ sz _ _)=>Bool.rec none (Bool.rec none (some (.c (.rt r i.toNat 0))) (cM i m)) (Nat.beq sz size)
   | some (.arr _ sz _ _)=>Bool.rec none (Bool.rec none (some (.c (.rt r i.toNat 0))) (cM i m)) (Nat.beq sz size)
   | some (.bt _ sz _ _ _)=>Bool.rec none (Bool.rec none (some (.c (.rt r i.toNat 0))) (cM i m)) (Nat.beq sz size)
   | _=>none
 | _=>none
def rQ (T:dL) (t:Nat):Option Ty:=match T.ty t with
 | some { kd:=.slice e,.. }=>T.ty e
 | _=>none
def LI (T:dL) (t:Nat):Option (Nat×Ty):=match T.ty t with
 | some { kd:=.array n e,.. }=>match T.ty e with
   | some y=>some (n,y)
   | none=>none
 | _=>none
def Bo (n size:Nat) (i:Int) (c:C):Option D:=match c with
 | .rt r k j=>Bool.rec none (some (.c (.rt r k (j+i.toNat*size)))) (cM i n)
 | _=>none
def IC (T:dL) (n size:Nat) (i:Int) (q:Nat):Option D:=match T.gv q with
 | some g=>Bool.rec none (Bool.rec none (some (.c (.im (.pt size λj=>g.2 (i.toNat*size+j))))) (cM i n)) (Nat.beq (n*size) g.1)
 | none=>none
def xi (T:dL) (n size:Nat) (i:Int) (c:C):Option D:=match c with
 | .im (.gp q)=>IC T n size i q
 | _=>Bo n size i c
def nw (T:dL) (s:VS) (t:Nat) (x ix:Operand):Option D:=match LI T t with
 | some a=>match iu (cl s.sl ix) with
   | some i=>match dm (cl s.sl x) with
     | some c=>xi T a.1 a.2.size i c
     | none=>none
   | none=>none
 | none=>match rQ T t with
 | some y=>match iu (cl s.sl ix) with
   | some i=>match dm (cl s.sl x) with
     | some c=>ri s.rs y.size i c
     | none=>none
   | none=>none
 | none=>none
def sC (y:Ty) (l:List C) (j:Nat):Option D:=match y.kd.agg with
 | true=>match takeN y.size (w9 j l) with
   | some cs=>some (.a cs)
   | none=>none
 | false=>match aV l j with
   | some c=>some (.c c)
   | none=>none
def Ry (y:Ty) (n:Nat) (get:Nat->I):Option D:=match y.kd.agg with
 | true=>Bool.rec none (some (.a (dT get 0 y.size))) (Nat.ble y.size n)
 | false=>Bool.rec none (some (.c (.im (get 0)))) (Nat.blt 0 n)
def Ki (y:Ty) (sz n:Nat) (get:Nat->Nat->I) (i j:Nat):Option D:=match y.kd.agg with
 | true=>Bool.rec none (Bool.rec none (some (.a (dT (get i) j y.size))) (Nat.blt i n)) (Nat.ble (j+y.size) sz)
 | false=>Bool.rec none (Bool.rec none (some (.c (.im (get i j)))) (Nat.blt i n)) (Nat.blt j sz)
def FL (y:Ty) (sz n:Nat) (f:Nat->Option C) (i j:Nat):Option D:=match y.kd.agg with
 | true=>Bool.rec none (Bool.rec none (match pN f j y.size with
   | some l=>some (.a l)
   | none=>none) (Nat.blt i n)) (Nat.ble (j+y.size) sz)
 | false=>Bool.rec none (Bool.rec none (match f j with
   | some c=>some (.c c)
   | none=>none) (Nat.blt i n)) (Nat.blt j sz)
def zg (y:Ty) (x:Option ag) (i j:Nat):Option D:=match x with
 | some (.box l)=>match i with
   | 0=>sC y l j
   | _+1=>none
 | some (.row _ sz _ l)=>sC y l (i*sz+j)
 | some (.arr _ sz n get)=>Ki y sz n get i j
 | some (.bt _ sz n get et)=>FL y sz n (zX get et i) i j
 | _=>none
def V4 (T:dL) (y:Ty) (q:Nat):Option D:=match T.gl q with
 | some z=>match y.kd.agg with
   | true=>none
   | false=>some (.c (.im z))
 | none=>none
def sc (T:dL) (rs:List ag) (y:Ty) (c:C):Option D:=match c with
 | .rt r i j=>zg y (aV rs r) i j
 | .im (.gp q)=>V4 T y q
 | .im (.pt n get)=>Ry y n get
 | _=>none
def lg (T:dL) (s:VS) (t:Nat) (x:Operand):Option D:=match T.ty t with
 | some y=>match dm (cl s.sl x) with
   | some c=>sc T s.rs y c
   | none=>none
 | none=>none
def ZP (d:Option D):Option (List (Bool×List C)):=match d with
 | some (.t l)=>some l
 | _=>none
def rZ (s:VS) (x:Operand) (k:Nat):Option D:=match ZP (cl s.sl x) with
 | some l=>match aV l k with
   | some (true,cs)=>some (.a cs)
   | some (false,[c])=>some (.c c)
   | _=>none
 | none=>none
def vo (qT:List (Nat×Nat)) (sl:aK) (parts:List (Nat×Operand)):List C->Option (List C):=List.rec (λl=>some l) (λp _ ih l=>
 match aV qT p.1 with
 | some o=>match cl sl p.2 with
   | some d=>match d.cells with
     | some cs=>Bool.rec none (match put l o.1 cs with
       | some l'=>ih l'
       | none=>none) (Nat.beq cs.length o.2&&Nat.blt 0 o.2)
     | none=>none
   | none=>none
 | none=>none) parts
def Dz (T:dL) (s:VS) (t:Nat) (parts:List (Nat×Operand)):Option D:=match T.ty t with
 | some y=>match y.kd with
   | .struct fs=>match xK y with
     | some z=>match vo fs s.sl parts z with
       | some l=>some (.a l)
       | none=>none
     | none=>none
   | _=>none
 | none=>none
def JP (s:VS) (fn:Fn) (first:List Operand) (eA:List Operand):Option D:=match fn with
 | .func f=>match first with
   | []=>match zD s.sl eA with
     | some []=>some (.c (.dM f []))
     | some [.c (.rt r 0 0)]=>some (.c (.dM f [r]))
     | some [.c (.rt r 0 0),.c (.rt r' 0 0)]=>some (.c (.dM f [r,r']))
     | some [.c (.rt r 0 0),.c (.rt r' 0 0),.c (.rt r'' 0 0)]=>some (.c (.dM f [r,r',r'']))
     | _=>none
   | _=>none
 | _=>none
def aq1 (c:C):Option D:=match c with
 | .im (.sl _ n _)=>some (int n)
 | .sa _ m=>some (int m)
 | .im (.v (.slice _ n _))=>some (int n)
 | _=>none
def Nj (T:dL) (s:VS) (ts:List TypeId) (xs:List Operand):Option D:=match ts,xs with
 | [t],[x]=>match T.ty t with
   | some { kd:=.slice _,.. }=>match dm (cl s.sl x) with
     | some c=>aq1 c
     | none=>none
   | some { kd:=.str,.. }=>match Gy (cl s.sl x) with
     | some (.string b)=>some (int b.size)
     | _=>none
   | _=>none
 | _,_=>none
def PS (s:VS) (xs:List Operand):Option D:=match xs with
 | [x,y]=>match iu (cl s.sl x),iu (cl s.sl y) with
   | some a,some b=>some (int (if b>a then b else a))
   | _,_=>none
 | _=>none
def O1 (s:VS) (xs:List Operand):Option D:=match xs with
 | [x,y]=>match iu (cl s.sl x),iu (cl s.sl y) with
   | some a,some b=>some (int (if b<a then b else a))
   | _,_=>none
 | _=>none
def IX (T:dL) (s:VS) (b:Builtin) (ts:List TypeId) (xs:List Operand):Option D:=match b with
 | .len=>Nj T s ts xs
 | .max=>PS s xs
 | .min=>O1 s xs
 | _=>none
def HP (T:dL) (s:VS) (c:Call):Option D:=match c.callee with
 | .builtin b=>IX T s b c.argTypes.toList c.args.toList
 | _=>none
def Ld (T:dL) (t:Nat):Bool:=match T.ty t with
 | some { kd:=.map k e,.. }=>match T.ty k,T.ty e with
   | some { kd:=.int,.. },some { zero:=.bool false,.. }=>true
   | _,_=>false
 | _=>false
def Rg (rs:List ag) (c:C):Option (List Int):=match c with
 | .mp r=>match aV rs r with
   | some (.set l)=>some l
   | _=>none
 | .im (.st l)=>some l
 | _=>none
def fmK (T:dL) (t:Nat):Bool:=match T.ty t with
 | some { kd:=.map k e,.. }=>match T.ty k,T.ty e with
   | some { kd:=.int,.. },some { zero:=.nilFunc,.. }=>true
   | _,_=>false
 | _=>false
def QC (n:Int) (l:List (Int×FuncId)):Option FuncId:=List.rec none (λx _ ih=>Bool.rec ih (some x.2) (n==x.1)) l
def fmC (x:Option FuncId):C:=match x with
 | some f=>.im (.fn f 0 λ_=>.v (.bool false))
 | none=>.im (.v .nilFunc)
def fmB (x:Option FuncId):Bool:=match x with
 | some _=>true
 | none=>false
def fmD (ok:Bool) (x:Option FuncId):D:=match ok with
 | true=>.t [(false,[fmC x]),(false,[.im (.v (.bool (fmB x)))])]
 | false=>.c (fmC x)
def fmF (T:dL) (s:VS) (t:Nat) (x i:Operand) (ok:Bool):Option D:=Bool.rec none (match dm (cl s.sl x),iu (cl s.sl i) with
 | some (.im (.fm l)),some n=>some (fmD ok (QC n l))
 | _,_=>none) (fmK T t)
def n9 (T:dL) (s:VS) (t:Nat) (x i:Operand) (ok:Bool):Option D:=match ok with
 | true=>fmF T s t x i true
 | false=>Bool.rec (fmF T s t x i false) (match dm (cl s.sl x),iu (cl s.sl i) with
   | some c,some n=>match Rg s.rs c with
     | some l=>some (bool (dX n l))
     | none=>none
   | _,_=>none) (Ld T t)
def GU (i:Int) (n:Nat):Bool:=match i with
 | .ofNat k=>Nat.ble k n
 | .negSucc _=>false
def nS (rs:List ag) (c:C) (h:Int):Option D:=match c with
 | .im (.sl sz n get)=>Bool.rec none (some (.c (.im (.sl sz h.toNat get)))) (GU h n)
 | .sa r m=>match aV rs r with
   | some (.row _ _ _ _)=>Bool.rec none (some (.c (.sa r h.toNat))) (GU h m)
   | some (.arr _ _ _ _)=>Bool.rec none (some (.c (.sa r h.toNat))) (GU h m)
   | some (.bt _ _ _ _ _)=>Bool.rec none (some (.c (.sa r h.toNat))) (GU h m)
   | _=>none
 | .im (.v (.slice none 0 0))=>Bool.rec none (some (.c c)) (h==0)
 | _=>none
def ym (sz:Nat) (c:C) (h:Int):Option D:=match c with
 | .im (.sl cF n get)=>Bool.rec none (some (.c (.im (.sl cF (n-h.toNat) λi j=>get (h.toNat+i) j)))) (GU h n&&Nat.beq cF sz)
 | _=>none
def lL (T:dL) (s:VS) (t:Nat) (x:Operand) (lo hi mx:Option Operand):Option D:=match lo,hi,mx with
 | none,some h,none=>match rQ T t with
   | some _=>match dm (cl s.sl x),iu (cl s.sl h) with
     | some c,some n=>nS s.rs c n
     | _,_=>none
   | none=>none
 | some l,none,none=>match rQ T t with
   | some y=>match dm (cl s.sl x),iu (cl s.sl l) with
     | some c,some n=>ym y.size c n
     | _,_=>none
   | none=>none
 | _,_,_=>none
def SS (T:dL) (s:VS) (t t':Nat) (x:Operand):Option D:=match T.ty t,T.ty t' with
 | some _,some { kd:=.int,.. }=>match dm (cl s.sl x) with
   | some (.im (.v (.int .u8 n)))=>some (int (IntKind.i64.wrap n))
   | _=>none
 | _,_=>none
def fh (T:dL) (s:VS) (op:Op):Option D:=match op with
 | .move x=>cl s.sl x
 | .assign x=>cl s.sl x
 | .pick c x y=>Ah s c x y
 | .binOp o t x y _=>xS T s o t x y
 | .unOp o _ x=>unF s o x
 | .nilCheck x=>wG s x
 | .fieldAddr t x f=>Db T s t x f
 | .indexAddr t x i=>nw T s t x i
 | .load t x=>lg T s t x
 | .extract x k=>rZ s x k
 | .build t ps=>Dz T s t ps.toList
 | .makeFunc fn first eA=>JP s fn first.toList eA.toList
 | .call c=>HP T s c
 | .lookup t x i ok=>n9 T s t x i ok
 | .slice t x lo hi mx=>lL T s t x lo hi mx
 | .convert t t' x=>SS T s t t' x
 | _=>none
structure Hint where
 ar6:FuncId->Nat->Option (List Tmp)
 mode:FuncId->Nat
 cD:Tmp->Bool:=λ_=>false
structure Lo where
 call:FuncId->List D->List ag->Option (D×List ag)
 NW:Nat->List D->List ag->Option (D×List ag)
 diff:List ag->List ag->Option (List (Nat×ag))
 wr:FuncId->List D->List ag->Option (D×Nat×ag)
def rA (N:Nat) (s:VS) (dst:Option Tmp) (d:D):Option VS:=match dst with
 | none=>some s
 | some t=>Bool.rec none (some { s with sl:=(t,d,[])::s.sl }) (Nat.blt t N)
def Ib (r:Nat) (sz:Nat) (get:Nat->Nat->I) (x:C):C:=match x with
 | .sa q m=>Bool.rec x (.im (.sl sz m get)) (Nat.beq q r)
 | _=>x
def Uq (r:Nat) (sz:Nat) (get:Nat->Nat->I) (d:D):D:=match d with
 | .c x=>.c (Ib r sz get x)
 | .a l=>.a (l.map (Ib r sz get))
 | .t l=>.t (l.map λx=>(x.1,x.2.map (Ib r sz get)))
def K2 (r:Nat) (sz:Nat) (get:Nat->Nat->I) (x:ag):ag:=match x with
 | .box l=>.box (l.map (Ib r sz get))
 | .row e k n l=>.row e k n (l.map (Ib r sz get))
 | _=>x
def Kl (r sz:Nat) (s:VS) (l:Option (List I)):Option VS:=match l with
 | some is=>some { s with sl:=s.sl.map (λx=>(x.1,Uq r sz (flat sz is) x.2.1,x.2.2)),rs:=setAt (s.rs.map (K2 r sz (flat sz is))) r .dead }
 | none=>none
def sK (r sz:Nat) (get:Nat->Nat->I) (s:VS):VS:={ s with sl:=s.sl.map (λx=>(x.1,Uq r sz get x.2.1,x.2.2)),rs:=setAt (s.rs.map (K2 r sz get)) r .dead }
def freeze (r:Nat) (s:VS):Option VS:=match aV s.rs r with
 | some (.row _ sz _ l)=>Kl r sz s (CY l)
 | some (.arr _ sz _ get)=>some (sK r sz get s)
 | some (.bt _ sz _ get none)=>some (sK r sz (λi j=>oI (get i j)) s)
 | some .dead=>some s
 | _=>none
def gK (l:List Nat) (s:VS):Option VS:=List.rec (λs=>some s) (λr _ ih s=>match freeze r s with
 | some s'=>ih s'
 | none=>none) l s
def ZQ (rec:List C->Option (List Nat)) (rs:List ag) (x:C):Option (List Nat):=match x with
 | .im _=>some []
 | .sa r _=>match aV rs r with
   | some (.row _ _ _ l)=>match rec l with
     | some m=>some (m++[r])
     | none=>none
   | some (.arr _ _ _ _)=>some [r]
   | some (.bt _ _ _ _ none)=>some [r]
   | _=>none
 | _=>none
def Gn (rec:List C->Option (List Nat)) (rs:List ag) (l:List C):Option (List Nat):=List.rec (some []) (λx _ ih=>match ZQ rec rs x with
 | some a=>match ih with
   | some b=>some (a++b)
   | none=>none
 | none=>none) l
def YM (rs:List ag) (k:Nat):List C->Option (List Nat):=Nat.rec (λ_=>none) (λ_ ih=>Gn ih rs) k
def IH (rs:List ag) (d:D):Option (List Nat):=match d with
 | .c x=>YM rs 6 [x]
 | .a l=>YM rs 6 l
 | .t _=>none
def vg (rs:List ag) (l:List D):Option (List Nat):=List.rec (some []) (λd _ ih=>match IH rs d,ih with
 | some a,some b=>some (a++b)
 | _,_=>none) l
inductive cm where
 | val (d:D)
 | wr (d:Option D) (ws:List (Nat×ag))
 | all (d:D) (rs:List ag)
 | cD (l:List Nat)
def vI (b:Nat) (s:VS) (x:Operand):Option cm:=match cl s.sl x with
 | some d=>match d.cells with
   | some l=>some (.wr (some (.c (.rt b 0 0))) [(b,.box l)])
   | none=>none
 | none=>none
def lu (T:dL) (b:Nat) (t:Nat):Option cm:=match T.ty t with
 | some y=>match xK y with
   | some l=>some (.wr (some (.c (.rt b 0 0))) [(b,.box l)])
   | none=>none
 | none=>none
def IZ (get:Nat->Nat->I) (i j:Nat) (ys:List I):Nat->Nat->I:=λi' j'=>Bool.rec (get i' j') (iv ys (j'-j)) (Nat.beq i' i&&(Nat.ble j j'&&Nat.blt j' (j+ys.length)))
def oP (rs:List ag) (l:List C):Option cm:=match YM rs 6 l with
 | some (r::m)=>some (.cD (r::m))
 | _=>none
def Mf (get:Nat->Nat->O) (i j:Nat) (ys:List I):Nat->Nat->O:=λi' j'=>Bool.rec (get i' j') (.im (iv ys (j'-j))) (Nat.beq i' i&&(Nat.ble j j'&&Nat.blt j' (j+ys.length)))
noncomputable def Ll (ys:List C):List Fc->Nat->Option (List Fc):=List.rec (λl _=>some l) (λy _ ih l o=>match aV l o with
 | some _=>ih (setAt l o (.c y)) (o+1)
 | none=>none) ys
noncomputable def pw (el sz n:Nat) (get:Nat->Nat->O) (et:Option (Nat×List Fc)) (size r i j:Nat) (cs:List C):Option cm:=match CY cs with
 | some ys=>Bool.rec none (Bool.rec none (some (.wr none [(r,.bt el sz n (Mf get i j ys) et)])) (Nat.blt i n)) (Nat.ble (j+size) sz)
 | none=>none
noncomputable def rv (el sz n:Nat) (get:Nat->Nat->O) (et:Option (Nat×List Fc)) (size r i j:Nat) (cs:List C):Option cm:=match et with
 | none=>pw el sz n get et size r i j cs
 | some x=>Bool.rec (pw el sz n get et size r i j cs) (match Ll cs x.2 j with
   | some l=>Bool.rec none (some (.wr none [(r,.bt el sz n get (some (x.1,l)))])) (Nat.ble (j+size) sz)
   | none=>none) (Nat.beq i x.1)
def mo (rs:List ag) (size r i j:Nat) (cs:List C):Option cm:=match aV rs r with
 | some (.box l)=>match i with
   | 0=>match put l j cs with
     | some l'=>some (.wr none [(r,.box l')])
     | none=>none
   | _+1=>none
 | some (.row el sz n l)=>match put l (i*sz+j) cs with
   | some l'=>some (.wr none [(r,.row el sz n l')])
   | none=>none
 | some (.arr el sz n get)=>match CY cs with
   | some ys=>Bool.rec none (Bool.rec none (some (.wr none [(r,.arr el sz n (IZ get i j ys))])) (Nat.blt i n)) (Nat.ble (j+size) sz)
   | none=>oP rs cs
 | some (.bt el sz n get et)=>rv el sz n get et size r i j cs
 | _=>none
def gU (T:dL) (s:VS) (dst:Option Tmp) (t:Nat) (x v:Operand):Option cm:=match dst with
 | some _=>none
 | none=>match T.ty t,cl s.sl v with
   | some y,some d=>match d.cells with
     | some cs=>Bool.rec none (match dm (cl s.sl x) with
       | some (.rt r i j)=>mo s.rs y.size r i j cs
       | _=>none) (Nat.beq cs.length y.size&&Nat.blt 0 y.size)
     | none=>none
   | _,_=>none
def oU (sz:Nat) (sl:aK) (parts:List (Nat×Operand)):List C->Option (List C):=List.rec (λl=>some l) (λp _ ih l=>
 match cl sl p.2 with
 | some d=>match d.cells with
   | some cs=>Bool.rec none (match put l (p.1*sz) cs with
     | some l'=>ih l'
     | none=>none) (Nat.beq cs.length sz&&Nat.blt 0 sz)
   | none=>none
 | none=>none) parts
def KW (cD:Bool) (b el sz n:Nat) (l:List C):cm:=match cD with
 | false=>.wr (some (.c (.sa b n))) [(b,.row el sz n l)]
 | true=>match CY l with
   | some is=>.val (.c (.im (.sl sz n (flat sz is))))
   | none=>.wr (some (.c (.sa b n))) [(b,.row el sz n l)]
def iW:Nat->Nat->I:=λ_ _=>.v (.bool false)
def JS (cD:Bool) (b el sz n:Nat) (l:List C):cm:=match n with
 | 0=>match cD with
   | false=>.wr (some (.c (.sa b 0))) [(b,.arr el sz 0 iW)]
   | true=>.wr (some (.c (.sa b 0))) [(b,.row el sz 0 l)]
 | n+1=>KW cD b el sz (n+1) l
def rU (hi:Hint) (dst:Option Tmp):Bool:=match dst with
 | some t=>hi.cD t
 | none=>false
theorem jO (cD:Bool) (b el sz n:Nat) (l:List C):JS cD b el sz n l=.wr (some (.c (.sa b n))) [(b,.row el sz n l)]∨(∃ is,CY l=some is/\JS cD b el sz n l=.val (.c (.im (.sl sz n (flat sz is)))))∨(n=0/\JS cD b el sz n l=.wr (some (.c (.sa b 0))) [(b,.arr el sz 0 iW)]):=by
 cases n with
 | zero=>cases cD with
   | false=>exact .inr (.inr ⟨rfl,rfl⟩)
   | true=>exact .inl rfl
 | succ n=>
   show KW cD b el sz (n+1) l=_∨(∃ is,CY l=some is/\KW cD b el sz (n+1) l=_)∨_
   unfold KW
   cases cD with
   | false=>exact .inl rfl
   | true=>
     cases h:CY l with
     | none=>exact .inl rfl
     | some is=>exact .inr (.inl ⟨is,rfl,rfl⟩)
def MN (T:dL) (b:Nat) (s:VS) (cD:Bool) (t n:Nat) (parts:List (Nat×Operand)):Option cm:=match T.ty t with
 | some { kd:=.slice el,.. }=>match T.ty el with
   | some y=>match xK y with
     | some z=>match oU y.size s.sl parts (Sb z n) with
       | some l=>Bool.rec none (some (JS cD b el y.size n l)) (Nat.blt 0 y.size&&Nat.ble (n*y.size) 1000000)
       | none=>none
     | none=>none
   | none=>none
 | _=>none
def b5 (n bytes:Nat):Bool:=Nat.ble n maxLen&&Nat.ble (n*bytes) 140737488355328
def Eb (el sz k:Nat) (l':List C) (bytes b:Nat) (rs:List ag) (c:C):Option cm:=match c with
 | .im (.v (.slice none 0 0))=>match k with
   | 0=>some (.val (.c c))
   | _+1=>Bool.rec none (some (.wr (some (.c (.sa b k))) [(b,.row el sz k l')])) (b5 k bytes)
 | .sa r m=>match aV rs r with
   | some (.row pF cF n l)=>Bool.rec none (Bool.rec none (some (.wr (some (.c (.sa b (n+k)))) [(r,.dead),(b,.row el sz (n+k) (l++l'))]))
     (Nat.beq m n&&b5 (n+k) bytes)) (Nat.beq el pF&&Nat.beq sz cF)
   | some (.bt pF cF n get none)=>match k with
     | 1=>Bool.rec none (Bool.rec none (some (.wr (some (.c (.sa b (n+1)))) [(r,.dead),(b,.bt el sz (n+1) get (some (n,l'.map Fc.c)))]))
       (Nat.beq m n&&b5 (n+1) bytes)) (Nat.beq el pF&&Nat.beq sz cF)
     | _=>none
   | _=>none
 | _=>none
def vE (get:Nat->Nat->I) (sz:Nat) (i:Nat) (n:Nat):List C:=Nat.rec (λ_=>[]) (λ_ ih i=>dT (get i) 0 sz++ih (i+1)) n i
def gA (n:Nat) (get get':Nat->Nat->I):Nat->Nat->I:=λi j=>Bool.rec (get' (i-n) j) (get i j) (Nat.blt i n)
def qV (el sz k:Nat) (get':Nat->Nat->I) (bytes b:Nat) (rs:List ag) (c:C):Option cm:=match c with
 | .im (.v (.slice none 0 0))=>Bool.rec none (some (.wr (some (.c (.sa b k))) [(b,.arr el sz k get')])) (b5 k bytes)
 | .sa r m=>match aV rs r with
   | some (.arr pF cF n get)=>Bool.rec none (Bool.rec none (Bool.rec none (some (.wr (some (.c (.sa b (n+k)))) [(r,.dead),(b,.arr el sz (n+k) (gA n get get'))]))
     (Nat.beq m n)) (b5 (n+k) bytes)) (Nat.beq el pF&&Nat.beq sz cF)
   | _=>none
 | _=>none
def xY (rs:List ag) (c:C):Option (Nat×Nat×List C):=match c with
 | .im (.sl sz k get)=>some (sz,k,vE get sz 0 k)
 | .im (.v (.slice none 0 0))=>some (0,0,[])
 | .sa q k=>match aV rs q with
   | some (.row _ sz n l)=>Bool.rec none (match takeN (k*sz) l with
     | some l'=>some (sz,k,l')
     | none=>none) (Nat.ble k n)
   | some (.arr _ sz n get)=>Bool.rec none (some (sz,k,vE get sz 0 k)) (Nat.ble k n)
   | _=>none
 | _=>none
def se (sz:Nat) (rs:List ag) (c:C):Option (Nat×(Nat->Nat->I)):=match c with
 | .im (.sl cF k get)=>Bool.rec none (some (k,get)) (Nat.beq cF sz)
 | .im (.v (.slice none 0 0))=>some (0,λ_ _=>.v (.bool false))
 | .sa q k=>match aV rs q with
   | some (.row _ cF n l)=>Bool.rec none (match takeN (k*sz) l with
     | some l'=>match CY l' with
       | some is=>some (k,flat sz is)
       | none=>none
     | none=>none) (Nat.ble k n&&Nat.beq cF sz)
   | some (.arr _ cF n get)=>Bool.rec none (Bool.rec none (some (k,get)) (Nat.ble k n)) (Nat.beq cF sz)
   | _=>none
 | _=>none
def MJ (rs:List ag) (c src:C):Bool:=match c with
 | .sa r _=>match aV rs r with
   | some (.arr _ _ _ _)=>true
   | _=>false
 | .im (.v (.slice none 0 0))=>match src with
   | .im (.sl _ _ _)=>true
   | .sa q _=>match aV rs q with
     | some (.arr _ _ _ _)=>true
     | _=>false
   | _=>false
 | _=>false
def DA (ty:Ty) (el b:Nat) (rs:List ag) (c src:C):Option cm:=match se ty.size rs src with
 | some (k,get')=>Bool.rec none (qV el ty.size k get' ty.bytes b rs c) (Nat.blt 0 ty.size)
 | none=>oP rs [src]
def pX (T:dL) (el b:Nat) (rs:List ag) (x src:Option C):Option (Option cm):=match x,src with
 | some c,some src=>match MJ rs c src with
   | true=>match T.ty el with
     | some ty=>some (DA ty el b rs c src)
     | none=>some none
   | false=>none
 | _,_=>none
def oW (T:dL) (el:Nat) (b:Nat) (rs:List ag) (x src:Option C):Option cm:=match T.ty el with
 | some ty=>match src with
   | some src=>match xY rs src with
     | some (sz,k,l')=>match x with
       | some c=>match k with
         | 0=>Bool.rec none (Eb el ty.size 0 [] ty.bytes b rs c) (Nat.blt 0 ty.size)
         | _+1=>Bool.rec none (Eb el sz k l' ty.bytes b rs c) (Nat.beq sz ty.size&&Nat.blt 0 sz)
       | none=>none
     | none=>none
   | none=>none
 | none=>none
def oR (T:dL) (b:Nat) (s:VS) (ts:List TypeId) (xs:List Operand):Option cm:=match ts,xs with
 | [t,t'],[x,y]=>Bool.rec none (match T.ty t with
   | some { kd:=.slice el,.. }=>match pX T el b s.rs (dm (cl s.sl x)) (dm (cl s.sl y)) with
     | some e=>e
     | none=>oW T el b s.rs (dm (cl s.sl x)) (dm (cl s.sl y))
   | _=>none) (Nat.beq t t')
 | _,_=>none
def zO (lo:Lo) (rs:List ag) (f:FuncId) (ds:List D):Option D:=match dn rs ds with
 | some is=>match lo.call f is [] with
   | some (d,aJ)=>dF aJ d
   | none=>none
 | none=>none
def yC (lo:Lo) (rs:List ag) (f:FuncId) (ds:List D) (b:Nat):Option cm:=match dn rs ds with
 | some is=>match lo.call f is [] with
   | some (.c (.sa q m),aJ)=>match aV aJ q with
     | some (.row el sz n l)=>Bool.rec none (some (.wr (some (.c (.sa b n))) [(b,.row el sz n l)])) (Nat.beq m n&&fI l)
     | some (.arr el sz n get)=>Bool.rec none (some (.wr (some (.c (.sa b n))) [(b,.arr el sz n get)])) (Nat.beq m n)
     | _=>none
   | some (d,aJ)=>match dF aJ d with
     | some d'=>Bool.rec none (some (.val d')) (ir d')
     | none=>none
   | none=>none
 | none=>none
def jk (rs:List ag) (ds:List D) (e:cm):Option cm:=match vg rs ds with
 | some (r::l)=>some (.cD (r::l))
 | some []=>some e
 | none=>none
def tO (lo:Lo) (rs:List ag) (f:FuncId) (ds:List D):Option cm:=match lo.call f ds rs with
 | some (d,aJ)=>some (.all d aJ)
 | none=>none
def gR (lo:Lo) (rs:List ag) (f:FuncId) (ds:List D):Option cm:=match zO lo rs f ds with
 | some d=>Bool.rec (Bool.rec none (jk rs ds (.val d)) (ki d)) (some (.val d)) (ir d)
 | none=>none
def gf (lo:Lo) (rs:List ag) (f:FuncId) (ds:List D) (b:Nat):Option cm:=match yC lo rs f ds b with
 | some (.val d)=>some (.val d)
 | some (.wr d [(q,.row el sz n l)])=>Bool.rec (jk rs ds (.wr d [(q,.row el sz n l)])) (some (.wr d [(q,.row el sz n l)])) (fe l)
 | some (.wr d [(q,.arr el sz n get)])=>jk rs ds (.wr d [(q,.arr el sz n get)])
 | _=>none
def U0 (b:Nat) (c:C):Option C:=match c with
 | .im x=>some (.im x)
 | .ow 0 j=>some (.ow b j)
 | _=>none
def zT (lo:Lo) (rs:List ag) (f:FuncId) (ds:List D) (b:Nat):Option cm:=Bool.rec none (match dn rs ds with
 | some is=>match lo.call f is [] with
   | some (.a cs,[.own L])=>match rz (U0 b) cs with
     | some oH=>some (.wr (some (.a oH)) [(b,.own L)])
     | none=>none
   | _=>none
 | none=>none) (fk ds)
def SC (lo:Lo) (rs:List ag) (f:FuncId) (ds:List D):Option cm:=match lo.wr f ds rs with
 | some (d,q,x)=>Bool.rec none (some (.wr (some d) [(q,x)])) (Nat.blt q rs.length)
 | none=>none
def oQ (lo:Lo) (hi:Hint) (rs:List ag) (b:Nat) (f:FuncId) (ds:List D):Option cm:=match hi.mode f with
 | 0=>gR lo rs f ds
 | 1=>tO lo rs f ds
 | 2=>gf lo rs f ds b
 | 4=>SC lo rs f ds
 | 5=>zT lo rs f ds b
 | _=>Bool.rec (tO lo rs f ds) (gR lo rs f ds) (fk ds)
def D6 (lo:Lo) (rs:List ag) (r:Nat) (ds:List D):Option cm:=match lo.NW r ds rs with
 | some (d,aJ)=>some (.all d aJ)
 | none=>none
def pV (c:C):Option (FuncId×List D):=match c with
 | .dM f eA=>some (f,eA.map λr=>.c (.rt r 0 0))
 | .im (.fn f n cap)=>some (f,(dT cap 0 n).map .c)
 | _=>none
def ml (lo:Lo) (hi:Hint) (b:Nat) (s:VS) (f:Operand) (xs:List Operand):Option cm:=match dm (cl s.sl f),zD s.sl xs with
 | some c,some ds=>match c with
   | .yl r=>D6 lo s.rs r ds
   | _=>match pV c with
     | some (g,eA)=>oQ lo hi s.rs b g (ds++eA)
     | none=>none
 | _,_=>none
def gG (T:dL) (lo:Lo) (hi:Hint) (b:Nat) (s:VS) (c:Call):Option cm:=match c.callee with
 | .builtin .append=>oR T b s c.argTypes.toList c.args.toList
 | .value f=>ml lo hi b s f c.args.toList
 | _=>none
def ld (T:dL) (b t:Nat) (r:Option Operand):Option cm:=match r,T.ty t with
 | none,some { kd:=.map _ _,.. }=>some (.wr (some (.c (.mp b))) [(b,.set [])])
 | _,_=>none
def mW (T:dL) (b:Nat) (s:VS) (t:Nat) (l c:Operand):Option cm:=match T.ty t with
 | some { kd:=.slice el,.. }=>match T.ty el with
   | some y=>match xK y with
     | some z=>match iu (cl s.sl l),iu (cl s.sl c) with
       | some (.ofNat n),some (.ofNat m)=>match CY z with
         | some is=>Bool.rec none (Bool.rec none (Bool.rec none (some (.wr (some (.c (.sa b n))) [(b,.arr el y.size n (λ_=>iv is))])) (Nat.beq n m)) (Nat.ble n maxLen&&Nat.ble (n*y.bytes) 281474976710656)) (Nat.blt 0 y.size)
         | none=>none
       | _,_=>none
     | none=>none
   | none=>none
 | _=>none
def mB (T:dL) (s:VS) (dst:Option Tmp) (t:Nat) (m k v:Operand):Option cm:=match dst with
 | some _=>none
 | none=>Bool.rec none (match dm (cl s.sl m),iu (cl s.sl k),jn (cl s.sl v) with
   | some (.mp r),some n,some true=>match aV s.rs r with
     | some (.set l)=>some (.wr none [(r,.set (sV n l))])
     | _=>none
   | _,_,_=>none) (Ld T t)
def gM (T:dL) (lo:Lo) (hi:Hint) (b:Nat) (s:VS) (dst:Option Tmp) (op:Op):Option cm:=match op with
 | .box _ x=>vI b s x
 | .alloc t=>lu T b t
 | .store t x v=>gU T s dst t x v
 | .buildSlice t n ps=>MN T b s (rU hi dst) t n ps.toList
 | .call c=>gG T lo hi b s c
 | .makeMap t r=>ld T b t r
 | .makeSlice t l c=>mW T b s t l c
 | .mapUpdate t m k v=>mB T s dst t m k v
 | _=>none
def fO (T:dL) (lo:Lo) (hi:Hint) (b:Nat) (s:VS) (dst:Option Tmp) (op:Op):Option cm:=match fh T s op with
 | some d=>some (.val d)
 | none=>gM T lo hi b s dst op
def writes (ws:List (Nat×ag)) (rs:List ag):List ag:=List.rec (λrs=>rs) (λp _ ih rs=>ih (setAt rs p.1 p.2)) ws rs
def place (b:Nat) (x:ag) (rs:List ag):List ag:=Bool.rec (setAt rs b x) (rs++[x]) (Nat.beq b rs.length)
def EY (e:cm) (rs:List ag):List ag:=match e with
 | .wr _ [(q,x)]=>place q x rs
 | .wr _ [(q,x),(b,y)]=>place b y (setAt rs q x)
 | .all _ aJ=>aJ
 | _=>rs
def KK (N:Nat) (s:VS) (dst:Option Tmp) (d:Option D):Option VS:=match d with
 | some d=>rA N s dst d
 | none=>some s
def qb (N:Nat) (s:VS) (dst:Option Tmp) (e:cm):Option VS:=match e with
 | .val d=>rA N s dst d
 | .wr d ws=>KK N { s with rs:=EY (.wr d ws) s.rs } dst d
 | .all d rs=>rA N { s with rs:=rs } dst d
 | .cD _=>none
def OA (T:dL) (lo:Lo) (hi:Hint) (N:Nat) (dst:Option Tmp) (op:Op) (s:Option VS):Option VS:=match s with
 | some s=>match fO T lo hi s.rs.length s dst op with
   | some e=>qb N s dst e
   | none=>none
 | none=>none
def Ev (T:dL) (lo:Lo) (hi:Hint) (N:Nat) (s:VS) (dst:Option Tmp) (op:Op):Option VS:=match fO T lo hi s.rs.length s dst op with
 | some (.cD l)=>OA T lo hi N dst op (gK l s)
 | some e=>qb N s dst e
 | none=>none
def Jw (d:Option D) (want:Bool):Option Bool:=match d with
 | some (.t [])=>some false
 | _=>match jn d with
   | some x=>some (MG x want)
   | none=>none
def mY (ops:List Oper) (sl:aK) (g:Option (Nat×Bool)):Option Bool:=match g with
 | none=>some true
 | some (j,want)=>match aV ops j with
   | some p=>match p.dst with
     | some t=>Jw (eJ sl t) want
     | none=>none
   | none=>none
def opF (T:dL) (lo:Lo) (hi:Hint) (N:Nat) (ops:List Oper) (s:VS) (o:Oper):Option VS:=match mY ops s.sl o.guard with
 | some true=>Ev T lo hi N s o.dst o.op
 | some false=>rA N s o.dst (.t [])
 | none=>none
def Mz (T:dL) (lo:Lo) (hi:Hint) (N:Nat) (ops l:List Oper):VS->Option VS:=List.rec (λs=>some s) (λo _ ih s=>match opF T lo hi N ops s o with
 | some s'=>ih s'
 | none=>none) l
end
open Go.RowKit
inductive aB {α β:Type} (R:α->β->Prop):List α->List β->Prop
 | nil:aB R [] []
 | cons {x y l m}:R x y->aB R l m->aB R (x::l) (y::m)
theorem aB.mono {α β:Type} {R S:α->β->Prop} (h:∀ x y,R x y->S x y) {l:List α} {m:List β} (k:aB R l m):aB S l m:=by
 induction k with
 | nil=>exact .nil
 | cons a _ ih=>exact .cons (h _ _ a) ih
theorem aB.length {α β:Type} {R:α->β->Prop} {l:List α} {m:List β} (k:aB R l m):l.length=m.length:=by
 induction k with
 | nil=>rfl
 | cons _ _ ih=>simp [ih]
theorem aB.nth {α β:Type} {R:α->β->Prop} {l:List α} {m:List β} (k:aB R l m):∀ {i x},V.nth l i=some x->∃ y,m[i]?=some y/\R x y:=by
 induction k with
 | nil=>intro i x h; simp [V.nth] at h
 | cons a b ih=>
   intro i x h
   cases i with
   | zero=>simp only [V.nth,ak] at h; subst h; exact ⟨_,rfl,a⟩
   | succ i=>simp only [V.nth] at h; obtain ⟨y,h1,h2⟩:=ih h; exact ⟨y,by simpa using h1,h2⟩
theorem bp {α:Type}:∀ (l:List α) (i:Nat),nth l i=l[i]?
 | [],_=>rfl
 | _::_,0=>rfl
 | _::l,i+1=>by simp only [nth]; rw [bp l i]; simp
theorem aT {α:Type}:∀ (l:List α) (i:Nat) (x:α),setAt l i x=l.set i x
 | [],_,_=>rfl
 | _::_,0,_=>rfl
 | _::l,i+1,x=>by simp only [setAt]; rw [aT l i]; simp
theorem aB.set {α β:Type} {R:α->β->Prop} {l:List α} {m:List β} (k:aB R l m):∀ (i:Nat) {x:α} {y:β},R x y->aB R (l.set i x) (m.set i y):=by
 induction k with
 | nil=>intro i x y _; exact .nil
 | cons a b ih=>
   intro i x y h
   cases i with
   | zero=>exact .cons h b
   | succ i=>exact .cons a (ih i h)
theorem aB.append {α β:Type} {R:α->β->Prop} {l l':List α} {m m':List β} (k:aB R l m) (k':aB R l' m'):aB R (l++l') (m++m'):=by
 induction k with
 | nil=>exact k'
 | cons a _ ih=>exact .cons a ih
theorem mE:∀ (n:Nat) (l r:List C),takeN n l=some r->r=l.take n/\n<=l.length
 | 0,l,r,h=>by simp [takeN] at h; simp [h]
 | n+1,[],r,h=>by simp [takeN] at h
 | n+1,x::l,r,h=>by
   simp only [takeN] at h
   split at h
   .rename_i q hq
    obtain ⟨h1,h2⟩:=mE n l q hq
    simp only [ak] at h
    subst h
    simp [h1]; omega
   .simp at h
theorem xL:∀ (n:Nat) (l:List C),w9 n l=l.drop n
 | 0,_=>rfl
 | _+1,[]=>rfl
 | n+1,_::l=>by simp only [w9]; rw [xL n l]; rfl
theorem aB.drop {α β:Type} {R:α->β->Prop} {l:List α} {m:List β} (k:aB R l m):∀ n,aB R (l.drop n) (m.drop n):=by
 induction k with
 | nil=>intro n; simp; exact .nil
 | cons a b ih=>
   intro n
   cases n with
   | zero=>exact .cons a b
   | succ n=>simpa using ih n
theorem aB.take {α β:Type} {R:α->β->Prop} {l:List α} {m:List β} (k:aB R l m):∀ n,aB R (l.take n) (m.take n):=by
 induction k with
 | nil=>intro n; simp; exact .nil
 | cons a b ih=>
   intro n
   cases n with
   | zero=>simp; exact .nil
   | succ n=>simpa using .cons a (ih n)
def cX (av:Nat->Prop) (w:World):I->Value->Prop
 | .v x,v=>v=x/\x.oneCell'=true
 | .sl sz n get,v=>∃ a cap,v=.slice a n cap/\n<=cap/\n<=maxLen/\(0<n->∃ ad:Addr,a=some ad/\ad.spot=none/\¬ av ad.block/\ad.block<w.heap.size/\
   ∀ i,i<n->∀ j,j<sz->∃ x,w.cell? (ad.add (i*sz+j))=some x/\cX av w (get i j) x)
 | .pt sz get,v=>∃ ad:Addr,v=.pointer (some ad)/\ad.spot=none/\¬ av ad.block/\ad.block<w.heap.size/\∀ j,j<sz->∃ x,w.cell? (ad.add j)=some x/\cX av w (get j) x
 | .fn f n cap,v=>∃ vs:Array Value,v=.func (.func f) #[] vs/\vs.size=n/\∀ j,j<n->∃ x,vs[j]?=some x/\cX av w (cap j) x
 | .st l,v=>∃ b es clock,v=.map (some b)/\¬ av b/\w.heap[b]?=some (.map es clock)/\aB (λn (x:MapEntry)=>x.key=.int .i64 n/\x.val=.bool true) l es.toList
 | .gp g,v=>v=.pointer (some ⟨g,0,none⟩)
 | .fm l,v=>∃ b es clock,v=.map (some b)/\¬ av b/\w.heap[b]?=some (.map es clock)/\∀ n:Int,Instr.findNow (.int .i64) (.int .i64 n) es.toList 0=some none/\A6 n l=none∨∃ k f,Instr.findNow (.int .i64) (.int .i64 n) es.toList 0=some (some (k,.func (.func f) #[] #[]))/\A6 n l=some f
 | .tx s,v=>v=.string s/\s.size<=maxLen
theorem cX.one {av:Nat->Prop} {w:World} {x:I} {v:Value} (h:cX av w x v):v.oneCell'=true:=by
 cases x with
 | v x=>obtain ⟨rfl,h⟩:=h; exact h
 | sl sz n get=>obtain ⟨a,cap,rfl,_⟩:=h; rfl
 | pt sz get=>obtain ⟨ad,rfl,_⟩:=h; rfl
 | fn f n cap=>obtain ⟨vs,rfl,_⟩:=h; rfl
 | st l=>obtain ⟨b,es,clock,rfl,_⟩:=h; rfl
 | gp g=>obtain rfl:=h; rfl
 | fm l=>obtain ⟨b,es,clock,rfl,_⟩:=h; rfl
 | tx s=>obtain ⟨rfl,_⟩:=h; rfl
theorem block_add (a:Addr) (n:Nat):(a.add n).block=a.block:=by unfold Addr.add; split<;>rfl
theorem uF {w w':World} {a:Addr} (h:w'.heap[a.block]?=w.heap[a.block]?):w'.cell? a=w.cell? a:=World.cell?_of_block (w:=w) h
structure ba (av:Nat->Prop) (w w':World):Prop where
 size:w.heap.size<=w'.heap.size
 same:∀ b,b<w.heap.size->¬ av b->w'.heap[b]?=w.heap[b]?
theorem ba.refl (av:Nat->Prop) (w:World):ba av w w:=⟨bG _,λ_ _ _=>rfl⟩
theorem ba.mS {av:Nat->Prop} {w w':World} (h:Below w.heap.size w w'):ba av w w':=⟨h.size,λb hb _=>h.block b hb⟩
theorem cX.mono {av cY:Nat->Prop} {w w':World} (hk:ba av w w') (ha:∀ b,b<w.heap.size->cY b->av b):∀ {x:I} {v:Value},cX av w x v->cX cY w' x v:=by
 intro x
 induction x with
 | v x=>intro v h; exact h
 | sl sz n get ih=>
   rintro v ⟨a,cap,rfl,hn,hm,h⟩
   refine ⟨a,cap,rfl,hn,hm,λh0=>?_⟩
   obtain ⟨ad,h1,h2,h3,h4,h5⟩:=h h0
   refine ⟨ad,h1,h2,λq=>h3 (ha _ h4 q),Nat.lt_of_lt_of_le h4 hk.size,λi hi j hj=>?_⟩
   obtain ⟨x,q1,q2⟩:=h5 i hi j hj
   exact ⟨x,by rw [uF (w:=w) (by rw [block_add]; exact hk.same _ h4 h3)]; exact q1,ih i j q2⟩
 | pt sz get ih=>
   rintro v ⟨ad,rfl,h2,h3,h4,h5⟩
   refine ⟨ad,rfl,h2,λq=>h3 (ha _ h4 q),Nat.lt_of_lt_of_le h4 hk.size,λj hj=>?_⟩
   obtain ⟨x,q1,q2⟩:=h5 j hj
   exact ⟨x,by rw [uF (w:=w) (by rw [block_add]; exact hk.same _ h4 h3)]; exact q1,ih j q2⟩
 | fn f n cap ih=>
   rintro v ⟨vs,rfl,h1,h2⟩
   refine ⟨vs,rfl,h1,λj hj=>?_⟩
   obtain ⟨x,q1,q2⟩:=h2 j hj
   exact ⟨x,q1,ih j q2⟩
 | st l=>
   rintro v ⟨b,es,clock,rfl,h1,h2,h3⟩
   have dB:b<w.heap.size:=(Array.getElem?_eq_some_iff.1 h2).1
   exact ⟨b,es,clock,rfl,λq=>h1 (ha _ dB q),(hk.same _ dB h1).trans h2,h3⟩
 | gp g=>intro v h; exact h
 | tx s=>intro v h; exact h
 | fm l=>
   rintro v ⟨b,es,clock,rfl,h1,h2,h3⟩
   have dB:b<w.heap.size:=(Array.getElem?_eq_some_iff.1 h2).1
   exact ⟨b,es,clock,rfl,λq=>h1 (ha _ dB q),(hk.same _ dB h1).trans h2,h3⟩
abbrev Hd:=Value×(Nat->Prop)
abbrev nI (v:Value):Hd:=(v,λ_=>False)
abbrev mr:Hd:=nI undef
abbrev fA:=Option Nat×Hd×Nat
abbrev Env:=List fA
def bq (E:Env) (r b sz:Nat):Prop:=∃ h,E[r]?=some (some b,h,sz)
def fA.has (e:fA) (b:Nat):Prop:=e.1=some b∨e.2.1.2 b
def cU (E:Env) (r b sz:Nat):Prop:=∃ e:fA,E[r]?=some e/\e.2.2=sz/\e.has b
theorem bq.own {E:Env} {r b sz:Nat} (h:bq E r b sz):cU E r b sz:=by obtain ⟨h,q⟩:=h; exact ⟨_,q,rfl,.inl rfl⟩
def bg (E:Env) (av:Nat->Prop) (w:World):C->Value->Prop
 | .im x,v=>cX av w x v
 | .rt r i j,v=>∃ b sz,bq E r b sz/\v=.pointer (some ⟨b,i*sz+j,none⟩)
 | .sa r m,v=>∃ e a n cap,E[r]?=some e/\e.2.1.1=.slice a n cap/\m<=n/\v=.slice a m cap
 | .mp r,v=>∃ b sz,bq E r b sz/\v=.map (some b)
 | .yl r,v=>∃ b sz,bq E r b sz/\v=.func (.yield b) #[] #[]
 | .ow r j,v=>∃ (e:fA) (vs:Array Value),E[r]?=some e/\e.2.1.1=.tuple vs/\vs[j]?=some v/\v.oneCell'=true
 | .dM f eA,v=>∃ vs:Array Value,v=.func (.func f) #[] vs/\aB (λr x=>∃ b sz,bq E r b sz/\x=.pointer (some ⟨b,0,none⟩)) eA vs.toList
theorem bg.one {E:Env} {av:Nat->Prop} {w:World} {x:C} {v:Value} (h:bg E av w x v):v.oneCell'=true:=by
 cases x with
 | im x=>exact cX.one h
 | rt r i j=>obtain ⟨_,_,_,rfl⟩:=h; rfl
 | sa r m=>obtain ⟨_,_,_,_,_,_,_,rfl⟩:=h; rfl
 | mp r=>obtain ⟨_,_,_,rfl⟩:=h; rfl
 | yl r=>obtain ⟨_,_,_,rfl⟩:=h; rfl
 | ow r j=>obtain ⟨_,_,_,_,_,h⟩:=h; exact h
 | dM f eA=>obtain ⟨_,rfl,_⟩:=h; rfl
def aZ (E:Env) (av:Nat->Prop) (w:World):D->Value->Prop
 | .c x,v=>bg E av w x v
 | .a l,v=>∃ cs:Array Value,v=.agg cs/\aB (bg E av w) l cs.toList
 | .t l,v=>∃ vs:Array Value,v=.tuple vs/\aB (λ(x:Bool×List C) y=>match x with
   | (true,l)=>∃ cs:Array Value,y=.agg cs/\aB (bg E av w) l cs.toList
   | (false,l)=>∃ c,l=[c]/\bg E av w c y) l vs.toList
def hole:fA:=(none,mr,0)
theorem Ke {b:Nat}:¬ hole.has b:=by
 rintro (h|h)
 .simp [hole] at h
 .exact h
def fA.wk (e:fA) (K:Nat->Prop):fA:=(e.1,(e.2.1.1,K),e.2.2)
theorem fA.J7 {e:fA} {b:Nat} (h:e.1=some b):e≠hole:=by rintro rfl; simp [hole] at h
theorem fA.J3 {e:fA} {a:Option Addr} {n c:Nat} (h:e.2.1.1=.slice a n c):e≠hole:=by rintro rfl; simp [hole,undef] at h
def Env.le (E E':Env):Prop:=∀ (r:Nat) (e:fA),E[r]?=some e->e≠hole->∃ K,E'[r]?=some (e.wk K)/\e.wk K≠hole
theorem fA.Rm {e:fA} {vs:Array Value} {j:Nat} {v:Value} (h:e.2.1.1=.tuple vs) (hj:vs[j]?=some v):e≠hole:=by
 rintro rfl
 simp only [hole,undef,Value.tuple.injEq] at h
 rw [<- h] at hj
 simp at hj
theorem Env.le_refl (E:Env):Env.le E E:=λ_ e h n=>⟨e.2.1.2,h,n⟩
theorem Env.eb (E F:Env):Env.le E (E++F):=λr e h n=>⟨e.2.1.2,by
 rw [dv]; exact h
 exact (List.getElem?_eq_some_iff.1 h).1,n⟩
theorem Env.le.trans {E F G:Env} (h:Env.le E F) (k:Env.le F G):Env.le E G:=λr e q n=>by
 obtain ⟨K,q,n⟩:=h r e q n
 obtain ⟨K',q,n⟩:=k r _ q n
 exact ⟨K',q,n⟩
theorem Env.le.at_ {E E':Env} (hE:Env.le E E') {r b sz:Nat}:bq E r b sz->bq E' r b sz:=λ⟨h,q⟩=>by
 obtain ⟨K,q,_⟩:=hE _ _ q (fA.J7 rfl)
 exact ⟨(h.1,K),q⟩
theorem Gk {E:Env} (F:Env) {r b sz:Nat}:cU E r b sz->cU (E++F) r b sz:=λ⟨e,q,q2⟩=>⟨e,by
 rw [dv (List.getElem?_eq_some_iff.1 q).1]; exact q,q2⟩
theorem Env.yi {E:Env} {r:Nat} (e:fA) (h:E[r]?=some hole):Env.le E (E.set r e):=λq e' h1 hn=>⟨e'.2.1.2,by
 rw [dI]
 split
 .rename_i hq; subst hq; rw [h] at h1; simp only [ak] at h1; exact (hn h1.symm).elim
 .exact h1,hn⟩
theorem bg.mono {E E':Env} {av cY:Nat->Prop} {w w':World} (hE:Env.le E E') (hk:ba av w w') (ha:∀ b,b<w.heap.size->cY b->av b) {x:C} {v:Value} (h:bg E av w x v):bg E' cY w' x v:=by
 cases x with
 | im x=>exact cX.mono hk ha h
 | rt r i j=>obtain ⟨b,sz,h1,h2⟩:=h; exact ⟨b,sz,hE.at_ h1,h2⟩
 | sa r m=>
   obtain ⟨e,a,n,cap,h1,h2,h3,h4⟩:=h
   obtain ⟨K,h1,_⟩:=hE _ _ h1 (fA.J3 h2)
   exact ⟨_,a,n,cap,h1,h2,h3,h4⟩
 | ow r j=>
   obtain ⟨e,vs,h1,h2,h3,h4⟩:=h
   obtain ⟨K,h1,_⟩:=hE _ _ h1 (fA.Rm h2 h3)
   exact ⟨_,vs,h1,h2,h3,h4⟩
 | mp r=>obtain ⟨b,sz,h1,h2⟩:=h; exact ⟨b,sz,hE.at_ h1,h2⟩
 | yl r=>obtain ⟨b,sz,h1,h2⟩:=h; exact ⟨b,sz,hE.at_ h1,h2⟩
 | dM f eA=>
   obtain ⟨vs,h1,h2⟩:=h
   exact ⟨vs,h1,h2.mono λr x ⟨b,sz,q,q2⟩=>⟨b,sz,hE.at_ q,q2⟩⟩
theorem aZ.mono {E E':Env} {av cY:Nat->Prop} {w w':World} (hE:Env.le E E') (hk:ba av w w') (ha:∀ b,b<w.heap.size->cY b->av b) {x:D} {v:Value} (h:aZ E av w x v):aZ E' cY w' x v:=by
 cases x with
 | c x=>exact bg.mono hE hk ha h
 | a l=>obtain ⟨cs,h1,h2⟩:=h; exact ⟨cs,h1,h2.mono λ_ _ q=>bg.mono hE hk ha q⟩
 | t l=>
   obtain ⟨vs,h1,h2⟩:=h
   refine ⟨vs,h1,h2.mono ?_⟩
   rintro ⟨b,l⟩ y q
   cases b with
   | true=>obtain ⟨cs,q1,q2⟩:=q; exact ⟨cs,q1,q2.mono λ_ _ q=>bg.mono hE hk ha q⟩
   | false=>obtain ⟨c,q1,q2⟩:=q; exact ⟨c,q1,bg.mono hE hk ha q2⟩
def ag.live:ag->Prop
 | .dead=>False
 | _=>True
def AV (ay:Nat->Prop) (rs:List ag) (E:Env) (b:Nat):Prop:=ay b∨∃ r x sz,rs[r]?=some x/\x.live/\cU E r b sz
def gW (E:Env) (av:Nat->Prop) (w:World) (N:Nat) (sl:aK) (tm:Array Value):Prop:=
 ∀ t d c,look sl t=some (d,c)->t<N/\((∀ p∈c,tm.getD p.1 undef=.bool p.2)->aZ E av w d (tm.getD t undef))/\
  (¬ (∀ p∈c,tm.getD p.1 undef=.bool p.2)->tm.getD t undef=undef)
theorem gW.mono {E E':Env} {av cY:Nat->Prop} {w w':World} (hE:Env.le E E') (hk:ba av w w') (ha:∀ b,b<w.heap.size->cY b->av b) {N:Nat} {sl:aK} {tm:Array Value} (h:gW E av w N sl tm):gW E' cY w' N sl tm:=λt d c hl=>by
 obtain ⟨q1,q2,q3⟩:=h t d c hl
 exact ⟨q1,λq=>aZ.mono hE hk ha (q2 q),q3⟩
structure Kt (K:Nat->Prop) (o:Option Nat) (Ks:Nat->Nat->Nat->Prop):Prop where
 sub:∀ i j b,Ks i j b->K b
 ne:∀ i j b,Ks i j b->o≠some b
 inj:∀ i j i' j' b,Ks i j b->Ks i' j' b->i=i'/\j=j'
def fb (av:Nat->Prop) (base:Nat) (w:World):O->(Nat->Prop)->Value->Prop
 | .im x,_,v=>cX av w x v
 | .ar el sz n get,K,v=>(∀ b,v.ownBlock=some b->K b)/\∃ xs,w.ownsRow base el sz v n xs/\∀ i,i<n->∀ j,j<sz->∃ x,xs[i*sz+j]?=some x/\cX av w (get i j) x
 | .ns el sz n get,K,v=>(∀ b,v.ownBlock=some b->K b)/\∃ xs,w.ownsRow base el sz v n xs/\∃ Ks,Kt K v.ownBlock Ks/\∀ i,i<n->∀ j,j<sz->∃ x,xs[i*sz+j]?=some x/\fb av base w (get i j) (Ks i j) x
theorem fb.base {av:Nat->Prop} {base M6:Nat} {w:World} (hb:M6<=base):∀ {x:O} {K:Nat->Prop} {v:Value},fb av base w x K v->fb av M6 w x K v:=by
 have row:∀ {el sz n:Nat} {v:Value} {xs:List Value},w.ownsRow base el sz v n xs->w.ownsRow M6 el sz v n xs:=λh=>⟨h.1,h.2.imp id λ⟨g,cap,cur,h3,h4,h5⟩=>⟨g,cap,cur,h3,cW hb h4,h5⟩⟩
 intro x
 induction x with
 | im x=>intro K v h; exact h
 | ar el sz n get=>rintro K v ⟨h0,xs,h1,h2⟩; exact ⟨h0,xs,row h1,h2⟩
 | ns el sz n get ih=>
   rintro K v ⟨h0,xs,h1,Ks,hp,h2⟩
   refine ⟨h0,xs,row h1,Ks,hp,λi hi j hj=>?_⟩
   obtain ⟨x,q1,q2⟩:=h2 i hi j hj
   exact ⟨x,q1,ih i j q2⟩
def iK (E:Env) (av:Nat->Prop) (base:Nat) (w:World):Fc->(Nat->Prop)->Value->Prop
 | .c x,_,v=>bg E av w x v
 | .o x,K,v=>fb av base w x K v
def fS (get:Nat->Nat->O) (et:Option (Nat×List Fc)) (i j:Nat):Option Fc:=match et with
 | none=>some (.o (get i j))
 | some x=>match Nat.beq i x.1 with
   | true=>nth x.2 j
   | false=>some (.o (get i j))
theorem nu {base el sz n:Nat} {v:Value} {w w':World} {xs:List Value} (hs:∀ b,v.ownBlock=some b->w'.heap[b]?=w.heap[b]?) (h:w.ownsRow base el sz v n xs):w'.ownsRow base el sz v n xs:=by
 obtain ⟨h1,h2⟩:=h
 refine ⟨h1,?_⟩
 rcases h2 with h2|⟨g,cap,cur,h3,h4,h5,h6⟩
 .exact .inl h2
 .refine .inr ⟨g,cap,cur,h3,h4,?_,h6⟩
  rw [hs g (by rw [h3]; rfl)]
  exact h5
theorem fb.mono {av cY:Nat->Prop} {base:Nat} {w w':World} (hk:ba av w w') (ha:∀ b,b<w.heap.size->cY b->av b):∀ {x:O} {K:Nat->Prop} {v:Value},(∀ b,K b->w'.heap[b]?=w.heap[b]?)->fb av base w x K v->fb cY base w' x K v:=by
 intro x
 induction x with
 | im x=>intro K v _ h; exact cX.mono hk ha h
 | ar el sz n get=>
   rintro K v hs ⟨h0,xs,h1,h2⟩
   refine ⟨h0,xs,nu (λb q=>hs b (h0 b q)) h1,λi hi j hj=>?_⟩
   obtain ⟨x,q1,q2⟩:=h2 i hi j hj
   exact ⟨x,q1,cX.mono hk ha q2⟩
 | ns el sz n get ih=>
   rintro K v hs ⟨h0,xs,h1,Ks,hp,h2⟩
   refine ⟨h0,xs,nu (λb q=>hs b (h0 b q)) h1,Ks,hp,λi hi j hj=>?_⟩
   obtain ⟨x,q1,q2⟩:=h2 i hi j hj
   exact ⟨x,q1,ih i j (λb q=>hs b (hp.sub i j b q)) q2⟩
theorem iK.mono {E E':Env} {av cY:Nat->Prop} {base:Nat} {w w':World} (hE:Env.le E E') (hk:ba av w w') (ha:∀ b,b<w.heap.size->cY b->av b) {x:Fc} {K:Nat->Prop} {v:Value} (hs:∀ b,K b->w'.heap[b]?=w.heap[b]?) (h:iK E av base w x K v):iK E' cY base w' x K v:=by
 cases x with
 | c x=>exact bg.mono hE hk ha h
 | o x=>exact fb.mono hk ha hs h
def aP (E:Env) (av:Nat->Prop) (base:Nat) (w:World) (e:fA):ag->Prop
 | .dead=>True
 | .box l=>∃ b cs T,e.1=some b/\e.2.2=l.length/\w.heap[b]?=some (.cells cs T (0,0))/\aB (bg E av w) l cs.toList
 | .arr el sz n get=>e.2.2=sz/\e.1=e.2.1.1.ownBlock/\∃ xs,w.ownsRow base el sz e.2.1.1 n xs/\∀ i,i<n->∀ j,j<sz->∃ x,xs[i*sz+j]?=some x/\cX av w (get i j) x
 | .row el sz n l=>e.2.2=sz/\e.1=e.2.1.1.ownBlock/\∃ xs,w.ownsRow base el sz e.2.1.1 n xs/\aB (bg E av w) l xs
 | .bt el sz n get et=>e.2.2=sz/\e.1=e.2.1.1.ownBlock/\∃ xs,w.ownsRow base el sz e.2.1.1 n xs/\∃ Ks,Kt e.2.1.2 e.2.1.1.ownBlock Ks/\(∀ x,et=some x->x.1<n/\x.2.length=sz)/\∀ i,i<n->∀ j,j<sz->∃ x c,xs[i*sz+j]?=some x/\fS get et i j=some c/\iK E av base w c (Ks i j) x
 | .own l=>e.1=none/\l≠[]/\∃ vs:Array Value,e.2.1.1=.tuple vs/\vs.size=l.length/\∃ Ks:Nat->Nat->Prop,(∀ i b,Ks i b->e.2.1.2 b)/\(∀ i i' b,Ks i b->Ks i' b->i=i')/\∀ (i:Nat) (o:O),l[i]?=some o->∃ v,vs[i]?=some v/\fb av base w o (Ks i) v
 | .set l=>∃ b es clock,e.1=some b/\w.heap[b]?=some (.map es clock)/\aB (λn (x:MapEntry)=>x.key=.int .i64 n/\x.val=.bool true) l es.toList
 | .kA=>∃ b,e.1=some b/\w.heap[b]?=some (.deferred (some []))
 | .loop f N sl ps as bd st fF=>∃ b db tm,e.1=some b/\w.heap[b]?=some (.loop { state:=st,pending:=fF,fn:=f,tmps:=tm,params:=ps.toArray,assign:=as,body:=bd,defers:=db })/\
   tm.size=N/\gW E av w N sl tm/\∀ x∈sl,x.2.2=[]
def qx (T:dL) (av:Nat->Prop) (w:World):Prop:=∀ g x,T.gv g=some x->cX av w (.pt x.1 x.2) (.pointer (some ⟨g,0,none⟩))
theorem qx.mono {T:dL} {av cY:Nat->Prop} {w w':World} (hk:ba av w w') (ha:∀ b,b<w.heap.size->cY b->av b) (h:qx T av w):qx T cY w':=λg x e=>cX.mono hk ha (h g x e)
structure Kp where
 w:World
 base:Nat
 own:Nat->Prop
def Kp.of (w:World):Kp:=⟨w,w.heap.size,λ_=>False⟩
structure Kp.In (w0:Kp) (b:Nat):Prop where
 base:w0.base<=b
 own:b<w0.w.heap.size->w0.own b
structure Kp.Holds (w0:Kp) (w:World):Prop where
 os:w.os=w0.w.os
 tape:w.tape=w0.w.tape
 output:w.output=w0.w.output
 size:w0.w.heap.size<=w.heap.size
 base:w0.base<=w.heap.size
 block:∀ k,k<w0.w.heap.size->¬ w0.own k->w.heap[k]?=w0.w.heap[k]?
theorem Kp.Holds.grown {w0:Kp} {w w':World} (h:w0.Holds w) (h1:w'.os=w.os) (h2:w'.tape=w.tape) (h3:w'.output=w.output) (h4:w.heap.size<=w'.heap.size) (h5:∀ k,k<w.heap.size->¬ w0.In k->w'.heap[k]?=w.heap[k]?):w0.Holds w' :=
 ⟨h1.trans h.os,h2.trans h.tape,h3.trans h.output,cW h.size h4,cW h.base h4,λk hk hn=>(h5 k (Nat.lt_of_lt_of_le hk h.size) λq=>hn (q.own hk)).trans (h.block k hk hn)⟩
theorem Kp.Holds.fresh {w0:Kp} {w:World} (h:w0.Holds w) {b:Nat} (hb:w.heap.size<=b):w0.In b:=
 ⟨cW h.base hb,λq=>absurd q (by have:=h.size; omega)⟩
theorem Kp.holds_of {w w':World} (h:Below w.heap.size w w'):(Kp.of w).Holds w':=⟨h.os,h.tape,h.output,h.size,h.size,λk hk _=>h.block k hk⟩
theorem Kp.Holds.below {w w':World} (h:(Kp.of w).Holds w'):Below w.heap.size w w':=⟨h.os,h.tape,h.output,h.size,λk hk=>h.block k hk λq=>q⟩
structure R (T:dL) (N:Nat) (ay:Nat->Prop) (w0:Kp) (sp:List (D×Value)) (s:VS) (a:Act) (w:World) (E:Env):Prop where
 size:a.tmps.size=N
 defers:aB (λr (d:Deferred)=>∃ b sz,bq E r b sz/\d={ target:=.collected b,args := #[] }) s.df a.defers
 spec:∀ x∈sp,aZ E (AV ay s.rs E) w x.1 x.2
 below:w0.Holds w
 len:E.length=s.rs.length
 outer:∀ b,ay b->b<w0.w.heap.size/\¬ w0.own b
 roots:∀ (r:Nat) (x:ag) (e:fA),s.rs[r]?=some x->E[r]?=some e->aP E (AV ay s.rs E) w0.base w e x
 cS:∀ (r:Nat) (x:ag) (b sz:Nat),s.rs[r]?=some x->x.live->cU E r b sz->w0.In b/\b<w.heap.size
 dD:∀ (r r':Nat) (x x':ag) (b sz cF:Nat),s.rs[r]?=some x->s.rs[r']?=some x'->x.live->x'.live->cU E r b sz->cU E r' b cF->r=r'
 slots:∀ t d c,look s.sl t=some (d,c)->t<N/\((∀ p∈c,a.tmps.getD p.1 undef=.bool p.2)->aZ E (AV ay s.rs E) w d (a.tmps.getD t undef))/\
  (¬ (∀ p∈c,a.tmps.getD p.1 undef=.bool p.2)->a.tmps.getD t undef=undef)
 gn:qx T (AV ay s.rs E) w
theorem R.blk {T:dL} {N:Nat} {ay:Nat->Prop} {w0:Kp} {sp:List (D×Value)} {s:VS} {a:Act} {w:World} {E:Env} (h:R T N ay w0 sp s a w E) (r:Nat) (x:ag) (b sz:Nat) (h1:s.rs[r]?=some x) (h2:x.live) (h3:bq E r b sz):w0.In b/\b<w.heap.size:=h.cS r x b sz h1 h2 h3.own
theorem R.inj {T:dL} {N:Nat} {ay:Nat->Prop} {w0:Kp} {sp:List (D×Value)} {s:VS} {a:Act} {w:World} {E:Env} (h:R T N ay w0 sp s a w E) (r r':Nat) (x x':ag) (b sz cF:Nat) (h1:s.rs[r]?=some x) (h2:s.rs[r']?=some x') (h3:x.live) (h4:x'.live) (h5:bq E r b sz) (h6:bq E r' b cF):r=r':=h.dD r r' x x' b sz cF h1 h2 h3 h4 h5.own h6.own
def bJ (a:Act) (g:e5):Prop:=∀ p∈g,a.tmps.getD p.1 undef=.bool p.2
theorem JY {x y:Bool} (h:MG x y=true):x=y:=by cases x<;>cases y<;>simp_all [MG]
theorem oL:∀ {m:e5} {x:Tmp×Bool},pW x m=true->x∈m
 | [],_,h=>by simp [pW] at h
 | y::m,x,h=>by
   simp only [pW] at h
   split at h
   .rename_i h1
    split at h
    .rename_i h2
     have e1:x.1=y.1:=Nat.eq_of_beq_eq_true h1
     have e2:=JY h2
     have:x=y:=Prod.ext e1 e2
     simp [this]
    .exact eV _ (oL h)
   .exact eV _ (oL h)
theorem GG {a:Act} {m:e5} (hm:bJ a m):∀ {l:e5},sub l m=true->bJ a l
 | [],_=>λp hp=>by cases hp
 | x::l,h=>by
   simp only [sub] at h
   split at h
   .rename_i h1
    intro p hp
    cases hp with
    | head=>exact hm _ (oL h1)
    | tail _ hp=>exact GG hm h p hp
   .simp at h
theorem kQ {E:Env} {av:Nat->Prop} {w:World}:∀ {l:List Value} {r:List C},Ly l=some r->aB (bg E av w) r l
 | [],r,h=>by simp [Ly] at h; subst h; exact .nil
 | x::l,r,h=>by
   simp only [Ly] at h
   split at h
   .rename_i q h1 h2
    simp only [ak] at h
    subst h
    exact .cons ⟨rfl,h1⟩ (kQ h2)
   .simp at h
theorem Iv {E:Env} {av:Nat->Prop} {w:World} {v:Value} {d:D} (h:DN v=some d):aZ E av w d v:=by
 unfold DN at h
 split at h
 .split at h
  .rename_i l hl
   simp only [ak] at h
   subst h
   exact ⟨_,rfl,kQ hl⟩
  .simp at h
 .split at h
  .rename_i h1
   simp only [ak] at h
   subst h
   exact ⟨rfl,h1⟩
  .simp at h
section
variable {T:dL} {N:Nat} {ay:Nat->Prop} {w0:Kp} {sp:List (D×Value)} {s:VS} {a:Act} {w:World} {E:Env}
theorem R.ev (h:R T N ay w0 sp s a w E) {g:e5} (hg:bJ a g) {x:Operand} {d:D} (e:s.ev g x=some d):aZ E (AV ay s.rs E) w d (a.eval x):=by
 cases x with
 | tmp t=>
   simp only [VS.ev] at e
   split at e
   .rename_i d' c hl
    split at e
    .rename_i hs
     simp only [ak] at e
     subst e
     exact (h.slots t d' c hl).2.1 (GG hg hs)
    .simp at e
   .simp at e
 | const v=>exact Iv e
 | func f=>
   simp only [VS.ev,ak] at e
   subst e
   exact ⟨#[],rfl,rfl,λj hj=>by omega⟩
 | global g' =>
   simp only [VS.ev,ak] at e
   subst e
   rfl
end
open Go.RowKit
def nE (P:Program):List Field->Option (List (Nat×Nat))
 | []=>some []
 | f::r=>match P.info? f.type,nE P r with
   | some i,some l=>some ((f.offset,i.size)::l)
   | _,_=>none
def vG (P:Program) (t:TypeId):Option Kd:=match P.underlying t with
 | some (.struct fs)=>match nE P fs.toList with
   | some l=>some (.struct l)
   | none=>none
 | some (.slice e)=>some (.slice e)
 | some (.array n e)=>some (.array n e)
 | some .string=>some .str
 | some .bool=>some .bool
 | some (.int .i64)=>some .int
 | some (.map k e)=>some (.map k e)
 | some (.pointer e)=>some (.ptr e)
 | some (.func _ _ _)=>some .func
 | some _=>some .other
 | none=>none
structure cz (P:Program) (t:TypeId) (y:Ty):Prop where
 kd:vG P t=some y.kd
 info:(P.info? t).map (λi=>(i.size,i.bytes,i.zero))=some (y.size,y.bytes,some y.zero)
 zs:y.zero.cells.size=y.size
structure dH (P:Program) (T:dL):Prop where
 ty:∀ t y,T.ty t=some y->cz P t y
 eqs:∀ t ks,T.eqs t=some ks->∀ (l m:List C) (b:Bool),I7 ks l m=some b->∀ (E:Env) (av:Nat->Prop) (w:World) (cs ds:Array Value),aB (bg E av w) l cs.toList->aB (bg E av w) m ds.toList->∀ (x y:Operand),
  (do eqGuard .eql t x y (.agg cs) (.agg ds); binOp .eql t (.agg cs) (.agg ds)).run P w=.ok (.bool b) w/\
  (do eqGuard .neq t x y (.agg cs) (.agg ds); binOp .neq t (.agg cs) (.agg ds)).run P w=.ok (.bool (!b)) w
theorem cz.slice {P:Program} {t:TypeId} {y:Ty} (h:cz P t y) {e:Nat} (hk:y.kd=.slice e):P.underlying t=some (.slice e):=by
 have:=h.kd
 rw [hk] at this
 unfold vG at this
 split at this
 case h_1=>split at this<;>simp_all
 all_goals simp_all
theorem cz.strs {P:Program} {t:TypeId} {y:Ty} (h:cz P t y) (hk:y.kd=.str):P.underlying t=some .string:=by
 have:=h.kd
 rw [hk] at this
 unfold vG at this
 split at this
 case h_1=>split at this<;>simp_all
 all_goals simp_all
theorem cz.struct {P:Program} {t:TypeId} {y:Ty} (h:cz P t y) {fs:List (Nat×Nat)} (hk:y.kd=.struct fs):∃ gs:Array Field,P.underlying t=some (.struct gs)/\nE P gs.toList=some fs:=by
 have:=h.kd
 rw [hk] at this
 unfold vG at this
 split at this
 case h_1=>split at this<;>simp_all
 all_goals simp_all
theorem cz.sz {P:Program} {t:TypeId} {y:Ty} (h:cz P t y):(P.info? t).map (·.size)=some y.size:=by
 have:=h.info
 cases hq:P.info? t with
 | none=>simp [hq] at this
 | some i=>simp [hq] at this ⊢; exact this.1
theorem cz.full {P:Program} {t:TypeId} {y:Ty} (h:cz P t y):∃ i,P.info? t=some i/\i.size=y.size/\i.bytes=y.bytes/\i.zero=some y.zero:=by
 have:=h.info
 cases hq:P.info? t with
 | none=>simp [hq] at this
 | some i=>simp [hq] at this; exact ⟨i,rfl,this.1,this.2.1,this.2.2⟩
theorem cz.und {P:Program} {t:TypeId} {y:Ty} (h:cz P t y):∃ d,P.underlying t=some d/\TypeDesc.isRow d=y.kd.agg:=by
 have:=h.kd
 unfold vG at this
 split at this
 case h_1=>split at this<;>simp_all [Kd.agg,TypeDesc.isRow]<;>(try (rw [<- this]))
 all_goals (simp_all [Kd.agg,TypeDesc.isRow]<;>(try (rw [<- this])))
theorem run_sizeOf {P:Program} {t:TypeId} {n:Nat} (h:(P.info? t).map (·.size)=some n) (w:World):(sizeOf t).run P w=.ok n w:=by
 cases hq:P.info? t with
 | none=>simp [hq] at h
 | some i=>simp [hq] at h; simp [sizeOf,typeInfo,hq,h]
theorem Aj {P:Program} {t:TypeId} {d:TypeDesc} (h:P.underlying t=some d) (w:World):(isAgg t).run P w=.ok (TypeDesc.isRow d) w:=by
 unfold isAgg
 rw [Sem.run_bind,run_underlying h w]
 cases d<;>simp [TypeDesc.isRow]
theorem aM {a b:Nat} (h:Nat.blt a b=true):a<b:=by simpa [kD] using h
theorem ew {a b:Nat} (h:Nat.ble a b=true):a<=b:=Nat.le_of_ble_eq_true h
theorem bK {a b:Nat} (h:Nat.beq a b=true):a=b:=Nat.eq_of_beq_eq_true h
theorem add_add (ad:Addr) (hs:ad.spot=none) (i j:Nat):(ad.add i).add j=ad.add (i+j):=by
 unfold Addr.add
 cases ad with
 | mk b o sp=>
   simp only at hs
   subst hs
   by_cases hi:i=0<;>by_cases hj:j=0<;>simp_all [Nat.add_assoc]
theorem yR (ad:Addr) (hs:ad.spot=none) (i:Nat):(ad.add i).spot=none:=by
 unfold Addr.add; split<;>simp_all
theorem cT {b o:Nat} {w:World} {cs:Array Value} {T:TypeId} {f:Nat×Nat} (h:w.heap[b]?=some (.cells cs T f)):w.cell? ⟨b,o,none⟩=cs[o]?:=by
 simp [World.cell?,h]
theorem zu {w w':World} (hb:Below w.heap.size w w') {ad:Addr} {v:Value} (h:w.cell? ad=some v):w'.cell? ad=some v:=(hb.cell (World.block_lt_of_cell? w ad h)).trans h
section
variable {P:Program} {T:dL} {N:Nat} {ay:Nat->Prop} {w0:Kp} {sp:List (D×Value)} {s:VS} {a:Act} {w:World} {E:Env}
theorem gy {t:TypeId} {y:Ty} (hy:cz P t y) {ad:Addr} {cs:List Value} (hl:cs.length=y.size) (ha:y.kd.agg=true) (h:∀ j v,cs[j]?=some v->w.cell? (ad.add j)=some v) :
  ∀ w',Below w.heap.size w w'->(Instr.loadAt t (.pointer (some ad))).run P w'=.ok (.agg cs.toArray) w':=by
 intro w' hb
 obtain ⟨d,hd,hr⟩:=hy.und
 have h1:=run_loadCells_list (P:=P) w' ad cs (λj v hv=>zu hb (h j v hv))
 rw [hl] at h1
 simp [Instr.loadAt,Instr.sureAddr,loadVar,Aj hd,hr,ha,run_sizeOf hy.sz,h1]
theorem gJ {t:TypeId} {y:Ty} (hy:cz P t y) {ad:Addr} {v:Value} (ha:y.kd.agg=false) (h:w.cell? ad=some v) :
  ∀ w',Below w.heap.size w w'->(Instr.loadAt t (.pointer (some ad))).run P w'=.ok v w':=by
 intro w' hb
 obtain ⟨d,hd,hr⟩:=hy.und
 simp [Instr.loadAt,Instr.sureAddr,loadVar,Aj hd,hr,ha,zu hb h]
theorem jJ {E:Env} {av:Nat->Prop} {w:World} {get:Nat->I} {f:Nat->Value}:∀ {n o:Nat},(∀ j,o<=j->j<o+n->cX av w (get j) (f j))->
  aB (bg E av w) (dT get o n) ((List.range n).map λj=>f (o+j))
 | 0,o,_=>.nil
 | n+1,o,h=>by
   rw [List.range_succ_eq_map,List.map_cons,List.map_map]
   refine .cons (h o (bG _) (by omega)) ?_
   have:=jJ (E:=E) (n:=n) (o:=o+1) (f:=f) (λj h1 h2=>h j (by omega) (by omega))
   have he:((λj=>f (o+j))∘Nat.succ)=λj=>f (o+1+j):=by funext j; simp [Nat.succ_eq_add_one]; congr 1; omega
   rw [he]
   exact this
theorem lh {Q:Nat->Value->Prop} {n:Nat} (h:∀ j,j<n->∃ x,Q j x):∃ f:Nat->Value,∀ j,j<n->Q j (f j):=
 ⟨λj=>if hj:j<n then (h j hj).choose else undef,λj hj=>by simp only [dif_pos hj]; exact (h j hj).choose_spec⟩
theorem Fk {α:Type}:∀ (l:List α) (i:Nat),aV l i=nth l i
 | [],_=>rfl
 | _::_,0=>rfl
 | _::l,i+1=>Fk l i
theorem yw {E:Env} {av:Nat->Prop} {base:Nat} {w:World} {x:Fc} {c:C} {K:Nat->Prop} {v:Value} (h:Lk (some x)=some c) (hv:iK E av base w x K v):bg E av w c v:=by
 cases x with
 | c x=>simp only [Lk,ak] at h; subst h; exact hv
 | o x=>
   cases x with
   | im x=>simp only [Lk,LM,ak] at h; subst h; exact hv
   | _=>simp [Lk,LM] at h
theorem Qa {E:Env} {av:Nat->Prop} {base:Nat} {w:World} {get:Nat->Nat->O} {et:Option (Nat×List Fc)} {i j:Nat} {x:Fc} {c:C} {K:Nat->Prop} {v:Value} (h:zX get et i j=some c) (hx:fS get et i j=some x) (hv:iK E av base w x K v):bg E av w c v:=by
 unfold zX at h
 unfold fS at hx
 cases et with
 | none=>
   simp only [ak] at hx; subst hx
   exact yw (x:=.o (get i j)) h hv
 | some y=>
   simp only at h hx
   cases hb:Nat.beq i y.1 with
   | true=>
     rw [hb] at h hx
     simp only [Fk] at h hx
     rw [hx] at h
     exact yw h hv
   | false=>
     rw [hb] at h hx
     simp only [ak] at hx; subst hx
     exact yw (x:=.o (get i j)) h hv
theorem sr {f:Nat->Option C}:∀ {n j:Nat} {l:List C},pN f j n=some l->l.length=n/\∀ k,k<n->∃ c,l[k]?=some c/\f (j+k)=some c
 | 0,j,l,h=>by
   have h:some []=some l:=h
   simp only [ak] at h; subst h
   exact ⟨rfl,λk hk=>by omega⟩
 | n+1,j,l,h=>by
   have h:(match f j with
    | some c=>match pN f (j+1) n with
      | some l=>some (c::l)
      | none=>none
    | none=>none)=some l:=h
   split at h
   case h_2=>simp at h
   rename_i c hc
   split at h
   case h_2=>simp at h
   rename_i l' vU
   simp only [ak] at h; subst h
   obtain ⟨h1,h2⟩:=sr vU
   refine ⟨by simp [h1],λk hk=>?_⟩
   cases k with
   | zero=>exact ⟨c,rfl,hc⟩
   | succ k=>
     obtain ⟨c',g1,g2⟩:=h2 k (by omega)
     exact ⟨c',by simpa using g1,by rw [show j+(k+1)=j+1+k by omega]; exact g2⟩
theorem aB.JJ {α β:Type} {R:α->β->Prop}:∀ {l:List α} {m:List β},l.length=m.length->(∀ (k:Nat) (x:α) (y:β),l[k]?=some x->m[k]?=some y->R x y)->aB R l m
 | [],[],_,_=>.nil
 | [],_::_,h,_=>by simp at h
 | _::_,[],h,_=>by simp at h
 | x::l,y::m,h,k=>.cons (k 0 x y rfl rfl) (aB.JJ (by simpa using h) λi a b ha hb=>k (i+1) a b (by simpa using ha) (by simpa using hb))
theorem qY (bQ:dH P T) (h:R T N ay w0 sp s a w E) {g:e5} (hg:bJ a g) {t:TypeId} {x:Operand} {p:Option Prop} {d:D} (e:bm T s g (.load t x)=some (p,d)) (hp:need p) :
  ∃ v,(∀ w',Below w.heap.size w w'->(Instr.loadAt t (a.eval x)).run P w'=.ok v w')/\aZ E (AV ay s.rs E) w d v:=by
 simp only [bm] at e
 split at e
 case h_2=>simp at e
 rename_i y hy
 have hy:=bQ.ty _ _ hy
 split at e
 case h_4=>simp at e
 .
  rename_i r i j hx
  obtain ⟨b,sz,hr,hv⟩:=h.ev hg hx
  rw [hv]
  split at e
  .
   rename_i l hl
   rw [bp] at hl
   obtain ⟨hh,hE⟩:=hr
   obtain ⟨b',cs,T,q1,q2,q3,q4⟩:=h.roots r _ _ hl hE
   simp only [ak] at q1
   subst q1
   split at e
   case h_2=>simp at e
   simp only [Nat.zero_mul,Nat.zero_add]
   split at e
   .rename_i hagg
    split at e
    case h_2=>simp at e
    rename_i ks hks
    simp only [ak,bw] at e
    obtain ⟨rfl,rfl⟩:=e
    obtain ⟨rfl,hlen⟩:=mE _ _ _ hks
    rw [xL] at hlen ⊢
    have ha:=(q4.drop j).take y.size
    refine ⟨.agg ((cs.toList.drop j).take y.size).toArray,gy hy ?_ hagg ?_,_,rfl,by simpa using ha⟩
    .have:=ha.length
     rw [List.length_take,Nat.min_eq_left hlen] at this
     exact this.symm
    .intro k v hk
     rw [Addr.add_mid,cT q3]
     rw [dx] at hk
     split at hk
     .simpa using hk
     .simp at hk
   .rename_i hagg
    split at e
    case h_2=>simp at e
    rename_i c hc
    simp only [ak,bw] at e
    obtain ⟨rfl,rfl⟩:=e
    obtain ⟨v,hv1,hv2⟩:=q4.nth hc
    exact ⟨v,gJ hy hagg (by rw [cT q3]; simpa using hv1),hv2⟩
  .
   rename_i el asz n get hl
   rw [bp] at hl
   obtain ⟨hh,hE⟩:=hr
   obtain ⟨q1,q2,xs,q3,q4⟩:=h.roots r _ _ hl hE
   have q1:sz=asz:=q1
   have q2:some b=hh.1.ownBlock:=q2
   subst q1
   have cellAt:∀ k,k<n*sz->w.cell? ⟨b,k,none⟩=xs[k]?:=by
    intro k hk
    obtain ⟨q5,q6⟩:=q3
    rcases q6 with ⟨q6,_⟩|⟨g',cap,cur,q6,_,q7,q8,_,q9,q10⟩
    .have q6:hh.1=_:=q6
     rw [q6] at q2
     simp [Value.ownBlock] at q2
    .have q6:hh.1=_:=q6
     rw [q6] at q2
     simp only [Value.ownBlock,ak] at q2
     subst q2
     rw [cT q7,<- q10,dx,if_pos hk]
     simp
   have bnd:∀ {j k:Nat},i<n->j+k<=sz->i*sz+(j+k)<=n*sz:=by
    intro j k hi hjk
    have:=fU sz (show i+1<=n by omega)
    rw [Nat.add_mul,Nat.one_mul] at this
    omega
   split at e
   .rename_i hagg
    split at e
    case h_2=>simp at e
    rename_i hle
    have hle:=ew hle
    simp only [ak,bw] at e
    obtain ⟨rfl,rfl⟩:=e
    obtain ⟨f,hf⟩:=lh (Q:=λk x=>xs[i*sz+k]?=some x/\cX (AV ay s.rs E) w (get i k) x) (λk hk=>q4 i hp k hk)
    refine ⟨.agg ((List.range y.size).map λk=>f (j+k)).toArray,gy hy (by simp) hagg ?_,_,rfl,?_⟩
    .intro k v hk
     rw [Addr.add_mid]
     have kT:k<y.size:=by
      have:=(List.getElem?_eq_some_iff.1 hk).1
      simpa using this
     have hv:v=f (j+k):=by simpa [kT] using hk.symm
     have b1:=bnd (j:=j) (k:=k+1) hp (by omega)
     rw [cellAt _ (by omega),hv]
     have:=(hf (j+k) (by omega)).1
     rwa [show i*sz+(j+k)=i*sz+j+k by omega] at this
    .have:=jJ (E:=E) (av:=AV ay s.rs E) (w:=w) (get:=get i) (f:=f) (n:=y.size) (o:=j) (λk h1 h2=>(hf k (by omega)).2)
     simpa using this
   .rename_i hagg
    split at e
    case h_2=>simp at e
    rename_i dB
    have dB:=aM dB
    simp only [ak,bw] at e
    obtain ⟨rfl,rfl⟩:=e
    obtain ⟨v,h1,h2⟩:=q4 i hp j dB
    have b1:=bnd (j:=j) (k:=1) hp (by omega)
    exact ⟨v,gJ hy hagg (by rw [cellAt _ (by omega)]; exact h1),h2⟩
  .
   rename_i el asz n l hl
   rw [bp] at hl
   obtain ⟨hh,hE⟩:=hr
   obtain ⟨q1,q2,xs,q3,q4⟩:=h.roots r _ _ hl hE
   have q1:sz=asz:=q1
   have q2:some b=hh.1.ownBlock:=q2
   subst q1
   have cellAt:∀ k v,xs[k]?=some v->w.cell? ⟨b,k,none⟩=some v:=by
    intro k v ZG
    have hk:k<n*sz:=by rw [<- q3.1]; exact (List.getElem?_eq_some_iff.1 ZG).1
    obtain ⟨q5,q6⟩:=q3
    rcases q6 with ⟨q6,_⟩|⟨g',cap,cur,q6,_,q7,q8,_,q9,q10⟩
    .have q6:hh.1=_:=q6
     rw [q6] at q2
     simp [Value.ownBlock] at q2
    .have q6:hh.1=_:=q6
     rw [q6] at q2
     simp only [Value.ownBlock,ak] at q2
     subst q2
     rw [<- q10,dx,if_pos hk] at ZG
     rw [cT q7]
     simpa using ZG
   split at e
   .rename_i hagg
    split at e
    case h_2=>simp at e
    rename_i ks hks
    simp only [ak,bw] at e
    obtain ⟨rfl,rfl⟩:=e
    obtain ⟨rfl,hlen⟩:=mE _ _ _ hks
    rw [xL] at hlen ⊢
    have ha:=(q4.drop (i*sz+j)).take y.size
    refine ⟨.agg ((xs.drop (i*sz+j)).take y.size).toArray,gy hy ?_ hagg ?_,_,rfl,by simpa using ha⟩
    .have:=ha.length
     rw [List.length_take,Nat.min_eq_left hlen] at this
     exact this.symm
    .intro k v hk
     rw [Addr.add_mid]
     rw [dx] at hk
     split at hk
     .exact cellAt _ _ (by simpa using hk)
     .simp at hk
   .rename_i hagg
    split at e
    case h_2=>simp at e
    rename_i c hc
    simp only [ak,bw] at e
    obtain ⟨rfl,rfl⟩:=e
    obtain ⟨v,hv1,hv2⟩:=q4.nth hc
    exact ⟨v,gJ hy hagg (cellAt _ _ hv1),hv2⟩
  .
   rename_i el asz n get et hl
   rw [bp] at hl
   obtain ⟨hh,hE⟩:=hr
   obtain ⟨q1,q2,xs,q3,Ks,hK,hf,q4⟩:=h.roots r _ _ hl hE
   have q1:sz=asz:=q1
   have q2:some b=hh.1.ownBlock:=q2
   subst q1
   have cellAt:∀ k v,xs[k]?=some v->w.cell? ⟨b,k,none⟩=some v:=by
    intro k v ZG
    have hk:k<n*sz:=by rw [<- q3.1]; exact (List.getElem?_eq_some_iff.1 ZG).1
    obtain ⟨q5,q6⟩:=q3
    rcases q6 with ⟨q6,_⟩|⟨g',cap,cur,q6,_,q7,q8,_,q9,q10⟩
    .have q6:hh.1=_:=q6
     rw [q6] at q2
     simp [Value.ownBlock] at q2
    .have q6:hh.1=_:=q6
     rw [q6] at q2
     simp only [Value.ownBlock,ak] at q2
     subst q2
     rw [<- q10,dx,if_pos hk] at ZG
     rw [cT q7]
     simpa using ZG
   have cel:∀ j c,i<n->j<sz->zX get et i j=some c->∃ v,xs[i*sz+j]?=some v/\bg E (AV ay s.rs E) w c v:=by
    intro j c hi hj hc
    obtain ⟨v,c',g1,g2,g3⟩:=q4 i hi j hj
    exact ⟨v,g1,Qa hc g2 g3⟩
   split at e
   .rename_i hagg
    split at e
    case h_2=>simp at e
    rename_i hle
    have hle:=ew hle
    split at e
    case h_2=>simp at e
    rename_i l hg'
    simp only [ak,bw] at e
    obtain ⟨rfl,rfl⟩:=e
    obtain ⟨hl1,hl2⟩:=sr hg'
    obtain ⟨f,hf'⟩:=lh (n:=y.size) (Q:=λk x=>xs[i*sz+(j+k)]?=some x/\∃ c,l[k]?=some c/\bg E (AV ay s.rs E) w c x) (λk hk=>by
     obtain ⟨c,g1,g2⟩:=hl2 k hk
     obtain ⟨v,g3,g4⟩:=cel (j+k) c hp (by omega) g2
     exact ⟨v,g3,c,g1,g4⟩)
    refine ⟨.agg ((List.range y.size).map f).toArray,gy hy (by simp) hagg ?_,_,rfl,?_⟩
    .intro k v hk
     rw [Addr.add_mid]
     have kT:k<y.size:=by
      have:=(List.getElem?_eq_some_iff.1 hk).1
      simpa using this
     have hv:v=f k:=by simpa [kT] using hk.symm
     rw [hv]
     have:=(hf' k kT).1
     rw [show i*sz+j+k=i*sz+(j+k) by omega]
     exact cellAt _ _ this
    .refine aB.JJ (by simp [hl1]) λk c x hc hx=>?_
     have kT:k<y.size:=by rw [<- hl1]; exact (List.getElem?_eq_some_iff.1 hc).1
     have hx':x=f k:=by simpa [kT] using hx.symm
     obtain ⟨_,c',g1,g2⟩:=hf' k kT
     rw [hc] at g1
     simp only [ak] at g1
     subst g1
     rw [hx']; exact g2
   .rename_i hagg
    split at e
    case h_2=>simp at e
    rename_i dB
    have dB:=aM dB
    split at e
    case h_2=>simp at e
    rename_i c hc
    simp only [ak,bw] at e
    obtain ⟨rfl,rfl⟩:=e
    obtain ⟨v,hv1,hv2⟩:=cel j c hp dB hc
    exact ⟨v,gJ hy hagg (cellAt _ _ hv1),hv2⟩
  .simp at e
 .
  rename_i n get hx
  obtain ⟨ad,hv,hs,_,_,hc⟩:=h.ev hg hx
  rw [hv]
  split at e
  .rename_i hagg
   split at e
   case h_2=>simp at e
   rename_i hle
   have hle:=ew hle
   simp only [ak,bw] at e
   obtain ⟨rfl,rfl⟩:=e
   obtain ⟨f,hf⟩:=lh hc
   refine ⟨.agg ((List.range y.size).map λk=>f (0+k)).toArray,gy hy (by simp) hagg ?_,_,rfl,?_⟩
   .intro k v hk
    have kT:k<y.size:=by
     have:=(List.getElem?_eq_some_iff.1 hk).1
     simpa using this
    have hv:v=f k:=by simpa [kT] using hk.symm
    rw [hv]
    exact (hf k (by omega)).1
   .have:=jJ (E:=E) (av:=AV ay s.rs E) (w:=w) (get:=get) (f:=f) (n:=y.size) (o:=0) (λk h1 h2=>(hf k (by omega)).2)
    simpa using this
  .rename_i hagg
   split at e
   case h_2=>simp at e
   rename_i dB
   have dB:=aM dB
   simp only [ak,bw] at e
   obtain ⟨rfl,rfl⟩:=e
   obtain ⟨v,h1,h2⟩:=hc 0 dB
   exact ⟨v,gJ hy hagg (by simpa [Addr.add] using h1),h2⟩
 .
  rename_i q hx
  have hv:a.eval x=.pointer (some ⟨q,0,none⟩):=h.ev hg hx
  rw [hv]
  split at e
  case h_2=>simp at e
  rename_i z hz
  split at e
  .simp at e
  .rename_i hagg
   simp only [ak,bw] at e
   obtain ⟨rfl,rfl⟩:=e
   obtain ⟨ad,h1,h2,h3,h4,h5⟩:=h.gn q (1,λ_=>z) (by simp only [dL.gv,hz])
   simp only [Value.pointer.injEq,ak] at h1
   subst h1
   obtain ⟨v,h6,h7⟩:=h5 0 (by omega)
   exact ⟨v,gJ hy hagg (by simpa [Addr.add] using h6),h7⟩
theorem b4 {x:Sem Value} {v:Value} {w':World} (h:x.run P w=.ok v w'):(do pure (Next.value (<- x)):Sem Next).run P w=.ok (.value v) w':=by
 simp [h]
theorem PH {op:BinOp} {x y z:Value} (e:BZ op x y=some z) (t:TypeId) (p q:Operand):(do eqGuard op t p q x y; binOp op t x y).run P w=.ok z w:=by
 unfold BZ at e
 split at e
 .split at e
  all_goals first
   | (simp at e; done)
   | (simp only [ak] at e; subst e; simp [eqGuard,binOp,Op.intArith,Op.intCmp]; done)
   | (simp only [ak] at e; subst e; simp only [eqGuard,Sem.run_bind]; rfl)
 .split at e<;>simp at e<;>subst e<;>simp [eqGuard,binOp,Op.intCmp]
 .split at e<;>simp at e<;>subst e<;>simp [eqGuard,binOp,Op.stringOp]
 .simp at e
theorem N9 {op:BinOp} {x y z:Value} {c:Prop} (e:zP op x y=some (c,z)) (hc:c) (t:TypeId) (p q:Operand):(do eqGuard op t p q x y; binOp op t x y).run P w=.ok z w:=by
 unfold zP at e
 split at e
 .split at e
  .simp only [ak,bw] at e
   obtain ⟨rfl,rfl⟩:=e
   simp [eqGuard,binOp,Op.intDiv,hc]
  .simp only [ak,bw] at e
   obtain ⟨rfl,rfl⟩:=e
   simp [eqGuard,binOp,Op.intDiv,hc]
  .simp only [ak,bw] at e
   obtain ⟨rfl,rfl⟩:=e
   simp [eqGuard,binOp,Op.shift,show ¬ _<(0:Int) from Int.not_lt.2 hc,IntKind.bits]
  .simp only [ak,bw] at e
   obtain ⟨rfl,rfl⟩:=e
   simp [eqGuard,binOp,Op.shift,show ¬ _<(0:Int) from Int.not_lt.2 hc,IntKind.bits]
  .simp at e
 .simp at e
theorem Q1 {op:BinOp} {x y z:Value} (e:BZ op x y=some z):z.oneCell'=true:=by
 unfold BZ at e
 split at e
 .split at e<;>simp at e<;>subst e<;>rfl
 .split at e<;>simp at e<;>subst e<;>rfl
 .split at e<;>simp at e<;>subst e<;>rfl
 .simp at e
theorem OP {op:BinOp} {x y z:Value} {c:Prop} (e:zP op x y=some (c,z)):z.oneCell'=true:=by
 unfold zP at e
 split at e
 .split at e
  .simp only [ak,bw] at e
   obtain ⟨rfl,rfl⟩:=e
   rfl
  .simp only [ak,bw] at e
   obtain ⟨rfl,rfl⟩:=e
   rfl
  .simp only [ak,bw] at e
   obtain ⟨rfl,rfl⟩:=e
   rfl
  .simp only [ak,bw] at e
   obtain ⟨rfl,rfl⟩:=e
   rfl
  .simp at e
 .simp at e
theorem xw {t:TypeId} {y:Ty} (hy:cz P t y) (hk:y.kd=.bool) (b c:Bool) (p q:Operand) :
  (do eqGuard .eql t p q (.bool b) (.bool c); binOp .eql t (.bool b) (.bool c)).run P w=.ok (.bool (b==c)) w/\
  (do eqGuard .neq t p q (.bool b) (.bool c); binOp .neq t (.bool b) (.bool c)).run P w=.ok (.bool (!(b==c))) w:=by
 have hu:P.underlying t=some .bool:=by
  have:=hy.kd
  rw [hk] at this
  unfold vG at this
  split at this
  case h_1=>split at this<;>simp_all
  all_goals simp_all
 have he:∀ d,(Op.equalIn (d+1) t (.bool b) (.bool c)).run P w=.ok (b==c) w:=λd=>by
  unfold Op.equalIn
  simp [run_underlying hu]
 have h0:(Op.equal t (.bool b) (.bool c)).run P w=.ok (b==c) w:=he 9999
 constructor
 .show ((do eqGuard .eql t p q (.bool b) (.bool c); (do pure (.bool (<- Op.equal t (.bool b) (.bool c)))):Sem Value)).run P w=_
  rw [Sem.run_bind]
  simp only [eqGuard,Bool.not_true]
  simp [h0]
 .show ((do eqGuard .neq t p q (.bool b) (.bool c); (do pure (.bool (!(<- Op.equal t (.bool b) (.bool c))))):Sem Value)).run P w=_
  rw [Sem.run_bind]
  simp only [eqGuard]
  simp [h0]
theorem sy {l:List C}:∀ {ys:List C} {o:Nat} {r:List C},put l o ys=some r->o+ys.length<=l.length+0∨ys=[]:=by
 intro ys
 induction ys generalizing l with
 | nil=>intro o r h; exact .inr rfl
 | cons y ys ih=>
   intro o r h
   simp only [put] at h
   split at h
   .rename_i z hz
    rw [bp] at hz
    have ho:=(List.getElem?_eq_some_iff.1 hz).1
    rcases ih h with h1|h1
    .left
     rw [aT,List.length_set] at h1
     simp; omega
    .left; subst h1; simp; omega
   .simp at h
theorem CA {av:Nat->Prop} {Ro:C->Value->Prop}:∀ {ys:List C} {l:List C} {o:Nat} {r:List C} {vs cs:List Value},put l o ys=some r->aB Ro l cs->aB Ro ys vs->
  aB Ro r ((vs.zipIdx).foldl (λ(c:List Value) (x:Value×Nat)=>c.set (o+x.2) x.1) cs)
 | [],l,o,r,vs,cs,h,h1,h2=>by
   cases h2
   simp only [put,ak] at h
   subst h
   simpa using h1
 | y::ys,l,o,r,vs,cs,h,h1,h2=>by
   cases h2 with
   | cons a b=>
     rename_i v m
     simp only [put] at h
     split at h
     .have:=CA (av:=av) h (by rw [aT]; exact h1.set o a) b
      rw [List.zipIdx_cons,List.foldl_cons]
      simp only [Nat.add_zero]
      rw [List.zipIdx_eq_map_add]
      rw [List.foldl_map]
      simpa [Nat.add_assoc,Nat.add_comm 1] using this
     .simp at h
theorem ux (off:Nat):∀ (vs:List Value) (k:Nat) (cs:Array Value),
  ((vs.zipIdx k).foldl (λ(cs:Array Value) (x:Value×Nat)=>cs.setIfInBounds (off+x.2) x.1) cs).toList=(vs.zipIdx k).foldl (λ(c:List Value) (x:Value×Nat)=>c.set (off+x.2) x.1) cs.toList
 | [],_,_=>rfl
 | v::vs,k,cs=>by
   simp only [List.zipIdx_cons,List.foldl_cons]
   rw [ux off vs (k+1)]
   simp
theorem mK {av:Nat->Prop} {d:D} {v:Value} (h:aZ E av w d v) {cs:List C} (hc:d.cells=some cs):aB (bg E av w) cs v.cells.toList:=by
 cases d with
 | c x=>
   simp only [D.cells,ak] at hc
   subst hc
   have h1:=bg.one h
   have:v.cells = #[v]:=by cases v<;>simp_all [Value.cells,Value.oneCell']
   rw [this]
   exact .cons h .nil
 | a l=>
   simp only [D.cells,ak] at hc
   subst hc
   obtain ⟨cs,rfl,h2⟩:=h
   exact h2
 | t l=>simp [D.cells] at hc
theorem EJ (h:R T N ay w0 sp s a w E) {g:e5} (hg:bJ a g) {qT:List (Nat×Nat)} {place:Nat->Option (Nat×Nat)} (Gb:∀ i x,qT[i]?=some x->place i=some x) :
  ∀ {parts:List (Nat×Operand)} {l r:List C} {cs:Array Value},yU qT s g parts l=some r->aB (bg E (AV ay s.rs E) w) l cs.toList->
  ∃ oH,Instr.fill place cs (parts.map λx=>(x.1,a.eval x.2))=some oH/\aB (bg E (AV ay s.rs E) w) r oH.toList
 | [],l,r,cs,e,hl=>by
   simp only [yU,ak] at e
   subst e
   exact ⟨cs,rfl,hl⟩
 | (k,x)::parts,l,r,cs,e,hl=>by
   simp only [yU] at e
   split at e
   case h_2=>simp at e
   rename_i o sz d hk hx
   rw [bp] at hk
   split at e
   case h_2=>simp at e
   rename_i ks hks
   split at e
   case h_2=>simp at e
   rename_i fo
   simp only [dJ] at fo
   obtain ⟨fo,fH⟩:=fo
   have fo:=bK fo
   have fH:=aM fH
   split at e
   case h_2=>simp at e
   rename_i l' vU
   have hv:=mK (h.ev hg hx) hks
   have hlen:=hv.length
   have oB:=sy vU
   have hcl:=hl.length
   have hp:=CA (av:=AV ay s.rs E) vU hl hv
   obtain ⟨oH,h1,h2⟩:=EJ h hg Gb (cs:=((a.eval x).cells.zipIdx.foldl (λcs (y:Value×Nat)=>cs.setIfInBounds (o+y.2) y.1) cs)) e (by
    have:=ux o (a.eval x).cells.toList 0 cs
    rw [<- Array.foldl_toList,Array.toList_zipIdx,this]
    exact hp)
   refine ⟨oH,?_,h2⟩
   simp only [List.map_cons,Instr.fill,Gb _ _ hk]
   have h3:(a.eval x).cells.size=sz:=by rw [<- fo,hlen]; simp
   have h4:¬ (o+sz>cs.size):=by
    rw [fo] at oB
    have:cs.size=l.length:=by rw [hcl]; simp
    rcases oB with oB|oB
    .omega
    .subst oB
     simp at fo
     omega
   rw [if_neg (by simp [h3]; omega)]
   exact h1
end
open Go.RowKit
section
variable {P:Program} {T:dL} {N:Nat} {ay:Nat->Prop} {w0:Kp} {sp:List (D×Value)} {s:VS} {a:Act} {w:World} {E:Env}
theorem yW {P:Program}:∀ {fs:List Field} {l:List (Nat×Nat)} {k:Nat} {o sz:Nat},nE P fs=some l->l[k]?=some (o,sz)->∃ f,fs[k]?=some f/\f.offset=o/\(P.info? f.type).map (·.size)=some sz
 | [],l,k,o,sz,h,hk=>by simp [nE] at h; subst h; simp at hk
 | f::fs,l,k,o,sz,h,hk=>by
   simp only [nE] at h
   split at h
   .rename_i i l' hi hl
    simp only [ak] at h
    subst h
    cases k with
    | zero=>simp at hk; exact ⟨f,rfl,hk.1,by simp [hi,hk.2]⟩
    | succ k=>simp at hk; obtain ⟨g,h1,h2⟩:=yW hl hk; exact ⟨g,by simpa using h1,h2⟩
   .simp at h
theorem vP (bQ:dH P T) (h:R T N ay w0 sp s a w E) {g:e5} (hg:bJ a g) {t:TypeId} {x:Operand} {f:Nat} {p:Option Prop} {d:D} (e:bm T s g (.fieldAddr t x f)=some (p,d)) (hp:need p) :
  ∃ v,(∀ w',(Instr.fieldAt t (a.eval x) f).run P w'=.ok v w')/\aZ E (AV ay s.rs E) w d v:=by
 simp only [bm] at e
 split at e
 case h_2=>simp at e
 rename_i xj gY z0 fs hy
 have hy:=bQ.ty _ _ hy
 obtain ⟨gs,hu,ho⟩:=hy.struct rfl
 split at e
 case h_2=>simp at e
 rename_i o sz hk
 rw [bp] at hk
 obtain ⟨fl,hf1,hf2,hf3⟩:=yW ho hk
 split at e
 case h_2=>simp at e
 rename_i fH
 have fH:=aM fH
 have run:∀ (ad:Addr) (w':World),(Instr.fieldAt t (.pointer (some ad)) f).run P w'=.ok (.pointer (some (ad.add o))) w':=by
  intro ad w'
  have hf1':gs[f]?=some fl:=by simpa using hf1
  simp [Instr.fieldAt,run_underlying hu,hf1',Instr.sureAddr,fieldPlace,run_sizeOf hf3,hf2,show ¬ sz=0 by omega]
 split at e
 case h_3=>simp at e
 .rename_i r i j hx
  obtain ⟨b,cF,hr,hv⟩:=h.ev hg hx
  simp only [ak,bw] at e
  obtain ⟨rfl,rfl⟩:=e
  rw [hv]
  exact ⟨_,run _,b,cF,hr,by rw [Addr.add_mid,Nat.add_assoc]⟩
 .rename_i n get hx
  obtain ⟨ad,hv,hs,h1,h2,hc⟩:=h.ev hg hx
  split at e
  case h_2=>simp at e
  rename_i hle
  have hle:=ew hle
  simp only [ak,bw] at e
  obtain ⟨rfl,rfl⟩:=e
  rw [hv]
  refine ⟨_,run _,ad.add o,rfl,yR _ hs _,by rw [block_add]; exact h1,by rw [block_add]; exact h2,λj hj=>?_⟩
  rw [add_add _ hs]
  exact hc (o+j) (by omega)
theorem vL (bQ:dH P T) (h:R T N ay w0 sp s a w E) {g:e5} (hg:bJ a g) {t:TypeId} {x ix:Operand} {p:Option Prop} {d:D} (e:bm T s g (.indexAddr t x ix)=some (p,d)) (hp:need p) :
  ∃ v,(∀ w',(Instr.indexAt t (a.eval x) (a.eval ix)).run P w'=.ok v w')/\aZ E (AV ay s.rs E) w d v:=by
 simp only [bm] at e
 split at e
 case h_2=>simp at e
 rename_i xj gY z0 el hy
 have hy:=(bQ.ty _ _ hy).slice rfl
 split at e
 case h_2=>simp at e
 rename_i y hye
 have hye:=bQ.ty _ _ hye
 split at e
 case h_2=>simp at e
 rename_i i hi
 have hi:=(h.ev hg hi).1
 have run:∀ (ad:Addr) (len cap:Nat),0<=i/\i<(len:Int)->∀ w',(Instr.indexAt t (.slice (some ad) len cap) (.int .i64 i)).run P w'=.ok (.pointer (some (ad.add (i.toNat*y.size)))) w':=by
  intro ad len cap hb w'
  simp [Instr.indexAt,run_underlying hy,asIntOf,hb,run_sizeOf hye.sz]
 rw [hi]
 split at e
 case h_3=>simp at e
 .rename_i sz n get hx
  obtain ⟨ao,cap,hv,hn,hm,hc⟩:=h.ev hg hx
  split at e
  case h_2=>simp at e
  rename_i fo
  have fo:=bK fo
  simp only [ak,bw] at e
  obtain ⟨rfl,rfl⟩:=e
  simp only [need] at hp
  obtain ⟨ad,rfl,hs,h1,h2,hc⟩:=hc (by omega)
  rw [hv]
  refine ⟨_,run ad n cap hp,ad.add (i.toNat*y.size),rfl,yR _ hs _,by rw [block_add]; exact h1,by rw [block_add]; exact h2,λj hj=>?_⟩
  rw [add_add _ hs,<- fo]
  exact hc i.toNat (by omega) j hj
 .rename_i r m hx
  obtain ⟨e',ao,n,cap,h1,h2,h3,hv⟩:=h.ev hg hx
  split at e
  .rename_i pF sz n' get hl
   rw [bp] at hl
   split at e
   case h_2=>simp at e
   rename_i fo
   have fo:=bK fo
   simp only [ak,bw] at e
   obtain ⟨rfl,rfl⟩:=e
   simp only [need] at hp
   obtain ⟨q1,q2,xs,⟨_,q3⟩,q4⟩:=h.roots r _ _ hl h1
   rcases q3 with ⟨q3,_⟩|⟨g',cap',cur,q3,_⟩
   .rw [h2] at q3
    simp at q3
    omega
   .rw [h2] at q3
    simp only [dK] at q3
    obtain ⟨rfl,_,_⟩:=q3
    rw [hv]
    refine ⟨_,run _ m cap hp,g',sz,⟨e'.2.1,?_⟩,?_⟩
    .rw [h1]
     obtain ⟨e1,e2,e3⟩:=e'
     simp only at q1 q2 h2
     subst q1
     rw [h2] at q2
     simp only [Value.ownBlock] at q2
     rw [q2]
    .rw [Addr.add_mid,fo]; simp
  .rename_i pF sz n' l' hl
   rw [bp] at hl
   split at e
   case h_2=>simp at e
   rename_i fo
   have fo:=bK fo
   simp only [ak,bw] at e
   obtain ⟨rfl,rfl⟩:=e
   simp only [need] at hp
   obtain ⟨q1,q2,xs,⟨_,q3⟩,q4⟩:=h.roots r _ _ hl h1
   rcases q3 with ⟨q3,_⟩|⟨g',cap',cur,q3,_⟩
   .rw [h2] at q3
    simp at q3
    omega
   .rw [h2] at q3
    simp only [dK] at q3
    obtain ⟨rfl,_,_⟩:=q3
    rw [hv]
    refine ⟨_,run _ m cap hp,g',sz,⟨e'.2.1,?_⟩,?_⟩
    .rw [h1]
     obtain ⟨e1,e2,e3⟩:=e'
     simp only at q1 q2 h2
     subst q1
     rw [h2] at q2
     simp only [Value.ownBlock] at q2
     rw [q2]
    .rw [Addr.add_mid,fo]; simp
  .rename_i pF sz n' get' kE hl
   rw [bp] at hl
   split at e
   case h_2=>simp at e
   rename_i fo
   have fo:=bK fo
   simp only [ak,bw] at e
   obtain ⟨rfl,rfl⟩:=e
   simp only [need] at hp
   obtain ⟨q1,q2,xs,⟨_,q3⟩,q4⟩:=h.roots r _ _ hl h1
   rcases q3 with ⟨q3,_⟩|⟨g',cap',cur,q3,_⟩
   .rw [h2] at q3
    simp at q3
    omega
   .rw [h2] at q3
    simp only [dK] at q3
    obtain ⟨rfl,_,_⟩:=q3
    rw [hv]
    refine ⟨_,run _ m cap hp,g',sz,⟨e'.2.1,?_⟩,?_⟩
    .rw [h1]
     obtain ⟨e1,e2,e3⟩:=e'
     simp only at q1 q2 h2
     subst q1
     rw [h2] at q2
     simp only [Value.ownBlock] at q2
     rw [q2]
    .rw [Addr.add_mid,fo]; simp
  .simp at e
theorem lX (h:R T N ay w0 sp s a w E) {g:e5} (hg:bJ a g):∀ {xs:List Operand} {ds:List D},GR s g xs=some ds->aB (aZ E (AV ay s.rs E) w) ds (xs.map a.eval)
 | [],ds,e=>by simp [GR] at e; subst e; exact .nil
 | x::xs,ds,e=>by
   simp only [GR] at e
   split at e
   .rename_i d r h1 h2
    simp only [ak] at e
    subst e
    exact .cons (h.ev hg h1) (lX h hg h2)
   .simp at e
theorem qn {P:Program} {w:World}:∀ {fs:List Field} {l:List (Nat×Nat)},nE P fs=some l->
  (fs.mapM λ(f:Field)=>(do pure (f.offset,<- sizeOf f.type):Sem (Nat×Nat))).run P w=.ok l w
 | [],l,h=>by simp [nE] at h; subst h; simp
 | f::fs,l,h=>by
   simp only [nE] at h
   split at h
   .rename_i i l' hi hl
    simp only [ak] at h
    subst h
    have ih:=qn (w:=w) hl
    rw [List.mapM_cons]
    simp only [Sem.run_bind,run_sizeOf (P:=P) (t:=f.type) (n:=i.size) (by simp [hi]),Result.andThen_ok,Sem.run_pure,ih]
   .simp at h
theorem Ee (bQ:dH P T) (h:R T N ay w0 sp s a w E) {g:e5} (hg:bJ a g) {t:TypeId} {parts:Array (Nat×Operand)} {p:Option Prop} {d:D} (e:bm T s g (.build t parts)=some (p,d)) (hp:need p) :
  ∃ v,(∀ w',(Instr.build t (parts.map λ(i,x)=>(i,a.eval x))).run P w'=.ok v w')/\aZ E (AV ay s.rs E) w d v:=by
 simp only [bm] at e
 split at e
 case h_2=>simp at e
 rename_i y hy
 have hy:=bQ.ty _ _ hy
 split at e
 case h_2=>simp at e
 rename_i fs hkd
 obtain ⟨gs,hu,ho⟩:=hy.struct hkd
 split at e
 case h_2=>simp at e
 rename_i z hz
 split at e
 case h_2=>simp at e
 rename_i l hl
 simp only [ak,bw] at e
 obtain ⟨rfl,rfl⟩:=e
 obtain ⟨inf,hi,_,_,hzero⟩:=hy.full
 obtain ⟨oH,h1,h2⟩:=EJ h hg (qT:=fs) (place:=λi=>fs.toArray[i]?) (λi x hx=>by simpa using hx) (cs:=y.zero.cells) hl (kQ hz)
 refine ⟨.agg oH,λw'=>?_,_,rfl,h2⟩
 have hm:(gs.mapM λ(f:Field)=>(do pure (f.offset,<- sizeOf f.type):Sem (Nat×Nat))).run P w'=.ok fs.toArray w':=by
  have hgs:gs=gs.toList.toArray:=rfl
  rw [hgs,List.mapM_toArray]
  simp only [Sem.run_map,qn ho,Result.andThen_ok]
 have hparts:(parts.map λ(i,x)=>(i,a.eval x)).toList=parts.toList.map λx=>(x.1,a.eval x.2):=by simp
 have hz0:(zeroValue t).run P w'=.ok y.zero w':=by simp [zeroValue,typeInfo,hi,hzero]
 rw [<- hparts] at h1
 simp only [Instr.build,Sem.run_bind,hz0,Result.andThen_ok,run_underlying hu,hm]
 have ku:Instr.fill (λx=>fs.toArray[x]?) y.zero.cells (Array.map (λ(x:Nat×Operand)=>(x.fst,a.eval x.snd)) parts).toList=some oH:=h1
 rw [ku]
 rfl
theorem mJ {av:Nat->Prop} {r:Nat} {v:Value} (hv:bg E av w (.rt r 0 0) v):∃ b sz,bq E r b sz/\v=.pointer (some ⟨b,0,none⟩):=by
 obtain ⟨b,sz,h1,h2⟩:=hv
 exact ⟨b,sz,h1,by simpa using h2⟩
theorem zL (bQ:dH P T) (h:R T N ay w0 sp s a w E) {g:e5} (hg:bJ a g) {b:Builtin} {argTypes:Array TypeId} {args:Array Operand} {p:Option Prop} {d:D} (type:TypeId) (Nx:Array Bool) (e:gw T b argTypes.toList (GR s g args.toList)=some (p,d)) (hp:need p) :
  ∃ v,(∀ w',(builtin b argTypes type Nx (args.map a.eval)).run P w'=.ok (.value v) w')/\aZ E (AV ay s.rs E) w d v:=by
 have one:∀ {d:D},GR s g args.toList=some [d]->∃ v,args.map a.eval = #[v]/\aZ E (AV ay s.rs E) w d v:=by
  intro d hx
  have hx:=lX h hg hx
  have:args.map a.eval=(List.map a.eval args.toList).toArray:=by rw [<- Array.toList_map]
  rw [this]
  revert hx
  generalize List.map a.eval args.toList=vs
  intro hx
  cases hx with
  | cons q1 q2=>cases q2; exact ⟨_,rfl,q1⟩
 have two:∀ {d d':D},GR s g args.toList=some [d,d']->∃ v v',args.map a.eval = #[v,v']/\aZ E (AV ay s.rs E) w d v/\aZ E (AV ay s.rs E) w d' v':=by
  intro d d' hx
  have hx:=lX h hg hx
  have:args.map a.eval=(List.map a.eval args.toList).toArray:=by rw [<- Array.toList_map]
  rw [this]
  revert hx
  generalize List.map a.eval args.toList=vs
  intro hx
  cases hx with
  | cons q1 q2=>cases q2 with
    | cons q3 q4=>cases q4; exact ⟨_,_,rfl,q1,q3⟩
 cases b
 case len=>
  simp only [gw] at e
  split at e
  case h_2=>simp at e
  rename_i t d' ht hx
  obtain ⟨v,hv,hd⟩:=one hx
  have ht:argTypes = #[t]:=by
   have:argTypes=argTypes.toList.toArray:=rfl
   rw [this,ht]
  subst ht
  rw [hv]
  split at e
  case h_2=>simp at e
  rename_i y hy
  have hy:=bQ.ty _ _ hy
  have run:∀ (v:Value) (n:Int),(∀ w',(Builtin.len_ #[t] type #[v]).run P w'=.ok (goInt n) w')->∀ w',(builtin .len #[t] type Nx #[v]).run P w'=.ok (.value (.int .i64 n)) w':=by
   intro v n hr w'
   simp only [builtin]
   simp [hr,goInt]
  split at e
  .rename_i el sz n get hk
   obtain ⟨ao,cap,rfl,_⟩:=hd
   simp only [ak,bw] at e
   obtain ⟨rfl,rfl⟩:=e
   exact ⟨_,run _ n (λw'=>by simp [Builtin.len_,run_underlying (hy.slice hk)]),rfl,rfl⟩
  .rename_i el r m hk
   obtain ⟨e',ao,n,cap,_,_,_,rfl⟩:=hd
   simp only [ak,bw] at e
   obtain ⟨rfl,rfl⟩:=e
   exact ⟨_,run _ m (λw'=>by simp [Builtin.len_,run_underlying (hy.slice hk)]),rfl,rfl⟩
  .rename_i el ad n c hk
   obtain ⟨rfl,_⟩:=hd
   simp only [ak,bw] at e
   obtain ⟨rfl,rfl⟩:=e
   exact ⟨_,run _ n (λw'=>by simp [Builtin.len_,run_underlying (hy.slice hk)]),rfl,rfl⟩
  .rename_i b hk
   obtain ⟨rfl,_⟩:=hd
   simp only [ak,bw] at e
   obtain ⟨rfl,rfl⟩:=e
   exact ⟨_,run _ b.size (λw'=>by simp [Builtin.len_,run_underlying (hy.strs hk)]),rfl,rfl⟩
  .simp at e
 case max=>
  simp only [gw] at e
  split at e
  case h_2=>simp at e
  rename_i x y hx
  obtain ⟨v,v',hv,⟨rfl,_⟩,⟨rfl,_⟩⟩:=two hx
  simp only [ak,bw] at e
  obtain ⟨rfl,rfl⟩:=e
  rw [hv]
  exact ⟨_,λw'=>by simp [builtin,Builtin.max_,Builtin.max2],rfl,rfl⟩
 case min=>
  simp only [gw] at e
  split at e
  case h_2=>simp at e
  rename_i x y hx
  obtain ⟨v,v',hv,⟨rfl,_⟩,⟨rfl,_⟩⟩:=two hx
  simp only [ak,bw] at e
  obtain ⟨rfl,rfl⟩:=e
  rw [hv]
  exact ⟨_,λw'=>by simp [builtin,Builtin.min_,Builtin.min2],rfl,rfl⟩
 all_goals simp [gw] at e
theorem l7 (n:Int):∀ {l:List Int} {es:List MapEntry},aB (λn (x:MapEntry)=>x.key=.int .i64 n/\x.val=.bool true) l es->∀ i,
  (dX n l=true/\∃ k e,Instr.findNow (.int .i64) (.int .i64 n) es i=some (some (i+k,.bool true))/\es[k]?=some e/\e.key=.int .i64 n)∨(dX n l=false/\Instr.findNow (.int .i64) (.int .i64 n) es i=some none)
 | _,_,.nil,i=>.inr ⟨rfl,rfl⟩
 | x::l,e::es,.cons h1 h2,i=>by
   simp only [dX,Instr.findNow,h1.1,Instr.sameNow,if_true]
   cases hx:n==x with
   | true=>
     have:n=x:=by simpa using hx
     exact .inl ⟨rfl,0,e,by simp [h1.2],rfl,by rw [h1.1,this]⟩
   | false=>
     rcases l7 n h2 (i+1) with ⟨q1,k,e',q2,q3,q4⟩|⟨q1,q2⟩
     .exact .inl ⟨q1,k+1,e',by simp only [q2]; congr 2; simp only [bw,and_true]; omega,by simpa using q3,q4⟩
     .exact .inr ⟨q1,q2⟩
theorem cz.map {P:Program} {t:TypeId} {y:Ty} (h:cz P t y) {k e:Nat} (hk:y.kd=.map k e):P.underlying t=some (.map k e):=by
 have:=h.kd
 rw [hk] at this
 unfold vG at this
 split at this<;>(try split at this)<;>simp_all
theorem cz.int {P:Program} {t:TypeId} {y:Ty} (h:cz P t y) (hk:y.kd=.int):P.underlying t=some (.int .i64):=by
 have:=h.kd
 rw [hk] at this
 unfold vG at this
 split at this<;>(try split at this)<;>simp_all
theorem fQ {P:Program} {k:TypeId} (hk:P.underlying k=some (.int .i64)) (em:Bool) (n:Int) (w:World):(Instr.checkKey em 10000 k (.int .i64 n)).run P w=.ok () w:=by
 unfold Instr.checkKey
 simp [Go.underlying,Go.program,Sem.run,hk]
theorem BQ (bQ:dH P T) (h:R T N ay w0 sp s a w E) {g:e5} (hg:bJ a g) {t:TypeId} {x i:Operand} {ok:Bool} {p:Option Prop} {d:D} (e:bm T s g (.lookup t x i ok)=some (p,d)) :
  ∃ v,(∀ w',Below w.heap.size w w'->(Instr.lookup t (a.eval x) (a.eval i) ok).run P w'=.ok v w')/\aZ E (AV ay s.rs E) w d v:=by
 cases ok with
 | true=>simp [bm] at e
 | false=>
   simp only [bm] at e
   split at e
   case h_2=>simp at e
   rename_i s1 b1 z1 k el nl
   have nl:=(bQ.ty _ _ nl).map rfl
   split at e
   case h_2=>simp at e
   rename_i s2 b2 z2 s3 b3 kd3 AD hye
   have AD:=(bQ.ty _ _ AD).int rfl
   have hye:=bQ.ty _ _ hye
   obtain ⟨inf,hin,_,_,hz⟩:=hye.full
   have run:∀ {b:Nat} {es:Array MapEntry} {clock:Nat} {l:List Int} {n:Int},w.heap[b]?=some (.map es clock)->aB (λn (x:MapEntry)=>x.key=.int .i64 n/\x.val=.bool true) l es.toList->a.eval x=.map (some b)->a.eval i=.int .i64 n->
     ∀ w',Below w.heap.size w w'->(Instr.lookup t (a.eval x) (a.eval i) false).run P w'=.ok (.bool (dX n l)) w':=by
    intro b es clock l n h2 h3 hx hi w' hb
    have dB:b<w.heap.size:=(Array.getElem?_eq_some_iff.1 h2).1
    have hb2:w'.heap[b]?=some (.map es clock):=(hb.block b dB).trans h2
    have hu:(Go.underlying t).run P w'=.ok (.map k el) w':=by simp [Go.underlying,Go.program,Sem.run,nl]
    have huk:(Go.underlying k).run P w'=.ok (.int .i64) w':=by simp [Go.underlying,Go.program,Sem.run,AD]
    have hg':(getObj b).run P w'=.ok (.map es clock) w':=by simp [getObj,Sem.run,hb2]
    have hz0:(zeroValue el).run P w'=.ok (.bool false) w':=by simp [zeroValue,typeInfo,hin,hz]
    have hf:(Instr.findKey k (.int .i64 n) es.toList).run P w'=.ok (match Instr.findNow (.int .i64) (.int .i64 n) es.toList 0 with|some r=>r|none=>none) w':=by
     rcases l7 n h3 0 with ⟨q1,k',e',q2,q3,q4⟩|⟨q1,q2⟩<;>simp [Instr.findKey,huk,q2]
    unfold Instr.lookup
    simp only [hx,hi,Sem.run_bind,hu,hg',Result.andThen_ok,fQ AD,hf,Sem.run_pure]
    rcases l7 n h3 0 with ⟨q1,k',e',q2,q3,q4⟩|⟨q1,q2⟩
    .simp [q2,q1]
    .simp [q2,q1,hz0]
   split at e
   .rename_i r n hx hi
    obtain ⟨b,sz,ji,hx⟩:=h.ev hg hx
    have hi:=(h.ev hg hi).1
    split at e
    case h_2=>simp at e
    rename_i l hl
    simp only [ak,bw] at e
    obtain ⟨rfl,rfl⟩:=e
    rw [bp] at hl
    obtain ⟨hh,hE⟩:=ji
    obtain ⟨b',es,clock,h1,h2,h3⟩:=h.roots r _ _ hl hE
    have h1:some b=some b':=h1
    simp only [ak] at h1
    subst h1
    exact ⟨.bool (dX n l),run h2 h3 hx hi,rfl,rfl⟩
   .rename_i l n hx hi
    obtain ⟨b,es,clock,hx,_,h2,h3⟩:=h.ev hg hx
    have hi:=(h.ev hg hi).1
    simp only [ak,bw] at e
    obtain ⟨rfl,rfl⟩:=e
    exact ⟨.bool (dX n l),run h2 h3 hx hi,rfl,rfl⟩
   .simp at e
theorem jc (bQ:dH P T) {t:TypeId} {el:TypeId} {y:Ty} (hy:T.ty el=some y) (nl:P.underlying t=some (.slice el)) (ad:Option Addr) (n cap:Nat) (h:Int) (h0:0<=h) (h1:h<=(cap:Int)) (w':World) :
  (Instr.sliceAt t (.slice ad n cap) none (some (.int .i64 h)) none).run P w'=.ok (.slice ad h.toNat cap) w':=by
 have he:P.elem t=el:=by simp [Program.elem,nl]
 have ht:P.underlying t=some (.slice (P.elem t)):=by rw [he]; exact nl
 rw [run_sliceAt_slice w' t _ _ _ _ ht,run_slice_h w' t ad n cap ht .i64 h h0 h1,he,run_sizeOf (bQ.ty _ _ hy).sz,Result.andThen_ok]
 simp only [sliced,Nat.zero_mul,Nat.sub_zero]
 congr 2
 split
 .rfl
 .cases ad<;>simp [Addr.add]
theorem Fw (bQ:dH P T) (h:R T N ay w0 sp s a w E) {g:e5} (hg:bJ a g) {t:TypeId} {x hi:Operand} {p:Option Prop} {d:D} (e:bm T s g (.slice t x none (some hi) none)=some (p,d)) (hp:need p) :
  ∃ v,(∀ w',(Instr.sliceAt t (a.eval x) none (some (a.eval hi)) none).run P w'=.ok v w')/\aZ E (AV ay s.rs E) w d v:=by
 simp only [bm] at e
 split at e
 case h_2=>simp at e
 rename_i s1 b1 z1 el hyt'
 have nl:=(bQ.ty _ _ hyt').slice rfl
 split at e
 case h_2=>simp at e
 rename_i yel hyel
 split at e
 .rename_i sz n get ih hx hi
  obtain ⟨ad,cap,hx,q1,q2,q3⟩:=h.ev hg hx
  have hi:=(h.ev hg hi).1
  simp only [ak,bw] at e
  obtain ⟨rfl,rfl⟩:=e
  obtain ⟨p1,p2⟩:=hp
  refine ⟨.slice ad ih.toNat cap,λw'=>?_,ad,cap,rfl,by omega,by omega,λh0=>?_⟩
  .rw [hx,hi]
   exact jc bQ hyel nl ad n cap ih p1 (by omega) w'
  .obtain ⟨a1,r1,r2,r3,r4,r5⟩:=q3 (by omega)
   exact ⟨a1,r1,r2,r3,r4,λi jW j hj=>r5 i (by omega) j hj⟩
 .rename_i r m ih hx hi
  obtain ⟨e0,ad,n,cap,hE,hv,hm,hx⟩:=h.ev hg hx
  have hi:=(h.ev hg hi).1
  split at e
  .rename_i pF cF n' get' hr
   simp only [ak,bw] at e
   obtain ⟨rfl,rfl⟩:=e
   obtain ⟨p1,p2⟩:=hp
   rw [bp] at hr
   obtain ⟨_,_,xs,eE,_⟩:=h.roots r _ _ hr hE
   have hcap:n<=cap:=by
    rw [hv] at eE
    rcases eE.2 with ⟨h1,_⟩|⟨g,c,cur,h1,_,_,h2,_⟩
    .simp only [dK] at h1; omega
    .simp only [dK] at h1; omega
   refine ⟨.slice ad ih.toNat cap,λw'=>?_,e0,ad,n,cap,hE,hv,by omega,rfl⟩
   rw [hx,hi]
   exact jc bQ hyel nl ad m cap ih p1 (by omega) w'
  .rename_i pF cF n' l' hr
   simp only [ak,bw] at e
   obtain ⟨rfl,rfl⟩:=e
   obtain ⟨p1,p2⟩:=hp
   rw [bp] at hr
   obtain ⟨_,_,xs,eE,_⟩:=h.roots r _ _ hr hE
   have hcap:n<=cap:=by
    rw [hv] at eE
    rcases eE.2 with ⟨h1,_⟩|⟨g,c,cur,h1,_,_,h2,_⟩
    .simp only [dK] at h1; omega
    .simp only [dK] at h1; omega
   refine ⟨.slice ad ih.toNat cap,λw'=>?_,e0,ad,n,cap,hE,hv,by omega,rfl⟩
   rw [hx,hi]
   exact jc bQ hyel nl ad m cap ih p1 (by omega) w'
  .rename_i pF cF n' get' kE hr
   simp only [ak,bw] at e
   obtain ⟨rfl,rfl⟩:=e
   obtain ⟨p1,p2⟩:=hp
   rw [bp] at hr
   obtain ⟨_,_,xs,eE,_⟩:=h.roots r _ _ hr hE
   have hcap:n<=cap:=by
    rw [hv] at eE
    rcases eE.2 with ⟨h1,_⟩|⟨g,c,cur,h1,_,_,h2,_⟩
    .simp only [dK] at h1; omega
    .simp only [dK] at h1; omega
   refine ⟨.slice ad ih.toNat cap,λw'=>?_,e0,ad,n,cap,hE,hv,by omega,rfl⟩
   rw [hx,hi]
   exact jc bQ hyel nl ad m cap ih p1 (by omega) w'
  .simp at e
 .rename_i ih hx hi
  have hx:=(h.ev hg hx).1
  have hi:=(h.ev hg hi).1
  simp only [ak,bw] at e
  obtain ⟨rfl,rfl⟩:=e
  have hp:ih=0:=hp
  subst hp
  refine ⟨.slice none 0 0,λw'=>?_,rfl,rfl⟩
  rw [hx,hi]
  exact jc bQ hyel nl none 0 0 0 (by omega) (by omega) w'
 .simp at e
theorem BN (bQ:dH P T) (h:R T N ay w0 sp s a w E) {g:e5} (hg:bJ a g) {o:Oper} {p:Option Prop} {d:D} (e:bm T s g o.op=some (p,d)) (hp:need p) :
  ∃ v,(∀ w',Below w.heap.size w w'->(execOp a.eval o).run P w'=.ok (.value v) w')/\aZ E (AV ay s.rs E) w d v:=by
 obtain ⟨dst,op,type,pos,after,guard⟩:=o
 simp only at e
 cases op
 case load t x=>
  obtain ⟨v,h1,h2⟩:=qY bQ h hg e hp
  exact ⟨v,λw' hb=>b4 (h1 w' hb),h2⟩
 case fieldAddr t x f=>
  obtain ⟨v,h1,h2⟩:=vP bQ h hg e hp
  exact ⟨v,λw' _=>b4 (h1 w'),h2⟩
 case indexAddr t x ix=>
  obtain ⟨v,h1,h2⟩:=vL bQ h hg e hp
  exact ⟨v,λw' _=>b4 (h1 w'),h2⟩
 case build t parts=>
  obtain ⟨v,h1,h2⟩:=Ee bQ h hg e hp
  exact ⟨v,λw' _=>b4 (h1 w'),h2⟩
 case move x=>
  simp only [bm] at e
  split at e
  .rename_i d' hx
   simp only [ak,bw] at e
   obtain ⟨rfl,rfl⟩:=e
   exact ⟨_,λ_ _=>rfl,h.ev hg hx⟩
  .simp at e
 case assign x=>
  simp only [bm] at e
  split at e
  .rename_i d' hx
   simp only [ak,bw] at e
   obtain ⟨rfl,rfl⟩:=e
   exact ⟨_,λ_ _=>rfl,h.ev hg hx⟩
  .simp at e
 case pick c x y=>
  cases c
  case tmp t=>
   simp only [bm] at e
   split at e
   case h_2=>simp at e
   rename_i b hb
   have hb:=(h.ev hg hb).1
   split at e
   case h_2=>simp at e
   rename_i bx bY hx hy
   simp only [ak,bw] at e
   obtain ⟨rfl,rfl⟩:=e
   cases b with
   | true=>
     have hx:=(h.ev (g:=(t,true)::g) (λq hq=>by
      cases hq with
      | head=>exact hb
      | tail _ hq=>exact hg q hq) hx).1
     refine ⟨.bool bx,λw' _=>?_,rfl,rfl⟩
     have LW:a.eval (.tmp t)=.bool true:=hb
     simp [execOp,LW,asBool,hx]
   | false=>
     have hy:=(h.ev (g:=(t,false)::g) (λq hq=>by
      cases hq with
      | head=>exact hb
      | tail _ hq=>exact hg q hq) hy).1
     refine ⟨.bool bY,λw' _=>?_,rfl,rfl⟩
     have LW:a.eval (.tmp t)=.bool false:=hb
     simp [execOp,LW,asBool,hy]
  all_goals simp [bm] at e
 case binOp op t x y t2=>
  simp only [bm] at e
  split at e
  .rename_i bx bY hx hy
   have hx:=(h.ev hg hx).1
   have hy:=(h.ev hg hy).1
   split at e
   case h_2=>simp at e
   rename_i nl
   have nl:=bQ.ty _ _ nl
   split at e
   .simp only [ak,bw] at e
    obtain ⟨rfl,rfl⟩:=e
    exact ⟨_,λw' _=>by simp only [execOp,hx,hy]; exact b4 (xw nl rfl bx bY x y).1,rfl,rfl⟩
   .simp only [ak,bw] at e
    obtain ⟨rfl,rfl⟩:=e
    exact ⟨_,λw' _=>by simp only [execOp,hx,hy]; exact b4 (xw nl rfl bx bY x y).2,rfl,rfl⟩
   .simp at e
  .rename_i vx vy _ hx hy
   have hx:=(h.ev hg hx).1
   have hy:=(h.ev hg hy).1
   split at e
   .rename_i z hz
    simp only [ak,bw] at e
    obtain ⟨rfl,rfl⟩:=e
    exact ⟨_,λw' _=>by simp only [execOp,hx,hy]; exact b4 (PH hz t x y),rfl,Q1 hz⟩
   .split at e
    .rename_i q z hz
     simp only [ak,bw] at e
     obtain ⟨rfl,rfl⟩:=e
     exact ⟨_,λw' _=>by simp only [execOp,hx,hy]; exact b4 (N9 hz hp t x y),rfl,OP hz⟩
    .simp at e
  .rename_i l m hx hy
   obtain ⟨cs,hx,hl⟩:=h.ev hg hx
   obtain ⟨ds,hy,hm⟩:=h.ev hg hy
   split at e
   case h_2=>simp at e
   rename_i ks hks
   split at e
   .rename_i b hb
    simp only [ak,bw] at e
    obtain ⟨rfl,rfl⟩:=e
    exact ⟨_,λw' LW=>by simp only [execOp,hx,hy]; exact b4 (bQ.eqs t ks hks l m b hb E _ w' cs ds (hl.mono λ_ _ q=>bg.mono (Env.le_refl E) (ba.mS LW) (λ_ _ q=>q) q) (hm.mono λ_ _ q=>bg.mono (Env.le_refl E) (ba.mS LW) (λ_ _ q=>q) q) x y).1,rfl,rfl⟩
   .rename_i b hb
    simp only [ak,bw] at e
    obtain ⟨rfl,rfl⟩:=e
    exact ⟨_,λw' LW=>by simp only [execOp,hx,hy]; exact b4 (bQ.eqs t ks hks l m b hb E _ w' cs ds (hl.mono λ_ _ q=>bg.mono (Env.le_refl E) (ba.mS LW) (λ_ _ q=>q) q) (hm.mono λ_ _ q=>bg.mono (Env.le_refl E) (ba.mS LW) (λ_ _ q=>q) q) x y).2,rfl,rfl⟩
   .simp at e
  .simp at e
 case slice t x lo hi mx=>
  cases lo with
  | some _=>simp [bm] at e
  | none=>cases hi with
    | none=>simp [bm] at e
    | some hi=>cases mx with
      | some _=>simp [bm] at e
      | none=>
        obtain ⟨v,h1,h2⟩:=Fw bQ h hg e hp
        exact ⟨v,λw' _=>b4 (h1 w'),h2⟩
 case lookup t x i ok=>
  obtain ⟨v,h1,h2⟩:=BQ bQ h hg e
  exact ⟨v,λw' hb=>b4 (h1 w' hb),h2⟩
 case unOp op t x=>
  cases op
  case not=>
   simp only [bm] at e
   split at e
   .rename_i b hx
    have hx:=(h.ev hg hx).1
    simp only [ak,bw] at e
    obtain ⟨rfl,rfl⟩:=e
    exact ⟨.bool (!b),λw' _=>by simp only [execOp,hx]; simp [Op.unary],rfl,rfl⟩
   .simp at e
  case neg=>
   simp only [bm] at e
   split at e
   .rename_i n hx
    have hx:=(h.ev hg hx).1
    simp only [ak,bw] at e
    obtain ⟨rfl,rfl⟩:=e
    exact ⟨.int .i64 (IntKind.i64.wrap (0-n)),λw' _=>by simp only [execOp,hx]; simp [Op.unary,Op.intArith],rfl,rfl⟩
   .simp at e
  all_goals simp [bm] at e
 case nilCheck x=>
  simp only [bm] at e
  split at e
  .rename_i r i j hx
   obtain ⟨b,sz,h1,hv⟩:=h.ev hg hx
   simp only [ak,bw] at e
   obtain ⟨rfl,rfl⟩:=e
   exact ⟨_,λw' _=>by simp only [execOp,hv]; rfl,b,sz,h1,rfl⟩
  .rename_i n get hx
   have hx:=h.ev hg hx
   obtain ⟨ad,hv,hr⟩:=hx
   simp only [ak,bw] at e
   obtain ⟨rfl,rfl⟩:=e
   exact ⟨_,λw' _=>by simp only [execOp,hv]; rfl,ad,rfl,hr⟩
  .rename_i f eA hx
   obtain ⟨vs,hv,hr⟩:=h.ev hg hx
   simp only [ak,bw] at e
   obtain ⟨rfl,rfl⟩:=e
   exact ⟨_,λw' _=>by simp only [execOp,hv]; rfl,vs,rfl,hr⟩
  .rename_i f n cap hx
   obtain ⟨vs,hv,hr⟩:=h.ev hg hx
   simp only [ak,bw] at e
   obtain ⟨rfl,rfl⟩:=e
   exact ⟨_,λw' _=>by simp only [execOp,hv]; rfl,vs,rfl,hr⟩
  .simp at e
 case extract x k=>
  simp only [bm] at e
  split at e
  case h_2=>simp at e
  rename_i l hx
  obtain ⟨vs,hv,hl⟩:=h.ev hg hx
  split at e
  .rename_i cs hk
   obtain ⟨v,h1,h2⟩:=hl.nth hk
   simp only [ak,bw] at e
   obtain ⟨rfl,rfl⟩:=e
   refine ⟨v,λw' _=>?_,h2⟩
   have ku:vs[k]?=some v:=by simpa using h1
   simp [execOp,hv,Instr.extract,ku]
  .rename_i c hk
   obtain ⟨v,h1,c',h2,h3⟩:=hl.nth hk
   simp only [ak,bw] at e
   obtain ⟨rfl,rfl⟩:=e
   simp only [List.cons.injEq,and_true] at h2
   subst h2
   refine ⟨v,λw' _=>?_,h3⟩
   have ku:vs[k]?=some v:=by simpa using h1
   simp [execOp,hv,Instr.extract,ku]
  .simp at e
 case makeFunc fn first eA=>
  simp only [bm] at e
  have run:∀ f,fn=.func f->first.toList=[]->∀ w',Below w.heap.size w w'->(execOp a.eval { dst:=dst,op:=.makeFunc fn first eA,type:=type,pos:=pos,after:=after,guard:=guard }).run P w'=.ok (.value (.func (.func f) #[] (eA.map a.eval))) w':=by
   intro f hf h0 w' _
   have:first = #[]:=by rw [<- Array.toList_eq_nil_iff]; exact h0
   subst this
   subst hf
   simp [execOp,Instr.makeFunc]
  split at e
  .rename_i f h0 hx
   have hx:=lX h hg hx
   simp only [ak,bw] at e
   obtain ⟨rfl,rfl⟩:=e
   refine ⟨_,run _ rfl h0,_,rfl,?_⟩
   have:(eA.map a.eval).toList=[]:=by rw [Array.toList_map]; cases hc:List.map a.eval eA.toList with
    | nil=>rfl
    | cons y ys=>rw [hc] at hx; cases hx
   rw [this]
   exact .nil
  .rename_i f r h0 hx
   have hx:=lX h hg hx
   simp only [ak,bw] at e
   obtain ⟨rfl,rfl⟩:=e
   refine ⟨_,run _ rfl h0,_,rfl,?_⟩
   rw [Array.toList_map]
   revert hx
   generalize List.map a.eval eA.toList=vs
   intro hx
   cases hx with
   | cons q1 q2=>
     cases q2
     exact .cons (mJ (av:=AV ay s.rs E) (w:=w) q1) .nil
  .rename_i f r r' h0 hx
   have hx:=lX h hg hx
   simp only [ak,bw] at e
   obtain ⟨rfl,rfl⟩:=e
   refine ⟨_,run _ rfl h0,_,rfl,?_⟩
   rw [Array.toList_map]
   revert hx
   generalize List.map a.eval eA.toList=vs
   intro hx
   cases hx with
   | cons q1 q2=>
     cases q2 with
     | cons q3 q4=>
       cases q4
       exact .cons (mJ (av:=AV ay s.rs E) (w:=w) q1) (.cons (mJ (av:=AV ay s.rs E) (w:=w) q3) .nil)
  .rename_i f r r' r'' h0 hx
   have hx:=lX h hg hx
   simp only [ak,bw] at e
   obtain ⟨rfl,rfl⟩:=e
   refine ⟨_,run _ rfl h0,_,rfl,?_⟩
   rw [Array.toList_map]
   revert hx
   generalize List.map a.eval eA.toList=vs
   intro hx
   cases hx with
   | cons q1 q2=>
     cases q2 with
     | cons q3 q4=>
       cases q4 with
       | cons q5 q6=>
         cases q6
         exact .cons (mJ (av:=AV ay s.rs E) (w:=w) q1) (.cons (mJ (av:=AV ay s.rs E) (w:=w) q3) (.cons (mJ (av:=AV ay s.rs E) (w:=w) q5) .nil))
  .simp at e
 case call c=>
  obtain ⟨callee,args,argTypes⟩:=c
  simp only [bm] at e
  split at e
  case h_2=>simp at e
  rename_i b
  have run:∀ v w',(builtin b argTypes type (args.map λ|.const _=>true|_=>false) (args.map a.eval)).run P w'=.ok (.value v) w' ->
    (execOp a.eval { dst:=dst,op:=.call { callee:=.builtin b,args:=args,argTypes:=argTypes },type:=type,pos:=pos,after:=after,guard:=guard }).run P w'=.ok (.value v) w':=by
   intro v w' hr
   simp only [execOp,resolve,Sem.run_bind,Sem.run_pure,Result.andThen_ok,invoke]
   exact hr
  obtain ⟨v,h1,h2⟩:=zL bQ h hg type (args.map λ|.const _=>true|_=>false) e hp
  exact ⟨v,λw' _=>run v w' (h1 w'),h2⟩
 all_goals simp [bm] at e
end
open Go.RowKit
section
variable {P:Program} {T:dL} {N:Nat} {ay:Nat->Prop} {w0:Kp} {sp:List (D×Value)} {s:VS} {a:Act} {w:World} {E:Env}
theorem l6:∀ {c:e5} {t:Tmp},ie t c=true->∀ p∈c,p.1≠t
 | [],t,_,p,hp=>by cases hp
 | x::c,t,h,p,hp=>by
   simp only [ie] at h
   split at h
   .simp at h
   .rename_i hx
    cases hp with
    | head=>intro e; subst e; simp [dq] at hx
    | tail _ hp=>exact l6 h p hp
theorem A1:∀ {sl:aK} {t:Tmp},free t sl=true->∀ {t' d c},look sl t'=some (d,c)->ie t c=true
 | [],t,_,t',d,c,h=>by simp [look] at h
 | x::sl,t,hf,t',d,c,h=>by
   obtain ⟨k,d',c'⟩:=x
   simp only [free] at hf
   split at hf
   .rename_i h1
    simp only [look] at h
    split at h
    .simp only [ak,bw] at h
     obtain ⟨rfl,rfl⟩:=h
     exact h1
    .exact A1 hf h
   .simp at hf
theorem lq {a:Act} {t t':Tmp} {v:Value} (h:t'≠t):(a.put (some t) v).tmps.getD t' undef=a.tmps.getD t' undef:=by
 simp [Act.put,Array.getElem?_setIfInBounds_ne (Ne.symm h)]
theorem zC {a:Act} {t:Tmp} {v:Value} (h:t<a.tmps.size):(a.put (some t) v).tmps.getD t undef=v:=by
 simp [Act.put,h]
theorem He {t:Nat} {g:e5} {sl:aK} (h:E6 N t g sl=true):t<N/\free t sl=true/\ie t g=true:=by
 unfold E6 at h
 split at h
 .rename_i h1
  split at h
  .rename_i h2
   exact ⟨aM h1,h2,h⟩
  .simp at h
 .simp at h
theorem pM {a:Act} {t:Tmp} {v:Value} {c:e5} (h:ie t c=true):bJ (a.put (some t) v) c↔bJ a c:=by
 have:=l6 h
 constructor<;>intro q p hp
 .have:=q p hp; rwa [lq (l6 h p hp)] at this
 .rw [lq (l6 h p hp)]; exact q p hp
theorem R.put (h:R T N ay w0 sp s a w E) {t:Nat} {d:D} {g:e5} {v:Value} (w5:E6 N t g s.sl=true)
  (h1:bJ a g->aZ E (AV ay s.rs E) w d v) (h2:¬ bJ a g->v=undef):R T N ay w0 sp { s with sl:=(t,d,g)::s.sl } (a.put (some t) v) w E:=by
 obtain ⟨hN,hf,hg⟩:=He w5
 refine ⟨by simp [Act.put,h.size],h.defers,h.spec,h.below,h.len,h.outer,h.roots,h.cS,h.dD,?_,h.gn⟩
 intro t' d' c' hl
 simp only [look] at hl
 split at hl
 .rename_i he
  have he:=bK he
  simp only [ak,bw] at hl
  obtain ⟨rfl,rfl⟩:=hl
  subst he
  have fo:t<a.tmps.size:=by rw [h.size]; exact hN
  rw [zC fo]
  refine ⟨hN,λq=>h1 ((pM hg).1 q),λq=>h2 λq'=>q ((pM hg).2 q')⟩
 .rename_i he
  have oZ:t'≠t:=by intro e; subst e; simp [dq] at he
  obtain ⟨q1,q2,q3⟩:=h.slots t' d' c' hl
  rw [lq oZ]
  have hc:=A1 hf hl
  exact ⟨q1,λq=>q2 ((pM hc).1 q),λq=>q3 λq'=>q ((pM hc).2 q')⟩
theorem lW {rs aJ:List ag} {E E':Env} {ay:Nat->Prop} {n:Nat} (h:∀ r x b sz,aJ[r]?=some x->x.live->cU E' r b sz->b<n->AV ay rs E b):∀ b,b<n->AV ay aJ E' b->AV ay rs E b:=by
 rintro b hb (q|⟨r,x,sz,h1,h2,h3⟩)
 .exact .inl q
 .exact h r x b sz h1 h2 h3 hb
theorem R.zi (h:R T N ay w0 sp s a w E) {aJ:List ag} {E':Env} {w':World} (hE:Env.le E E') (hk:ba (AV ay s.rs E) w w') (hb:w0.Holds w')
  (eG:∀ b,b<w.heap.size->AV ay aJ E' b->AV ay s.rs E b) (hlen:E'.length=aJ.length)
  (hr:∀ (r:Nat) (x:ag) (e:fA),aJ[r]?=some x->E'[r]?=some e->aP E' (AV ay aJ E') w0.base w' e x)
  (iX:∀ (r:Nat) (x:ag) (b sz:Nat),aJ[r]?=some x->x.live->cU E' r b sz->w0.In b/\b<w'.heap.size)
  (aJ5:∀ (r r':Nat) (x x':ag) (b sz cF:Nat),aJ[r]?=some x->aJ[r']?=some x'->x.live->x'.live->cU E' r b sz->cU E' r' b cF->r=r') :
  R T N ay w0 sp { s with rs:=aJ } a w' E' :=
 ⟨h.size,h.defers.mono λ_ _ ⟨b,sz,q,e⟩=>⟨b,sz,hE.at_ q,e⟩,λx hx=>aZ.mono hE hk eG (h.spec x hx),hb,hlen,h.outer,hr,iX,aJ5,λt d c hl=>by
  obtain ⟨q1,q2,q3⟩:=h.slots t d c hl
  exact ⟨q1,λq=>aZ.mono hE hk eG (q2 q),q3⟩,h.gn.mono hk eG⟩
theorem R.size_le (h:R T N ay w0 sp s a w E):w0.base<=w.heap.size:=h.below.base
theorem R.jU (h:R T N ay w0 sp s a w E) {b:Nat} (q:ay b):b<w.heap.size:=Nat.lt_of_lt_of_le (h.outer b q).1 h.below.size
theorem aP.mono {E E':Env} {av cY:Nat->Prop} {base:Nat} {w w':World} {e:fA} {x:ag} (hE:Env.le E E') (hk:ba av w w') (ha:∀ b,b<w.heap.size->cY b->av b)
  (hs:x.live->∀ b,e.has b->w'.heap[b]?=w.heap[b]?) (h:aP E av base w e x):aP E' cY base w' e x:=by
 cases x with
 | dead=>trivial
 | box l=>
   obtain ⟨b,cs,Tc,q1,q2,q3,q4⟩:=h
   exact ⟨b,cs,Tc,q1,q2,by rw [hs trivial b (.inl q1)]; exact q3,q4.mono λ_ _ q=>bg.mono hE hk ha q⟩
 | arr el sz n get=>
   obtain ⟨q1,q2,xs,q3,q4⟩:=h
   refine ⟨q1,q2,xs,?_,λi hi j hj=>?_⟩
   .obtain ⟨h1,h2⟩:=q3
    refine ⟨h1,?_⟩
    rcases h2 with h2|⟨g,cap,cur,h3,h4,h5,h6⟩
    .exact .inl h2
    .refine .inr ⟨g,cap,cur,h3,h4,?_,h6⟩
     rw [hs trivial g (.inl (by rw [q2,h3]; rfl))]
     exact h5
   .obtain ⟨x,h1,h2⟩:=q4 i hi j hj
    exact ⟨x,h1,cX.mono hk ha h2⟩
 | row el sz n l=>
   obtain ⟨q1,q2,xs,q3,q4⟩:=h
   refine ⟨q1,q2,xs,?_,q4.mono λ_ _ q=>bg.mono hE hk ha q⟩
   obtain ⟨h1,h2⟩:=q3
   refine ⟨h1,?_⟩
   rcases h2 with h2|⟨g,cap,cur,h3,h4,h5,h6⟩
   .exact .inl h2
   .refine .inr ⟨g,cap,cur,h3,h4,?_,h6⟩
    rw [hs trivial g (.inl (by rw [q2,h3]; rfl))]
    exact h5
 | bt el sz n get et=>
   obtain ⟨q1,q2,xs,q3,Ks,hp,hf,q4⟩:=h
   refine ⟨q1,q2,xs,nu (λb q=>hs trivial b (.inl (q2.trans q))) q3,Ks,hp,hf,λi hi j hj=>?_⟩
   obtain ⟨x,c,h1,h2,h3⟩:=q4 i hi j hj
   exact ⟨x,c,h1,h2,iK.mono hE hk ha (λb q=>hs trivial b (.inr (hp.sub i j b q))) h3⟩
 | own l=>
   obtain ⟨q1,q2,vs,q3,q4,Ks,q5,q6,q7⟩:=h
   refine ⟨q1,q2,vs,q3,q4,Ks,q5,q6,λi o ho=>?_⟩
   obtain ⟨v,h1,h2⟩:=q7 i o ho
   exact ⟨v,h1,fb.mono hk ha (λb q=>hs trivial b (.inr (q5 i b q))) h2⟩
 | set l=>
   obtain ⟨b,es,clock,q1,q2,q3⟩:=h
   exact ⟨b,es,clock,q1,by rw [hs trivial b (.inl q1)]; exact q2,q3⟩
 | kA=>
   obtain ⟨b,q1,q2⟩:=h
   exact ⟨b,q1,by rw [hs trivial b (.inl q1)]; exact q2⟩
 | loop f N sl ps as bd st fF=>
   obtain ⟨b,db,tm,q1,q2,q3,q4,q5⟩:=h
   exact ⟨b,db,tm,q1,by rw [hs trivial b (.inl q1)]; exact q2,q3,q4.mono hE hk ha,q5⟩
theorem lZ {E:Env} {e:fA} {r b sz:Nat} (h:cU (E++[e]) r b sz):cU E r b sz∨(r=E.length/\e.has b/\e.2.2=sz):=by
 obtain ⟨hh,h,h2,h3⟩:=h
 rcases Nat.lt_trichotomy r E.length with hr|hr|hr
 .rw [dv hr] at h; exact .inl ⟨hh,h,h2,h3⟩
 .subst hr
  rw [gm (bG _)] at h
  simp at h
  subst h
  exact .inr ⟨rfl,h3,h2⟩
 .rw [List.getElem?_eq_none (by simp; omega)] at h
  simp at h
theorem R.new (h:R T N ay w0 sp s a w E) {x:ag} {e:fA} {w':World} (hs:w'.heap.size=w.heap.size+1) (hold:∀ b,b<w.heap.size->w'.heap[b]?=w.heap[b]?)
  (hb:Below w.heap.size w w') (he:e.1=some w.heap.size) (hx:aP (E++[e]) (AV ay (s.rs++[x]) (E++[e])) w0.base w' e x) (sg:∀ b,¬ e.2.1.2 b:=by intro b hb; exact hb) :
  R T N ay w0 sp { s with rs:=s.rs++[x] } a w' (E++[e]):=by
 have hle:=h.size_le
 have key:∀ r y b sz,(s.rs++[x])[r]?=some y->y.live->cU (E++[e]) r b sz->(s.rs[r]?=some y/\cU E r b sz)∨(r=E.length/\b=w.heap.size):=by
  intro r y b sz h1 h2 h3
  rcases lZ h3 with h4|⟨h4,h5,_⟩
  .refine .inl ⟨?_,h4⟩
   obtain ⟨hh,h4,_⟩:=h4
   have:=(List.getElem?_eq_some_iff.1 h4).1
   rw [h.len] at this
   rwa [dv this] at h1
  .refine .inr ⟨h4,?_⟩
   rcases h5 with h5|h5
   .rw [he] at h5
    exact (Option.some.inj h5).symm
   .exact (sg _ h5).elim
 refine h.zi (Env.eb _ _) ⟨by omega,λb q _=>hold b q⟩ (h.below.grown hb.os hb.tape hb.output (by omega) λk hk _=>hold k hk)
  (lW λr y b sz h1 h2 h3 h4=>?_) (by simp [h.len]) ?_ ?_ ?_
 .rcases key r y b sz h1 h2 h3 with ⟨h5,h6⟩|⟨_,h6⟩
  .exact .inr ⟨r,y,sz,h5,h2,h6⟩
  .omega
 .intro r y e' h1 h2
  rcases Nat.lt_trichotomy r E.length with hr|hr|hr
  .rw [dv (by rw [<- h.len]; exact hr)] at h1
   rw [dv hr] at h2
   refine aP.mono (av:=AV ay s.rs E) (Env.eb _ _) ⟨by omega,λb q _=>hold b q⟩ (lW λr y b sz h1 h2 h3 h4=>?_) (λhl b q=>?_) (h.roots r y e' h1 h2)
   .rcases key r y b sz h1 h2 h3 with ⟨h5,h6⟩|⟨_,h6⟩
    .exact .inr ⟨r,y,sz,h5,h2,h6⟩
    .omega
   .exact hold b (h.cS r y b e'.2.2 h1 hl ⟨e',h2,rfl,q⟩).2
  .subst hr
   rw [h.len,gm (bG _)] at h1
   rw [gm (bG _)] at h2
   simp at h1 h2
   subst h1 h2
   exact hx
  .rw [List.getElem?_eq_none (by simp; omega)] at h2
   simp at h2
 .intro r y b sz h1 h2 h3
  rcases key r y b sz h1 h2 h3 with ⟨h5,h6⟩|⟨_,h6⟩
  .have q:=h.cS r y b sz h5 h2 h6; exact ⟨q.1,by omega⟩
  .subst h6; exact ⟨h.below.fresh (bG _),by omega⟩
 .intro r r' y y' b sz cF h1 ku h2 gk h3 kL
  rcases key r y b sz h1 h2 h3 with ⟨h5,h6⟩|⟨h6,h7⟩<;>rcases key r' y' b cF ku gk kL with ⟨h5',h6'⟩|⟨h6',h7'⟩
  .exact h.dD r r' y y' b sz cF h5 h5' h2 gk h6 h6'
  .have:=h.cS r y b sz h5 h2 h6; omega
  .have:=h.cS r' y' b cF h5' gk h6'; omega
  .omega
end
open Go.RowKit
section
variable {P:Program} {T:dL} {N:Nat} {ay:Nat->Prop} {w0:Kp} {sp:List (D×Value)} {s:VS} {a:Act} {w:World} {E:Env}
theorem aB.tS {α β:Type} {Rr:α->β->Prop}:∀ {l:List α} {m:List β},l.length=m.length->(∀ (i:Nat) (x:α) (y:β),l[i]?=some x->m[i]?=some y->Rr x y)->aB Rr l m
 | [],[],_,_=>.nil
 | [],_::_,h,_=>by simp at h
 | _::_,[],h,_=>by simp at h
 | x::l,y::m,h,k=>.cons (k 0 x y rfl rfl) (aB.tS (by simpa using h) λi x y h1 h2=>k (i+1) x y (by simpa using h1) (by simpa using h2))
theorem aB.get {α β:Type} {Rr:α->β->Prop} {l:List α} {m:List β} (h:aB Rr l m) {i:Nat} {x:α} {y:β} (h1:l[i]?=some x) (h2:m[i]?=some y):Rr x y:=by
 obtain ⟨y',h3,h4⟩:=h.nth (by rw [bp]; exact h1)
 rw [h2] at h3
 cases h3
 exact h4
theorem aB.sh {E:Env} {av:Nat->Prop} {w:World} {l:List C} {m:List Value} (h:aB (bg E av w) l m):∀ v∈m,v.oneCell'=true:=by
 induction h with
 | nil=>intro v hv; cases hv
 | cons q _ ih=>
   intro v hv
   cases hv with
   | head=>exact bg.one q
   | tail _ hv=>exact ih v hv
theorem iJ (w:World) (o:Obj):Below w.heap.size w (w.alloc o):=(Below.refl _ _).alloc (bG _) o
theorem R.Yy (h:R T N ay w0 sp s a w E) {x:ag} {hd:Hd} {sz:Nat} (sg:∀ b,¬ hd.2 b:=by intro b hb; exact hb):∀ b,b<w.heap.size->AV ay (s.rs++[x]) (E++[(some w.heap.size,hd,sz)]) b->AV ay s.rs E b:=by
 refine lW λr y b cF h1 h2 h3 h4=>?_
 rcases lZ h3 with h5|⟨h5,h6,_⟩
 .have h5':=h5
  obtain ⟨hh,h5,_⟩:=h5
  have hr:=(List.getElem?_eq_some_iff.1 h5).1
  rw [h.len] at hr
  rw [dv hr] at h1
  exact .inr ⟨r,y,cF,h1,h2,h5'⟩
 .rcases h6 with h6|h6
  .simp at h6; omega
  .exact (sg _ h6).elim
theorem R.box (h:R T N ay w0 sp s a w E) {l:List C} {cs:Array Value} (hl:aB (bg E (AV ay s.rs E) w) l cs.toList) (t:TypeId) :
  R T N ay w0 sp { s with rs:=s.rs++[.box l] } a (w.alloc (.cells cs t)) (E++[(some w.heap.size,mr,l.length)]):=by
 have eG:∀ b,b<w.heap.size->AV ay (s.rs++[.box l]) (E++[(some w.heap.size,mr,l.length)]) b->AV ay s.rs E b:=by
  refine lW λr y b sz h1 h2 h3 h4=>?_
  rcases lZ h3 with h5|⟨h5,h6,_⟩
  .have h5':=h5
   obtain ⟨hh,h5,_⟩:=h5
   have hr:=(List.getElem?_eq_some_iff.1 h5).1
   rw [h.len] at hr
   rw [dv hr] at h1
   exact .inr ⟨r,y,sz,h1,h2,h5'⟩
  .rcases h6 with h6|h6
   .simp at h6; omega
   .exact h6.elim
 refine h.new (by simp) (λb hb=>Below.heap_alloc w _ b hb) (iJ w _) rfl ⟨w.heap.size,cs,t,rfl,rfl,heap_alloc_new w _,?_⟩
 exact hl.mono λ_ _ q=>bg.mono (Env.eb _ _) ⟨by simp,λb hb _=>Below.heap_alloc w _ b hb⟩ eG q
theorem R.turn (h:R T N ay w0 sp s a w E) {r b sz:Nat} {x x':ag} {hd:Hd} (hr:s.rs[r]?=some x) (hx:x.live) (hE:E[r]?=some (some b,hd,sz)) {w':World} (hs:w'.heap.size=w.heap.size) (hold:∀ k,k≠b->w'.heap[k]?=w.heap[k]?)
  (hos:w'.os=w.os/\w'.tape=w.tape/\w'.output=w.output) (hx':aP E (AV ay s.rs E) w0.base w' (some b,hd,sz) x') :
  R T N ay w0 sp { s with rs:=s.rs.set r x' } a w' E:=by
 have hb:=h.blk r x b sz hr hx ⟨hd,hE⟩
 have hlen:r<s.rs.length:=(List.getElem?_eq_some_iff.1 hr).1
 have key:∀ (q:Nat) (y:ag),(s.rs.set r x')[q]?=some y->y.live->∃ z:ag,s.rs[q]?=some z/\z.live:=by
  intro q y h1 h2
  rw [dI] at h1
  split at h1
  .rename_i hq; subst hq; exact ⟨x,hr,hx⟩
  .exact ⟨y,h1,h2⟩
 have hk:ba (AV ay s.rs E) w w':=⟨by omega,λk hk hn=>hold k λe=>by subst e; exact hn (.inr ⟨r,x,sz,hr,hx,bq.own ⟨hd,hE⟩⟩)⟩
 have eG:∀ k,k<w.heap.size->AV ay (s.rs.set r x') E k->AV ay s.rs E k:=by
  refine lW λq y b sz h1 h2 h3 h4=>?_
  obtain ⟨z,h5,h6⟩:=key q y h1 h2
  exact .inr ⟨q,z,sz,h5,h6,h3⟩
 refine h.zi (Env.le_refl E) hk (h.below.grown hos.1 hos.2.1 hos.2.2 (by omega) λk hk hn=>hold k (λe=>hn (by rw [e]; exact hb.1))) eG (by simp [h.len]) ?_ ?_ ?_
 .intro q y e h1 h2
  rw [dI] at h1
  split at h1
  .rename_i hq
   subst hq
   simp only [ak] at h1
   subst h1
   rw [hE] at h2
   simp only [ak] at h2
   subst h2
   exact aP.mono (Env.le_refl E) (ba.refl _ w') (λk hk q=>eG k (by omega) q) (λ_ _ _=>rfl) hx'
  .rename_i hq
   refine aP.mono (av:=AV ay s.rs E) (Env.le_refl E) hk eG (λhl k kT=>hold k λe=>?_) (h.roots q y e h1 h2)
   subst e
   exact hq (h.dD r q x y k sz e.2.2 hr h1 hx hl (bq.own ⟨hd,hE⟩) ⟨e,h2,rfl,kT⟩)
 .intro q y k cF h1 h2 h3
  obtain ⟨z,h5,h6⟩:=key q y h1 h2
  have q:=h.cS q z k cF h5 h6 h3
  exact ⟨q.1,by omega⟩
 .intro q q' y y' k sz1 US h1 ku h2 gk h3 kL
  obtain ⟨z,h5,h6⟩:=key q y h1 h2
  obtain ⟨z',h5',h6'⟩:=key q' y' ku gk
  exact h.dD q q' z z' k sz1 US h5 h5' h6 h6' h3 kL
theorem ig {t:TypeId} {y:Ty} (hy:cz P t y) {b o:Nat} {cur:Array Value} {Tc:TypeId} (hg:w.heap[b]?=some (.cells cur Tc (0,0))) {v:Value} (hv:v.cells.size=y.size) (oB:o+y.size<=cur.size) (h1:∀ u∈v.cells.toList,u.oneCell'=true) :
  (Instr.storeAt t (.pointer (some ⟨b,o,none⟩)) v).run P w=.ok () (w.setRow b (cur.toList.take o++v.cells.toList++cur.toList.drop (o+y.size)).toArray):=by
 have l8:=run_storeCells_at (P:=P) b o Tc v.cells.toList 0 cur w hg (by simp; omega) h1
 simp only [Nat.add_zero] at l8
 have hl:v.cells.toList.length=y.size:=by simpa using hv
 rw [hl] at l8
 simp [Instr.storeAt,Instr.sureAddr,storeVar,run_sizeOf hy.sz,hv,l8]
theorem Si {α:Type} (l:List α) (o:Nat) (y:α) (ho:o<l.length):(l.set o y).take (o+1)=l.take o++[y]:=by
 induction l generalizing o with
 | nil=>simp at ho
 | cons x l ih=>
   cases o with
   | zero=>simp
   | succ o=>simp only [List.set_cons_succ,List.take_succ_cons,List.cons_append]; rw [ih o (by simpa using ho)]
theorem set_drop {α:Type} (l:List α) (o k:Nat) (y:α) (hk:o<k):(l.set o y).drop k=l.drop k:=by
 rw [List.drop_set]
 split
 .rfl
 .omega
theorem put_eq:∀ {ys l:List C} {o:Nat} {r:List C},put l o ys=some r->r=l.take o++ys++l.drop (o+ys.length)
 | [],l,o,r,h=>by
   simp only [put,ak] at h
   subst h
   simp
 | y::ys,l,o,r,h=>by
   simp only [put] at h
   split at h
   .rename_i z hz
    rw [bp] at hz
    have ho:o<l.length:=(List.getElem?_eq_some_iff.1 hz).1
    rw [aT] at h
    rw [put_eq h,Si l o y ho,set_drop l o _ y (by omega)]
    simp [Nat.add_assoc,Nat.add_comm 1]
   .simp at h
theorem as1 {Ro:C->Value->Prop} {ys l:List C} {o:Nat} {r:List C} {vs cs:List Value} (h:put l o ys=some r) (h1:aB Ro l cs) (h2:aB Ro ys vs):aB Ro r (cs.take o++vs++cs.drop (o+vs.length)):=by
 rw [put_eq h,<- h2.length]
 exact ((h1.take o).append h2).append (h1.drop _)
theorem ry:∀ {cs:List C} {ys:List I},CY cs=some ys->cs=lift ys
 | [],ys,h=>by simp [CY] at h; subst h; rfl
 | c::cs,ys,h=>by
   cases c with
   | im x=>
     simp only [CY] at h
     split at h
     .rename_i r hr
      simp only [ak] at h
      subst h
      simp only [lift]
      rw [ry hr]
     .simp at h
   | _=>simp [CY] at h
theorem wh {E:Env} {av:Nat->Prop} {w:World}:∀ {ys:List I} {vs:List Value},aB (bg E av w) (lift ys) vs->aB (cX av w) ys vs
 | [],vs,h=>by cases h; exact .nil
 | y::ys,vs,h=>by cases h with|cons q1 q2=>exact .cons q1 (wh q2)
theorem CW {E:Env} {av:Nat->Prop} {w:World}:∀ {ys:List I} {vs:List Value},aB (cX av w) ys vs->aB (bg E av w) (lift ys) vs
 | [],vs,h=>by cases h; exact .nil
 | y::ys,vs,h=>by cases h with|cons q1 q2=>exact .cons q1 (CW q2)
theorem po {av:Nat->Prop} {w:World} {ys:List I} {vs:List Value} (h:aB (cX av w) ys vs) {q:Nat} (hq:q<ys.length):∃ x,vs[q]?=some x/\cX av w (iv ys q) x:=by
 have:ys[q]?=some ys[q]:=eK hq
 have h1:nth ys q=some ys[q]:=by rw [bp]; exact this
 obtain ⟨x,h2,h3⟩:=h.nth h1
 exact ⟨x,h2,by simp only [iv,h1]; exact h3⟩
theorem vp (bQ:dH P T) (h:R T N ay w0 sp s a w E) {t:TypeId} {x v:D} {px pv:Value} (hx:aZ E (AV ay s.rs E) w x px) (hv:aZ E (AV ay s.rs E) w v pv) {K:VS->Prop} (e:D3 T s t x v K) :
  ∃ s' w',(Instr.storeAt t px pv).run P w=.ok () w'/\R T N ay w0 sp s' a w' E/\K s':=by
 unfold D3 at e
 split at e
 case h_2=>exact e.elim
 rename_i y hy
 have hy:=bQ.ty _ _ hy
 split at e
 case h_2=>exact e.elim
 rename_i cs hcs
 have hcv:=mK hv hcs
 split at e
 case h_2=>exact e.elim
 rename_i fo
 simp only [dJ] at fo
 obtain ⟨fo,fH⟩:=fo
 have fo:=bK fo
 have fH:=aM fH
 have tu:pv.cells.size=y.size:=by have:=hcv.length; rw [fo] at this; simpa using this.symm
 split at e
 case h_2=>exact e.elim
 rename_i r i j
 obtain ⟨b,sz,⟨hd,hE⟩,rfl⟩:=hx
 split at e
 .rename_i l hl
  rw [bp] at hl
  obtain ⟨b',cur,Tc,q1,q2,q3,q4⟩:=h.roots r _ _ hl hE
  simp only [ak] at q1
  subst q1
  split at e
  case h_2=>exact e.elim
  rename_i l' vU
  simp only [Nat.zero_mul,Nat.zero_add]
  have oB:j+y.size<=cur.size:=by
   have hlen:=q4.length
   rcases sy vU with h1|h1
   .rw [fo] at h1; simp at hlen; omega
   .subst h1; simp at fo
    omega
  have hp:=as1 vU q4 hcv
  have hrun:=ig hy q3 tu oB (hcv.sh)
  refine ⟨_,_,hrun,?_,e⟩
  rw [aT]
  have hl2:pv.cells.toList.length=y.size:=by simpa using tu
  rw [hl2] at hp
  refine h.turn hl trivial hE (by simp) (λk hk=>setRow_other w _ k _ hk) ⟨rfl,rfl,rfl⟩ ⟨b,_,Tc,rfl,?_,setRow_heap w b cur _ Tc (0,0) q3,?_⟩
  .have q2:sz=l.length:=q2
   show sz=l'.length
   rw [q2,q4.length,hp.length]
   simp [hl2]
   omega
  .have hk:ba (AV ay s.rs E) w (w.setRow b (cur.toList.take j++pv.cells.toList++cur.toList.drop (j+y.size)).toArray):=
    ⟨by simp,λk hk hn=>setRow_other w _ k _ λe=>by subst e; exact hn (.inr ⟨r,_,sz,hl,trivial,bq.own ⟨hd,hE⟩⟩)⟩
   exact hp.mono λ_ _ q=>bg.mono (Env.le_refl E) hk (λ_ _ q=>q) q
 .rename_i el asz n get hl
  rw [bp] at hl
  split at e
  case h_2=>exact e.elim
  rename_i ys hys hle
  have hle:=ew hle
  obtain ⟨hi,e⟩:=e
  obtain ⟨q1,q2,xs,q3,q4⟩:=h.roots r _ _ hl hE
  have q1:sz=asz:=q1
  have q2:some b=hd.1.ownBlock:=q2
  subst q1
  obtain ⟨q5,q6⟩:=q3
  have q6:(hd.1=.slice none 0 0/\n=0)∨∃ g cap cur,hd.1=.slice (some ⟨g,0,none⟩) n cap/\w0.base<=g/\w.heap[g]?=some (.cells cur el (0,0))/\n<=cap/\cap<=maxLen/\cur.size=cap*sz/\cur.toList.take (n*sz)=xs:=q6
  rcases q6 with ⟨_,q6⟩|⟨g',cap,cur,q6,q7,q8,q9,q10,q11,q12⟩
  .omega
  rw [q6] at q2
  simp only [Value.ownBlock,ak] at q2
  subst q2
  have hfit0:i*sz+(j+y.size)<=n*sz:=by
   have:=fU sz (show i+1<=n by omega)
   rw [Nat.add_mul,Nat.one_mul] at this
   omega
  have hcap:n*sz<=cap*sz:=fU _ q9
  have hrun:=ig (w:=w) hy (o:=i*sz+j) q8 tu (by omega) (hcv.sh)
  refine ⟨_,_,hrun,?_,e⟩
  rw [aT]
  have hl2:pv.cells.toList.length=y.size:=by simpa using tu
  have hk:ba (AV ay s.rs E) w (w.setRow b (cur.toList.take (i*sz+j)++pv.cells.toList++cur.toList.drop (i*sz+j+y.size)).toArray):=
    ⟨by simp,λk hk hn=>setRow_other w _ k _ λe=>by subst e; exact hn (.inr ⟨r,_,sz,hl,trivial,bq.own ⟨hd,hE⟩⟩)⟩
  refine h.turn hl trivial hE (by simp) (λk hk=>setRow_other w _ k _ hk) ⟨rfl,rfl,rfl⟩ ⟨rfl,by rw [q6]; rfl,_,⟨?_,.inr ⟨b,cap,_,q6,q7,setRow_heap w b cur _ el (0,0) q8,q9,q10,?_,rfl⟩⟩,?_⟩
  .simp [hl2]
   omega
  .simp [hl2]
   omega
  .have hys':=ry hys
   subst hys'
   have hyv:=wh hcv
   have hyl:ys.length=y.size:=by have:=hyv.length; rw [hl2] at this; exact this
   intro i' jW j' hj'
   obtain ⟨u,h1,h2⟩:=q4 i' jW j' hj'
   have hfit':i'*sz+j'<n*sz:=by
    have:=fU sz (show i'+1<=n by omega)
    rw [Nat.add_mul,Nat.one_mul] at this
    omega
   have hcur:cur.toList[i'*sz+j']?=some u:=by
    rw [<- q12,dx,if_pos hfit'] at h1
    exact h1
   by_cases hin:i'=i/\j<=j'/\j'<j+ys.length
   .obtain ⟨rfl,h3,h4⟩:=hin
    obtain ⟨u',h5,h6⟩:=po hyv (q:=j'-j) (by omega)
    refine ⟨u',?_,?_⟩
    .rw [dx,if_pos hfit',List.append_assoc,gm (by simp; omega),dv (by simp [hl2]; omega)]
     simp only [List.length_take,Array.length_toList]
     rw [show i'*sz+j'-min (i'*sz+j) cur.size=j'-j by omega]
     exact h5
    .have hu:zi get i' j ys i' j'=iv ys (j'-j):=by simp [zi,h3,h4]
     rw [hu]
     exact cX.mono hk (λ_ _ q=>q) h6
   .refine ⟨u,?_,?_⟩
    .have oZ:i'*sz+j'<i*sz+j∨i*sz+j+y.size<=i'*sz+j':=by
      rcases Nat.lt_trichotomy i' i with h3|h3|h3
      .left
       have:=fU sz (show i'+1<=i by omega)
       rw [Nat.add_mul,Nat.one_mul] at this
       omega
      .subst h3
       rcases Nat.lt_or_ge j' j with h4|h4
       .left; omega
       .right
        have:¬ j'<j+ys.length:=λq=>hin ⟨rfl,h4,q⟩
        omega
      .right
       have:=fU sz (show i+1<=i' by omega)
       rw [Nat.add_mul,Nat.one_mul] at this
       omega
     rw [dx,if_pos hfit']
     rcases oZ with h3|h3
     .rw [List.append_assoc,dv (by simp; omega),dx,if_pos h3]
      exact hcur
     .rw [gm (by simp [hl2]; omega),List.getElem?_drop]
      simp only [List.length_append,List.length_take,Array.length_toList,hl2]
      rw [show i*sz+j+y.size+(i'*sz+j'-(min (i*sz+j) cur.size+y.size))=i'*sz+j' by omega]
      exact hcur
    .simp only [zi,if_neg hin]
     exact cX.mono hk (λ_ _ q=>q) h2
 .exact e.elim
end
open Go.RowKit
section
variable {P:Program} {T:dL} {N:Nat} {ay:Nat->Prop} {w0:Kp} {sp:List (D×Value)} {s:VS} {a:Act} {w:World} {E:Env}
theorem jF (l:List C):∀ n,(Sb l n).length=n*l.length
 | 0=>by simp [Sb]
 | n+1=>by simp only [Sb,List.length_append,jF l n,Nat.add_mul,Nat.one_mul]; omega
theorem wu (l:List C):∀ n i,i<n*l.length->(Sb l n)[i]?=l[i%l.length]?
 | 0,i,h=>by simp at h
 | n+1,i,h=>by
   simp only [Sb]
   rcases Nat.lt_or_ge i l.length with h1|h1
   .rw [dv h1,Nat.mod_eq_of_lt h1]
   .rw [gm h1,wu l n (i-l.length) (by rw [Nat.add_mul,Nat.one_mul] at h; omega)]
    congr 1
    exact (Nat.mod_eq_sub_mod h1).symm
theorem Bh (h:R T N ay w0 sp s a w E) {g:e5} (hg:bJ a g) {sz:Nat} :
  ∀ {parts:List (Nat×Operand)} {l r:List C} {cs:Array Value},zk sz s g parts l=some r->aB (bg E (AV ay s.rs E) w) l cs.toList->
  ∃ oH,Instr.fill (λi=>some (i*sz,sz)) cs (parts.map λx=>(x.1,a.eval x.2))=some oH/\aB (bg E (AV ay s.rs E) w) r oH.toList/\r.length=l.length
 | [],l,r,cs,e,hl=>by
   simp only [zk,ak] at e
   subst e
   exact ⟨cs,rfl,hl,rfl⟩
 | (k,x)::parts,l,r,cs,e,hl=>by
   simp only [zk] at e
   split at e
   case h_2=>simp at e
   rename_i d hx
   split at e
   case h_2=>simp at e
   rename_i ks hks
   split at e
   case h_2=>simp at e
   rename_i fo
   simp only [dJ] at fo
   obtain ⟨fo,fH⟩:=fo
   have fo:=bK fo
   have fH:=aM fH
   split at e
   case h_2=>simp at e
   rename_i l' vU
   have hv:=mK (h.ev hg hx) hks
   have hlen:=hv.length
   have oB:=sy vU
   have hcl:=hl.length
   have hp:=CA (av:=AV ay s.rs E) vU hl hv
   obtain ⟨oH,h1,h2,h3⟩:=Bh h hg (cs:=((a.eval x).cells.zipIdx.foldl (λcs (y:Value×Nat)=>cs.setIfInBounds (k*sz+y.2) y.1) cs)) e (by
    have:=ux (k*sz) (a.eval x).cells.toList 0 cs
    rw [<- Array.foldl_toList,Array.toList_zipIdx,this]
    exact hp)
   have hll:l'.length=l.length:=by
    rw [put_eq vU]
    rcases oB with oB|oB
    .simp; omega
    .subst oB; simp at fo; omega
   refine ⟨oH,?_,h2,h3.trans hll⟩
   simp only [List.map_cons,Instr.fill]
   have h3:(a.eval x).cells.size=sz:=by rw [<- fo,hlen]; simp
   have h4:¬ (k*sz+sz>cs.size):=by
    rw [fo] at oB
    have:cs.size=l.length:=by rw [hcl]; simp
    rcases oB with oB|oB
    .omega
    .subst oB
     simp at fo
     omega
   rw [if_neg (by simp [h3]; omega)]
   exact h1
theorem xW (bQ:dH P T) (h:R T N ay w0 sp s a w E) {g:e5} (hg:bJ a g) {t el n:Nat} {parts:Array (Nat×Operand)} {y0 y:Ty} (th:cz P t y0) (hk:y0.kd=.slice el) (hy:cz P el y)
  {z l:List C} (hz:xK y=some z) (hl:zk y.size s g parts.toList (Sb z n)=some l) (vZ:z.length=y.size) (fH:0<y.size) (Hn:n*y.size<=1000000) :
  ∃ cs:Array Value,(Instr.buildSlice t n (parts.map λ(i,x)=>(i,a.eval x))).run P w=.ok (.slice (some ⟨w.heap.size,0,none⟩) n n) (w.alloc (.cells cs el))/\aB (bg E (AV ay s.rs E) w) l cs.toList/\l.length=n*y.size:=by
 obtain ⟨inf,hi,hisz,_,hzero⟩:=hy.full
 have hzr:=kQ (E:=E) (av:=AV ay s.rs E) (w:=w) hz
 have hzs:y.zero.cells.size=y.size:=by have:=hzr.length; rw [vZ] at this; simpa using this.symm
 have hrep:aB (bg E (AV ay s.rs E) w) (Sb z n) ((Array.range (n*y.size)).map (y.zero.cells[·%y.zero.cells.size]!)).toList:=by
  refine aB.tS (by rw [jF,vZ]; simp) λi x v h1 h2=>?_
  have hi:i<n*y.size:=by
   have:=(List.getElem?_eq_some_iff.1 h1).1
   rw [jF,vZ] at this
   exact this
  rw [wu z n i (by rw [vZ]; exact hi),vZ] at h1
  have hm:i%y.size<y.size:=Nat.mod_lt _ fH
  have gk:y.zero.cells.toList[i%y.size]?=some v:=by
   simp only [Array.toList_map,Array.toList_range,List.getElem?_map,List.getElem?_range hi,Option.map_some,ak] at h2
   rw [<- h2,hzs]
   rw [Array.getElem!_eq_getD,Array.getD_eq_getD_getElem?]
   have:i%y.size<y.zero.cells.size:=by omega
   simp [this]
  exact hzr.get h1 gk
 obtain ⟨oH,h1,h2,h3⟩:=Bh h hg hl hrep
 rw [jF,vZ] at h3
 refine ⟨oH,?_,h2,h3⟩
 have hparts:(parts.map λ(i,x)=>(i,a.eval x)).toList=parts.toList.map λx=>(x.1,a.eval x.2):=by simp
 rw [<- hparts] at h1
 have hz0:(zeroValue el).run P w=.ok y.zero w:=by simp [zeroValue,typeInfo,hi,hzero]
 have hbig':¬ (n*y.size>2 ^ 24):=by omega
 simp only [Instr.buildSlice,Sem.run_bind,Result.andThen_ok,run_underlying (th.slice hk),run_sizeOf hy.sz,hbig']
 have ku:Instr.fill (λi=>some (i*y.size,y.size)) ((Array.range (n*y.size)).map (y.zero.cells[·%y.zero.cells.size]!)) (Array.map (λ(x:Nat×Operand)=>(x.fst,a.eval x.snd)) parts).toList=some oH:=h1
 have hnew:((do let d <- newRow el oH; pure (Value.slice (some d) n n)):Sem Value).run P w=.ok (.slice (some ⟨w.heap.size,0,none⟩) n n) (w.alloc (.cells oH el)):=by
  rfl
 by_cases h0:n*y.size=0
 .have e0:(Array.range (n*y.size)).map ((#[]:Array Value)[·%(#[]:Array Value).size]!)=(Array.range (n*y.size)).map (y.zero.cells[·%y.zero.cells.size]!):=by rw [h0]; simp
  simp only [h0,if_true,if_false,Sem.run_bind,Sem.run_pure,Result.andThen_ok]
  rw [h0] at ku e0
  rw [e0,ku]
  exact hnew
 .simp only [h0,if_false,Sem.run_bind,Sem.run_pure,Result.andThen_ok,hz0]
  rw [ku]
  exact hnew
def kill:Option Nat->List ag->List ag
 | some r,rs=>rs.set r .dead
 | none,rs=>rs
theorem R.row (h:R T N ay w0 sp s a w E) {el sz n:Nat} {get:Nat->Nat->I} {w':World} {hd:Value} {xs:List Value} {row:Option Nat} {dead:Option Nat}
  (hg:w.grownBy w' row) (eE:w'.ownsRow w0.base el sz hd n xs)
  (nv:∀ k,row=some k->w0.In k/\∃ r x q,dead=some r/\s.rs[r]?=some x/\x.live/\bq E r k q)
  (iX:∀ k,hd.ownBlock=some k->some k=row∨w.heap.size<=k)
  (H2:∀ i,i<n->∀ j,j<sz->∃ x,xs[i*sz+j]?=some x/\cX (AV ay s.rs E) w (get i j) x) :
  R T N ay w0 sp { s with rs:=kill dead s.rs++[.arr el sz n get] } a w' (E++[(hd.ownBlock,nI hd,sz)]):=by
 have hle:=h.size_le
 let fa:=kill dead s.rs
 have hlen1:fa.length=s.rs.length:=by
  simp only [fa]; cases dead<;>simp [kill]
 have old:∀ (q:Nat) (y:ag),fa[q]?=some y->y.live->s.rs[q]?=some y/\dead≠some q:=by
  intro q y h1 h2
  simp only [fa] at h1
  cases dead with
  | some r=>
    simp only [kill] at h1
    rw [dI] at h1
    split at h1
    .rename_i hq
     subst hq
     split at h1
     .cases h1; exact h2.elim
     .simp at h1
    .rename_i hq
     exact ⟨h1,λe=>hq (by simpa using e)⟩
  | none=>exact ⟨h1,by simp⟩
 have hk:ba (AV ay s.rs E) w w':=⟨hg.size,λk hk hn=>hg.block k hk λe=>by
  obtain ⟨_,r,x,q,_,h2,h3,h4⟩:=nv k e.symm
  exact hn (.inr ⟨r,x,q,h2,h3,h4.own⟩)⟩
 have hE:=Env.eb E [(hd.ownBlock,nI hd,sz)]
 have hownlt:∀ k,hd.ownBlock=some k->w0.In k/\k<w'.heap.size:=by
  intro k hk
  have hIn:w0.In k:=by
   rcases iX k hk with h1|h1
   .exact (nv k h1.symm).1
   .exact h.below.fresh h1
  rcases eE.2 with ⟨h1,_⟩|⟨g,cap,cur,h1,h2,h3,_⟩
  .rw [h1] at hk; simp [Value.ownBlock] at hk
  .rw [h1] at hk
   simp only [Value.ownBlock,ak] at hk
   subst hk
   exact ⟨hIn,(Array.getElem?_eq_some_iff.1 h3).1⟩
 have key:∀ (q:Nat) (y:ag) (b z:Nat),(fa++[.arr el sz n get])[q]?=some y->y.live->cU (E++[(hd.ownBlock,nI hd,sz)]) q b z->
   (s.rs[q]?=some y/\dead≠some q/\cU E q b z)∨(q=E.length/\hd.ownBlock=some b):=by
  intro q y b z h1 h2 h3
  rcases lZ h3 with h4|⟨h4,h5,_⟩
  .have h4':=h4
   obtain ⟨hh,h4,_⟩:=h4
   have:=(List.getElem?_eq_some_iff.1 h4).1
   rw [h.len,<- hlen1] at this
   rw [dv this] at h1
   obtain ⟨h5,h6⟩:=old q y h1 h2
   exact .inl ⟨h5,h6,h4'⟩
  .exact .inr ⟨h4,h5.resolve_right λq=>q⟩
 have eG:∀ b,b<w.heap.size->AV ay (fa++[.arr el sz n get]) (E++[(hd.ownBlock,nI hd,sz)]) b->AV ay s.rs E b:=by
  refine lW λq y b z h1 h2 h3 h4=>?_
  rcases key q y b z h1 h2 h3 with ⟨h5,_,h6⟩|⟨_,h6⟩
  .exact .inr ⟨q,y,z,h5,h2,h6⟩
  .rcases iX b h6 with h7|h7
   .obtain ⟨_,r,x,q,_,h8,h9,qj⟩:=nv b h7.symm
    exact .inr ⟨r,x,q,h8,h9,qj.own⟩
   .omega
 have apart:∀ (q:Nat) (y:ag) (b z:Nat),s.rs[q]?=some y->y.live->dead≠some q->cU E q b z->hd.ownBlock≠some b/\row≠some b:=by
  intro q y b z h1 h2 h3 h4
  have hb:=h.cS q y b z h1 h2 h4
  have hr:row≠some b:=by
   intro e
   obtain ⟨_,r,x,q',h5,h6,h7,h8⟩:=nv b e
   have:=h.dD q r y x b z q' h1 h6 h2 h7 h4 h8.own
   subst this
   exact h3 h5
  refine ⟨λe=>?_,hr⟩
  rcases iX b e with h5|h5
  .exact hr h5.symm
  .omega
 refine h.zi (aJ:=fa++[.arr el sz n get]) hE hk (h.below.grown hg.os hg.tape hg.output hg.size λk kT hn=>hg.block k kT λe=>hn (nv k e.symm).1) eG (by simp [hlen1,h.len]) ?_ ?_ ?_
 .intro q y e h1 h2
  rcases Nat.lt_trichotomy q E.length with hr|hr|hr
  .rw [dv (by rw [hlen1,<- h.len]; exact hr)] at h1
   rw [dv hr] at h2
   by_cases hl:y.live
   .obtain ⟨h3,h4⟩:=old q y h1 hl
    refine aP.mono (av:=AV ay s.rs E) hE hk eG (λhl b hb=>?_) (h.roots q y e h3 h2)
    have ji:cU E q b e.2.2:=⟨e,h2,rfl,hb⟩
    exact hg.block b (h.cS q y b _ h3 hl ji).2 λe=>(apart q y b _ h3 hl h4 ji).2 e.symm
   .cases y with
    | dead=>trivial
    | _=>exact (hl trivial).elim
  .subst hr
   rw [h.len,<- hlen1,gm (bG _)] at h1
   rw [gm (bG _)] at h2
   simp at h1 h2
   subst h1 h2
   refine ⟨rfl,rfl,xs,eE,λi hi j hj=>?_⟩
   obtain ⟨x,h3,h4⟩:=H2 i hi j hj
   exact ⟨x,h3,cX.mono hk eG h4⟩
  .rw [List.getElem?_eq_none (by simp; omega)] at h2
   simp at h2
 .intro q y b z h1 h2 h3
  rcases key q y b z h1 h2 h3 with ⟨h5,_,h6⟩|⟨_,h6⟩
  .have q7:=h.cS q y b z h5 h2 h6; have:=hg.size; exact ⟨q7.1,by omega⟩
  .exact hownlt b h6
 .intro q q' y y' b z z' h1 ku h2 gk h3 kL
  rcases key q y b z h1 h2 h3 with ⟨h5,h6,h7⟩|⟨h6,h7⟩<;>rcases key q' y' b z' ku gk kL with ⟨h5',h6',h7'⟩|⟨h6',h7'⟩
  .exact h.dD q q' y y' b z z' h5 h5' h2 gk h7 h7'
  .exact ((apart q y b z h5 h2 h6 h7).1 h7').elim
  .exact ((apart q' y' b z' h5' gk h6' h7').1 h7).elim
  .omega
theorem LQ (h:R T N ay w0 sp s a w E) {src:D} {vs:Value} {sz k:Nat} {get':Nat->Nat->I} (hs:Xo s.rs src=some (sz,k,get')) (hr:aZ E (AV ay s.rs E) w src vs) :
  ∃ ao cap,vs=.slice ao k cap/\(ao=none->k=0)/\∃ news:List Value,news.length=k*sz/\(∀ ad,ao=some ad->∀ j u,news[j]?=some u->w.cell? (ad.add j)=some u)/\(∀ u∈news,u.oneCell'=true)/\
   ∀ i,i<k->∀ j,j<sz->∃ x,news[i*sz+j]?=some x/\cX (AV ay s.rs E) w (get' i j) x:=by
 unfold Xo at hs
 split at hs
 .rename_i cF k' g'
  simp only [ak,bw] at hs
  obtain ⟨rfl,rfl,rfl⟩:=hs
  obtain ⟨ao,cap,rfl,hn,hm,hc⟩:=hr
  rcases Nat.eq_zero_or_pos k' with h0|h0
  .subst h0
   exact ⟨ao,cap,rfl,λ_=>rfl,[],by simp,λ_ _ j u hj=>(by simp at hj),λu hu=>(by cases hu),λi hi=>by omega⟩
  .obtain ⟨ad,rfl,hsp,h1,h2,hc⟩:=hc h0
   rcases Nat.eq_zero_or_pos cF with hz|hz
   .subst hz
    exact ⟨_,cap,rfl,λe=>(by simp at e),[],by simp,λ_ _ j u hj=>(by simp at hj),λu hu=>(by cases hu),λi hi j hj=>by omega⟩
   .obtain ⟨f,hf⟩:=lh (n:=k'*cF) (Q:=λq x=>w.cell? (ad.add q)=some x/\cX (AV ay s.rs E) w (g' (q/cF) (q%cF)) x) (λq hq=>by
     obtain ⟨x,h3,h4⟩:=hc (q/cF) (Nat.div_lt_of_lt_mul (by rw [Nat.mul_comm]; exact hq)) (q%cF) (Nat.mod_lt _ hz)
     refine ⟨x,?_,h4⟩
     have e1:q/cF*cF+q%cF=q:=by rw [Nat.mul_comm]; exact Nat.div_add_mod q cF
     rw [e1] at h3
     exact h3)
    have hget:∀ j u,((List.range (k'*cF)).map f)[j]?=some u->j<k'*cF/\u=f j:=by
     intro j u hj
     have hjl:j<k'*cF:=by
      have:=(List.getElem?_eq_some_iff.1 hj).1
      simpa using this
     simp [hjl] at hj
     exact ⟨hjl,hj.symm⟩
    refine ⟨some ad,cap,rfl,λe=>(by simp at e),(List.range (k'*cF)).map f,by simp,?_,?_,?_⟩
    .intro ad' he j u hj
     simp only [ak] at he
     subst he
     obtain ⟨h3,rfl⟩:=hget j u hj
     exact (hf j h3).1
    .intro u hu
     obtain ⟨q,hq,rfl⟩:=List.mem_map.1 hu
     exact cX.one (hf q (List.mem_range.1 hq)).2
    .intro i hi j hj
     have dB:i*cF+j<k'*cF:=by
      have:=fU cF (show i+1<=k' by omega)
      rw [Nat.add_mul,Nat.one_mul] at this
      omega
     refine ⟨f (i*cF+j),by simp [dB],?_⟩
     have h3:=(hf _ dB).2
     have e1:(i*cF+j)/cF=i:=by rw [Nat.mul_comm,Nat.mul_add_div hz,Nat.div_eq_of_lt hj,Nat.add_zero]
     have e2:(i*cF+j)%cF=j:=by rw [Nat.mul_comm,Nat.mul_add_mod,Nat.mod_eq_of_lt hj]
     rwa [e1,e2] at h3
 .rename_i q k'
  split at hs
  case h_2=>simp at hs
  rename_i el cF n g' hl
  rw [bp] at hl
  simp only [ak,bw] at hs
  obtain ⟨rfl,rfl,rfl⟩:=hs
  obtain ⟨e,ao,n',cap,h1,h2,h3,rfl⟩:=hr
  obtain ⟨q1,q2,xs,q3,q4⟩:=h.roots q _ _ hl h1
  have hxl:=q3.1
  rcases q3.2 with ⟨q5,q6⟩|⟨g,cap',cur,q5,q6,q7,q8,q9,q10,q11⟩
  .rw [h2] at q5
   simp only [dK] at q5
   obtain ⟨rfl,rfl,rfl⟩:=q5
   have:k'=0:=by omega
   subst this
   exact ⟨none,0,rfl,λ_=>rfl,[],by simp,λ_ _ j u hj=>(by simp at hj),λu hu=>(by cases hu),λi hi=>by omega⟩
  .rw [h2] at q5
   simp only [dK] at q5
   obtain ⟨rfl,rfl,rfl⟩:=q5
   have Wu:k'*cF<=n'*cF:=fU _ h3
   refine ⟨_,cap,rfl,λe=>(by simp at e),xs.take (k'*cF),by rw [List.length_take,hxl]; exact Nat.min_eq_left Wu,?_,?_,?_⟩
   .intro ad he j u hj
    simp only [ak] at he
    subst he
    have hj':j<k'*cF:=by
     have:=(List.getElem?_eq_some_iff.1 hj).1
     simp at this; omega
    rw [dx,if_pos hj',<- q11,dx,if_pos (by omega)] at hj
    rw [Addr.add_mid,cT q7]
    simpa using hj
   .intro u hu
    obtain ⟨j,hj⟩:=List.mem_iff_getElem?.1 hu
    have hj':j<k'*cF:=by
     have:=(List.getElem?_eq_some_iff.1 hj).1
     simp at this; omega
    have hz:0<cF:=by
     rcases Nat.eq_zero_or_pos cF with hz|hz
     .subst hz; simp at hj'
     .exact hz
    rw [dx,if_pos hj'] at hj
    obtain ⟨x,h5,h6⟩:=q4 (j/cF) (by have:=Nat.div_lt_of_lt_mul (show j<cF*k' by rw [Nat.mul_comm]; exact hj'); omega) (j%cF) (Nat.mod_lt _ hz)
    have e1:j/cF*cF+j%cF=j:=by rw [Nat.mul_comm]; exact Nat.div_add_mod j cF
    rw [e1,hj] at h5
    cases h5
    exact cX.one h6
   .intro i hi j hj
    obtain ⟨x,h5,h6⟩:=q4 i (by omega) j hj
    have dB:i*cF+j<k'*cF:=by
     have:=fU cF (show i+1<=k' by omega)
     rw [Nat.add_mul,Nat.one_mul] at this
     omega
    exact ⟨x,by rw [dx,if_pos dB]; exact h5,h6⟩
 .simp at hs
theorem fV {t el:TypeId} {y0 y:Ty} (th:cz P t y0) (hk:y0.kd=.slice el) (hy:cz P el y) (fH:0<y.size) {base n m:Nat} {v:Value} {xs news:List Value} (eE:w.ownsRow base el y.size v n xs) (ag5:base<=w.heap.size)
  {ao:Option Addr} {cap:Nat} (sg:ao=none->m=0) (hl:news.length=m*y.size) (hc:∀ ad,ao=some ad->∀ j u,news[j]?=some u->w.cell? (ad.add j)=some u) (h1:∀ u∈news,u.oneCell'=true) (hr:room (n+m) y.bytes) (ty:TypeId) :
  ∃ v' w',(Builtin.append_ #[t,t] ty #[v,.slice ao m cap]).run P w=.ok v' w'/\w'.ownsRow base el y.size v' (n+m) (xs++news)/\w.grownBy w' v.ownBlock/\(∀ k,v'.ownBlock=some k->some k=v.ownBlock∨w.heap.size<=k):=by
 obtain ⟨i,hi,hisz,hib,hiz⟩:=hy.full
 cases ao with
 | none=>
   have hm:=sg rfl
   subst hm
   have hn:news=[]:=List.eq_nil_of_length_eq_zero (by simpa using hl)
   subst hn
   refine ⟨v,w,?_,by simpa using eE,⟨rfl,rfl,rfl,bG _,λ_ _ _=>rfl⟩,λk hk=>.inl hk.symm⟩
   rcases eE.2 with ⟨rfl,rfl⟩|⟨g,cap',cur,rfl,_,_,T8,_⟩
   .simp [Builtin.append_,run_underlying (th.slice hk),sizeOf,typeInfo,hi,Builtin.lenOf,Builtin.firstCells]
   .simp [Builtin.append_,run_underlying (th.slice hk),sizeOf,typeInfo,hi,Builtin.lenOf,Builtin.firstCells,T8,storeCells]
 | some ad=>
   obtain ⟨v',w',h2,h3,h4,_,h5⟩:=run_append_own_at (P:=P) (w:=w) base t ty el i y.zero y.size y.bytes (th.slice hk) hi hiz hisz hib hy.zs fH v n xs eE ad m cap news hl (hc ad rfl) h1 hr.1 hr.2 ag5
   refine ⟨v',w',h2,h3,h4,?_⟩
   intro k hk
   rcases h5 with h5|h5
   .left; rw [<- h5,hk]
   .right; rw [h5] at hk; simp at hk; omega
end
open Go.RowKit
section
variable {P:Program} {T:dL} {N:Nat} {ay:Nat->Prop} {w0:Kp} {sp:List (D×Value)} {s:VS} {a:Act} {w:World} {E:Env}
structure kl (cY:Nat->Prop) (ay:Nat->Prop) (s:VS) (E:Env):Prop where
 le:∀ b,cY b->AV ay s.rs E b
 noO:∀ (r:Nat) (x:ag) (b sz:Nat),s.rs[r]?=some x->x.live->cU E r b sz->¬ cY b
theorem kl.no {cY ay:Nat->Prop} {s:VS} {E:Env} (h:kl cY ay s E) (r:Nat) (x:ag) (b sz:Nat) (h1:s.rs[r]?=some x) (h2:x.live) (h3:bq E r b sz):¬ cY b:=h.noO r x b sz h1 h2 h3.own
theorem IE {cY:Nat->Prop} {base:Nat} {w:World} {el sz n m:Nat} {ao:Option Addr} {n' cap:Nat} {xs:List Value} {get:Nat->Nat->I} (h:w.ownsRow base el sz (.slice ao n' cap) n xs) (hm:m<=n') (sg:∀ b,(Value.slice ao n' cap).ownBlock=some b->¬ cY b)
  (hc:∀ i,i<m->∀ j,j<sz->∃ x,xs[i*sz+j]?=some x/\cX cY w (get i j) x):cX cY w (.sl sz m get) (.slice ao m cap):=by
 rcases h.2 with ⟨q5,q6⟩|⟨g,cap',cur,q5,q6,q7,q8,q9,q10,q11⟩
 .simp only [dK] at q5
  obtain ⟨rfl,rfl,rfl⟩:=q5
  have:m=0:=by omega
  subst this
  exact ⟨none,0,rfl,by omega,by omega,λh0=>by omega⟩
 .simp only [dK] at q5
  obtain ⟨rfl,rfl,rfl⟩:=q5
  refine ⟨_,cap,rfl,by omega,by omega,λ_=>⟨_,rfl,rfl,sg g rfl,(Array.getElem?_eq_some_iff.1 q7).1,λi hi j hj=>?_⟩⟩
  obtain ⟨x,h5,h6⟩:=hc i hi j hj
  refine ⟨x,?_,h6⟩
  have dB:i*sz+j<n'*sz:=by
   have:=fU sz (show i+1<=n' by omega)
   rw [Nat.add_mul,Nat.one_mul] at this
   omega
  rw [Addr.add_mid,cT q7]
  rw [<- q11,dx,if_pos dB] at h5
  simpa using h5
theorem cN {base el sz n:Nat} {v:Value} {w:World} {xs:List Value} (h:w.ownsRow base el sz v n xs):∃ ao cap,v=.slice ao n cap:=by
 rcases h.2 with ⟨q5,q6⟩|⟨g,cap',cur,q5,_⟩
 .exact ⟨none,0,by rw [q5,q6]⟩
 .exact ⟨_,_,q5⟩
theorem Yr {av cY:Nat->Prop} {base:Nat} {w:World} (ha:∀ b,cY b->av b):∀ {x:O} {K:Nat->Prop} {v:Value},(∀ b,K b->¬ cY b)->fb av base w x K v->cX cY w (oI x) v:=by
 intro x
 induction x with
 | im x=>intro K v _ h; exact cX.mono (ba.refl _ w) (λb _ q=>ha b q) h
 | ar el sz n get=>
   rintro K v hK ⟨h0,xs,h1,h2⟩
   obtain ⟨ao,cap,rfl⟩:=cN h1
   exact IE h1 (bG _) (λb q=>hK b (h0 b q)) λi hi j hj=>by
    obtain ⟨x,q1,q2⟩:=h2 i hi j hj
    exact ⟨x,q1,cX.mono (ba.refl _ w) (λb _ q=>ha b q) q2⟩
 | ns el sz n get ih=>
   rintro K v hK ⟨h0,xs,h1,Ks,hp,h2⟩
   obtain ⟨ao,cap,rfl⟩:=cN h1
   exact IE (get:=λi j=>oI (get i j)) h1 (bG _) (λb q=>hK b (h0 b q)) λi hi j hj=>by
    obtain ⟨x,q1,q2⟩:=h2 i hi j hj
    exact ⟨x,q1,ih i j (λb q=>hK b (hp.sub i j b q)) q2⟩
theorem Nb {E:Env} {av cY:Nat->Prop} {base:Nat} {w:World} {e:fA} {el sz n m:Nat} {get:Nat->Nat->O} (hr:aP E av base w e (.bt el sz n get none)) (ha:∀ b,cY b->av b) (sg:∀ b,e.has b->¬ cY b) {ao:Option Addr} {n' cap:Nat} (h2:e.2.1.1=.slice ao n' cap) (hm:m<=n') :
  cX cY w (.sl sz m λi j=>oI (get i j)) (.slice ao m cap):=by
 obtain ⟨q1,q2,xs,q3,Ks,hp,_,q4⟩:=hr
 rw [h2] at q3 q2
 have hn:n'=n:=by
  obtain ⟨ao2,cap2,e2⟩:=cN q3
  simp only [dK] at e2
  exact e2.2.1
 subst hn
 refine IE q3 hm (λb q=>sg b (.inl (q2.trans q))) λi hi j hj=>?_
 obtain ⟨x,c,h3,h4,h5⟩:=q4 i (by omega) j hj
 simp only [fS,ak] at h4
 subst h4
 exact ⟨x,h3,Yr ha (λb q=>sg b (.inr (hp.sub i j b q))) h5⟩
theorem kl.none (ay:Nat->Prop) (s:VS) (E:Env):kl (λ_=>False) ay s E:=⟨λ_ h=>h.elim,λ_ _ _ _ _ _ _ h=>h⟩
theorem kl.outer (h:R T N ay w0 sp s a w E):kl ay ay s E:=⟨λ_ h=>.inl h,λr x b sz h1 h2 h3 h4=>by
 have q:=(h.cS r x b sz h1 h2 h3).1
 have:=h.outer b h4
 exact this.2 (q.own this.1)⟩
theorem te {α β γ:Type} {f:α->Option β} {Ra:α->γ->Prop} {Rb:β->γ->Prop} (h:∀ x y v,f x=some y->Ra x v->Rb y v):∀ {l:List α} {r:List β} {vs:List γ},rz f l=some r->aB Ra l vs->aB Rb r vs
 | [],r,vs,e,hv=>by cases hv; simp [rz] at e; subst e; exact .nil
 | x::l,r,vs,e,hv=>by
   cases hv with
   | cons q1 q2=>
     simp only [rz] at e
     split at e
     .rename_i y r' h1 h2
      simp only [ak] at e
      subst e
      exact .cons (h _ _ _ h1 q1) (te h h2 q2)
     .simp at e
theorem iz (h:R T N ay w0 sp s a w E) {cY:Nat->Prop} (ha:kl cY ay s E) {rec:List C->Option (List I)} (mm:∀ l r vs,rec l=some r->aB (bg E (AV ay s.rs E) w) l vs->aB (cX cY w) r vs)
  {q:Nat} {x:I} (e:kc s.rs q rec=some x) {b sz:Nat} (hq:bq E q b sz):cX cY w x (.pointer (some ⟨b,0,none⟩)):=by
 unfold kc at e
 split at e
 case h_2=>simp at e
 rename_i l hl
 rw [bp] at hl
 split at e
 case h_2=>simp at e
 rename_i is his
 simp only [ak] at e
 subst e
 obtain ⟨hh,hE⟩:=hq
 obtain ⟨b',cs,Tc,q1,q2,q3,q4⟩:=h.roots q _ _ hl hE
 simp only [ak] at q1
 subst q1
 have hi:=mm l is _ his q4
 refine ⟨⟨b,0,none⟩,rfl,rfl,ha.no q _ b sz hl trivial ⟨hh,hE⟩,(Array.getElem?_eq_some_iff.1 q3).1,λj hj=>?_⟩
 obtain ⟨v,h1,h2⟩:=po hi hj
 exact ⟨v,by rw [Addr.add_mid,cT q3]; simpa using h1,h2⟩
theorem zm (h:R T N ay w0 sp s a w E) {cY:Nat->Prop} (ha:kl cY ay s E) {rec:List C->Option (List I)} (mm:∀ l r vs,rec l=some r->aB (bg E (AV ay s.rs E) w) l vs->aB (cX cY w) r vs)
  (c:C) (x:I) (v:Value) (e:nB s.rs rec c=some x) (hv:bg E (AV ay s.rs E) w c v):cX cY w x v:=by
 have hk:∀ {x:I} {v:Value},cX (AV ay s.rs E) w x v->cX cY w x v:=λq=>cX.mono (ba.refl _ w) (λb _ hb=>ha.le b hb) q
 unfold nB at e
 split at e
 .simp only [ak] at e
  subst e
  exact hk hv
 .obtain ⟨b,sz,h1,rfl⟩:=hv
  have:=iz h ha mm e h1
  simpa using this
 .rename_i q m
  split at e
  .rename_i el sz n get hl
   rw [bp] at hl
   simp only [ak] at e
   subst e
   obtain ⟨e',ao,n',cap,h1,h2,h3,rfl⟩:=hv
   obtain ⟨q1,q2,xs,q3,q4⟩:=h.roots q _ _ hl h1
   rcases q3.2 with ⟨q5,q6⟩|⟨g,cap',cur,q5,q6,q7,q8,q9,q10,q11⟩
   .rw [h2] at q5
    simp only [dK] at q5
    obtain ⟨rfl,rfl,rfl⟩:=q5
    exact ⟨none,0,rfl,by omega,by omega,λh0=>by omega⟩
   .rw [h2] at q5
    simp only [dK] at q5
    obtain ⟨rfl,rfl,rfl⟩:=q5
    have ji:bq E q g e'.2.2:=by
     obtain ⟨e1,e2,e3⟩:=e'
     have h2:e2.1=_:=h2
     have q2:e1=e2.1.ownBlock:=q2
     rw [h2] at q2
     exact ⟨e2,by rw [h1,q2]; rfl⟩
    refine ⟨_,cap,rfl,by omega,by omega,λ_=>⟨_,rfl,rfl,ha.no q _ g _ hl trivial ji,(Array.getElem?_eq_some_iff.1 q7).1,λi hi j hj=>?_⟩⟩
    obtain ⟨x,h5,h6⟩:=q4 i (by omega) j hj
    refine ⟨x,?_,hk h6⟩
    have dB:i*sz+j<n'*sz:=by
     have:=fU sz (show i+1<=n' by omega)
     rw [Nat.add_mul,Nat.one_mul] at this
     omega
    rw [Addr.add_mid,cT q7]
    rw [<- q11,dx,if_pos dB] at h5
    simpa using h5
  .rename_i el sz n l hl
   rw [bp] at hl
   split at e
   case h_2=>simp at e
   rename_i l' vU
   obtain ⟨rfl,hlen⟩:=mE _ _ _ vU
   split at e
   case h_2=>simp at e
   rename_i is his
   simp only [ak] at e
   subst e
   obtain ⟨e',ao,n',cap,h1,h2,h3,rfl⟩:=hv
   obtain ⟨q1,q2,xs,q3,q4⟩:=h.roots q _ _ hl h1
   have hi:=mm _ _ _ his (q4.take (m*sz))
   have hil:=hi.length
   have hxs:is.length=m*sz:=by rw [hil,List.length_take,<- q4.length]; omega
   rcases q3.2 with ⟨q5,q6⟩|⟨g,cap',cur,q5,q6,q7,q8,q9,q10,q11⟩
   .rw [h2] at q5
    simp only [dK] at q5
    obtain ⟨rfl,rfl,rfl⟩:=q5
    exact ⟨none,0,rfl,by omega,by omega,λh0=>by omega⟩
   .rw [h2] at q5
    simp only [dK] at q5
    obtain ⟨rfl,rfl,rfl⟩:=q5
    have ji:bq E q g e'.2.2:=by
     obtain ⟨e1,e2,e3⟩:=e'
     have h2:e2.1=_:=h2
     have q2:e1=e2.1.ownBlock:=q2
     rw [h2] at q2
     exact ⟨e2,by rw [h1,q2]; rfl⟩
    refine ⟨_,cap,rfl,by omega,by omega,λ_=>⟨_,rfl,rfl,ha.no q _ g _ hl trivial ji,(Array.getElem?_eq_some_iff.1 q7).1,λi jW j hj=>?_⟩⟩
    have dB:i*sz+j<m*sz:=by
     have:=fU sz (show i+1<=m by omega)
     rw [Nat.add_mul,Nat.one_mul] at this
     omega
    obtain ⟨x,h5,h6⟩:=po hi (q:=i*sz+j) (by omega)
    refine ⟨x,?_,h6⟩
    rw [Addr.add_mid,cT q7]
    rw [<- q11,List.take_take,dx] at h5
    split at h5
    .simpa using h5
    .simp at h5
  .rename_i el sz n get hl
   rw [bp] at hl
   simp only [ak] at e
   subst e
   obtain ⟨e',ao,n',cap,h1,h2,h3,rfl⟩:=hv
   exact Nb (h.roots q _ _ hl h1) ha.le (λb hb=>ha.noO q _ b e'.2.2 hl trivial ⟨e',h1,rfl,hb⟩) h2 h3
  .simp at e
 .rename_i q
  split at e
  case h_2=>simp at e
  rename_i l hl
  rw [bp] at hl
  simp only [ak] at e
  subst e
  obtain ⟨b,sz,⟨hh,h1⟩,rfl⟩:=hv
  obtain ⟨b',es,clock,q1,q2,q3⟩:=h.roots q _ _ hl h1
  have q1:some b=some b':=q1
  simp only [ak] at q1
  subst q1
  exact ⟨b,es,clock,rfl,ha.no q _ b sz hl trivial ⟨hh,h1⟩,q2,q3⟩
 .simp only [ak] at e
  subst e
  obtain ⟨vs,rfl,h1⟩:=hv
  refine ⟨vs,rfl,?_,λj hj=>by omega⟩
  have:=h1.length
  simpa using this.symm
 .rename_i f q
  split at e
  case h_2=>simp at e
  rename_i x hx
  simp only [ak] at e
  subst e
  obtain ⟨vs,rfl,h1⟩:=hv
  have hlen:=h1.length
  obtain ⟨u,hu,b,sz,h2,rfl⟩:=h1.nth (i:=0) (x:=q) rfl
  refine ⟨vs,rfl,by simpa using hlen.symm,λj hj=>?_⟩
  have:j=0:=by omega
  subst this
  exact ⟨_,by simpa using hu,iz h ha mm hx h2⟩
 .rename_i f q q'
  split at e
  case h_2=>simp at e
  rename_i x y hx hy
  simp only [ak] at e
  subst e
  obtain ⟨vs,rfl,h1⟩:=hv
  have hlen:=h1.length
  obtain ⟨u,hu,b,sz,h2,rfl⟩:=h1.nth (i:=0) (x:=q) rfl
  obtain ⟨u',hu',b',cF,gk,rfl⟩:=h1.nth (i:=1) (x:=q') rfl
  refine ⟨vs,rfl,by simpa using hlen.symm,λj hj=>?_⟩
  rcases (show j=0∨j=1 by omega) with rfl|rfl
  .exact ⟨_,by simpa using hu,iz h ha mm hx h2⟩
  .exact ⟨_,by simpa using hu',iz h ha mm hy gk⟩
 .rename_i f q q' q''
  split at e
  case h_2=>simp at e
  rename_i x y z hx hy hz
  simp only [ak] at e
  subst e
  obtain ⟨vs,rfl,h1⟩:=hv
  have hlen:=h1.length
  obtain ⟨u,hu,b,sz,h2,rfl⟩:=h1.nth (i:=0) (x:=q) rfl
  obtain ⟨u',hu',b',cF,gk,rfl⟩:=h1.nth (i:=1) (x:=q') rfl
  obtain ⟨u'',hu'',b'',sz'',h2'',rfl⟩:=h1.nth (i:=2) (x:=q'') rfl
  refine ⟨vs,rfl,by simpa using hlen.symm,λj hj=>?_⟩
  rcases (show j=0∨j=1∨j=2 by omega) with rfl|rfl|rfl
  .exact ⟨_,by simpa using hu,iz h ha mm hx h2⟩
  .exact ⟨_,by simpa using hu',iz h ha mm hy gk⟩
  .exact ⟨_,by simpa using hu'',iz h ha mm hz h2''⟩
 .simp at e
theorem mV (h:R T N ay w0 sp s a w E) {cY:Nat->Prop} (ha:kl cY ay s E):∀ (k:Nat) (l:List C) (r:List I) (vs:List Value),reify k s.rs l=some r->aB (bg E (AV ay s.rs E) w) l vs->aB (cX cY w) r vs
 | 0,l,r,vs,e,hv=>te (λc x v=>zm h ha (λ_ _ _ q=>by simp at q) c x v) e hv
 | k+1,l,r,vs,e,hv=>te (λc x v=>zm h ha (λl r vs=>mV h ha k l r vs) c x v) e hv
theorem yX (h:R T N ay w0 sp s a w E) {cY:Nat->Prop} (ha:kl cY ay s E) {E':Env}:∀ {l r:List (Bool×List C)} {vs:List Value},dF.reifyT s.rs l=some r->
  aB (λ(x:Bool×List C) y=>match x with
   | (true,l)=>∃ cs:Array Value,y=.agg cs/\aB (bg E (AV ay s.rs E) w) l cs.toList
   | (false,l)=>∃ c,l=[c]/\bg E (AV ay s.rs E) w c y) l vs->
  aB (λ(x:Bool×List C) y=>match x with
   | (true,l)=>∃ cs:Array Value,y=.agg cs/\aB (bg E' cY w) l cs.toList
   | (false,l)=>∃ c,l=[c]/\bg E' cY w c y) r vs
 | [],r,vs,e,hv=>by cases hv; simp [dF.reifyT] at e; subst e; exact .nil
 | (b,l)::m,r,vs,e,hv=>by
   cases hv with
   | cons q1 q2=>
     simp only [dF.reifyT] at e
     split at e
     .rename_i x y h1 h2
      simp only [ak] at e
      subst e
      refine .cons ?_ (yX h ha h2 q2)
      cases b with
      | true=>
        obtain ⟨cs,rfl,q3⟩:=q1
        exact ⟨cs,rfl,CW (mV h ha 6 l x _ h1 q3)⟩
      | false=>
        obtain ⟨c,rfl,q3⟩:=q1
        have:=mV h ha 6 [c] x _ h1 (.cons q3 .nil)
        cases this with
        | cons q4 q5=>cases q5; exact ⟨_,rfl,q4⟩
     .simp at e
theorem qW (h:R T N ay w0 sp s a w E) {cY:Nat->Prop} (ha:kl cY ay s E) {E':Env} {d d':D} {v:Value} (e:dF s.rs d=some d') (hv:aZ E (AV ay s.rs E) w d v):aZ E' cY w d' v:=by
 cases d with
 | c x=>
   simp only [dF] at e
   split at e
   .rename_i y hy
    simp only [ak] at e
    subst e
    have:=mV h ha 6 [x] [y] _ hy (.cons hv .nil)
    cases this with
    | cons q1 q2=>exact q1
   .simp at e
 | a l=>
   simp only [dF] at e
   split at e
   .rename_i r hr
    simp only [ak] at e
    subst e
    obtain ⟨cs,rfl,h1⟩:=hv
    exact ⟨cs,rfl,CW (mV h ha 6 l r _ hr h1)⟩
   .simp at e
 | t l=>
   simp only [dF] at e
   split at e
   .rename_i r hr
    simp only [ak] at e
    subst e
    obtain ⟨vs,rfl,h1⟩:=hv
    exact ⟨vs,rfl,yX h ha hr h1⟩
   .simp at e
theorem o0 (h:R T N ay w0 sp s a w E) {cY:Nat->Prop} (ha:kl cY ay s E) {E':Env}:∀ {ds is:List D} {vs:List Value},dn s.rs ds=some is->aB (aZ E (AV ay s.rs E) w) ds vs->aB (aZ E' cY w) is vs
 | [],is,vs,e,hv=>by cases hv; simp [dn] at e; subst e; exact .nil
 | d::ds,is,vs,e,hv=>by
   cases hv with
   | cons q1 q2=>
     simp only [dn] at e
     split at e
     .rename_i x r h1 h2
      simp only [ak] at e
      subst e
      exact .cons (qW h ha h1 q1) (o0 h ha h2 q2)
     .simp at e
theorem mD {E E':Env} {av:Nat->Prop} {w:World}:∀ {l:List C} {vs:List Value},fI l=true->aB (bg E av w) l vs->aB (bg E' av w) l vs
 | [],vs,_,hv=>by cases hv; exact .nil
 | c::l,vs,hp,hv=>by
   cases hv with
   | cons q1 q2=>
     cases c with
     | im x=>exact .cons q1 (mD (by simpa [fI] using hp) q2)
     | _=>simp [fI] at hp
theorem AY {E E':Env} {av:Nat->Prop} {w:World} {d:D} {v:Value} (hp:ki d=true) (hv:aZ E av w d v):aZ E' av w d v:=by
 cases d with
 | c x=>
   have:=mD (E':=E') (l:=[x]) hp (.cons (hv:bg E av w x v) .nil)
   cases this with|cons q _=>exact q
 | a l=>obtain ⟨cs,rfl,h⟩:=hv; exact ⟨cs,rfl,mD hp h⟩
 | t l=>
   obtain ⟨vs,rfl,h⟩:=hv
   refine ⟨vs,rfl,?_⟩
   simp only [ki,List.all_eq_true] at hp
   have:∀ {l:List (Bool×List C)} {ws:List Value},(∀ x∈l,fI x.2=true)->aB (λ(x:Bool×List C) y=>match x with
    | (true,l)=>∃ cs:Array Value,y=.agg cs/\aB (bg E av w) l cs.toList
    | (false,l)=>∃ c,l=[c]/\bg E av w c y) l ws->aB (λ(x:Bool×List C) y=>match x with
    | (true,l)=>∃ cs:Array Value,y=.agg cs/\aB (bg E' av w) l cs.toList
    | (false,l)=>∃ c,l=[c]/\bg E' av w c y) l ws:=by
    intro l ws hl hw
    induction hw with
    | nil=>exact .nil
    | cons q _ ih=>
      refine .cons ?_ (ih λx hx=>hl x (eV _ hx))
      rename_i x y l' m' _
      have hx:=hl x (eI ..)
      obtain ⟨b,k⟩:=x
      cases b with
      | true=>obtain ⟨cs,rfl,q⟩:=q; exact ⟨cs,rfl,mD hx q⟩
      | false=>
        obtain ⟨c,hc,q⟩:=q
        have hc:k=[c]:=hc
        subst hc
        have:=mD (E':=E') (l:=[c]) hx (.cons q .nil)
        cases this with|cons q _=>exact ⟨c,rfl,q⟩
   exact this hp h
theorem jD {E E':Env} {av cY:Nat->Prop} {w w':World}:∀ {l:List C} {vs:List Value},fe l=true->aB (bg E av w) l vs->aB (bg E' cY w') l vs
 | [],vs,_,hv=>by cases hv; exact .nil
 | c::l,vs,hp,hv=>by
   cases hv with
   | cons q1 q2=>
     cases c with
     | im x=>
       cases x with
       | v x=>exact .cons q1 (jD (by simpa [fe] using hp) q2)
       | _=>simp [fe] at hp
     | _=>simp [fe] at hp
theorem Hw {E E':Env} {av cY:Nat->Prop} {w w':World} {d:D} {v:Value} (hp:ir d=true) (hv:aZ E av w d v):aZ E' cY w' d v:=by
 cases d with
 | c x=>
   have:=jD (E':=E') (cY:=cY) (w':=w') (l:=[x]) hp (.cons (hv:bg E av w x v) .nil)
   cases this with|cons q _=>exact q
 | a l=>obtain ⟨cs,rfl,h⟩:=hv; exact ⟨cs,rfl,jD hp h⟩
 | t l=>
   obtain ⟨vs,rfl,h⟩:=hv
   refine ⟨vs,rfl,?_⟩
   simp only [ir,List.all_eq_true] at hp
   have:∀ {l:List (Bool×List C)} {ws:List Value},(∀ x∈l,fe x.2=true)->aB (λ(x:Bool×List C) y=>match x with
    | (true,l)=>∃ cs:Array Value,y=.agg cs/\aB (bg E av w) l cs.toList
    | (false,l)=>∃ c,l=[c]/\bg E av w c y) l ws->aB (λ(x:Bool×List C) y=>match x with
    | (true,l)=>∃ cs:Array Value,y=.agg cs/\aB (bg E' cY w') l cs.toList
    | (false,l)=>∃ c,l=[c]/\bg E' cY w' c y) l ws:=by
    intro l ws hl hw
    induction hw with
    | nil=>exact .nil
    | cons q _ ih=>
      refine .cons ?_ (ih λx hx=>hl x (eV _ hx))
      rename_i x y l' m' _
      have hx:=hl x (eI ..)
      obtain ⟨b,k⟩:=x
      cases b with
      | true=>obtain ⟨cs,rfl,q⟩:=q; exact ⟨cs,rfl,jD hx q⟩
      | false=>
        obtain ⟨c,hc,q⟩:=q
        have hc:k=[c]:=hc
        subst hc
        have:=jD (E':=E') (cY:=cY) (w':=w') (l:=[c]) hx (.cons q .nil)
        cases this with|cons q _=>exact ⟨c,rfl,q⟩
   exact this hp h
theorem xo {rs:List ag} {rec:List C->Option (List I)}:∀ {l:List C} {is:List I},fI l=true->rz (nB rs rec) l=some is->l=lift is
 | [],is,_,e=>by simp [rz] at e; subst e; rfl
 | c::l,is,hp,e=>by
   cases c with
   | im x=>
     simp only [rz,nB] at e
     split at e
     .rename_i y r h1 h2
      simp only [ak] at h1 e
      subst h1 e
      rw [xo (by simpa [fI] using hp) h2]
      rfl
     .simp at e
   | _=>simp [fI] at hp
theorem pk {rs:List ag} {l:List C} {is:List I} (hp:fI l=true) (e:reify 6 rs l=some is):l=lift is:=xo hp e
theorem vb {rs:List ag}:∀ {l r:List (Bool×List C)},(∀ x∈l,fI x.2=true)->dF.reifyT rs l=some r->r=l
 | [],r,_,e=>by simp [dF.reifyT] at e; exact e
 | (b,l)::m,r,hp,e=>by
   simp only [dF.reifyT] at e
   split at e
   .rename_i x y h1 h2
    simp only [ak] at e
    subst e
    rw [vb (λx hx=>hp x (eV _ hx)) h2,<- pk (hp (b,l) (eI ..)) h1]
   .simp at e
theorem FK {rs:List ag} {d d':D} (hp:ki d=true) (e:dF rs d=some d'):d'=d:=by
 cases d with
 | c x=>
   simp only [dF] at e
   split at e
   .rename_i y hy
    simp only [ak] at e
    subst e
    have:=pk hp hy
    simp only [lift,List.cons.injEq,and_true] at this
    rw [this]
   .simp at e
 | a l=>
   simp only [dF] at e
   split at e
   .rename_i r hr
    simp only [ak] at e
    subst e
    rw [<- pk hp hr]
   .simp at e
 | t l=>
   simp only [dF] at e
   split at e
   .rename_i r hr
    simp only [ak] at e
    subst e
    rw [vb (λx hx=>by simp only [ki,List.all_eq_true] at hp; exact hp x hx) hr]
   .simp at e
theorem jf {rs:List ag} {E E':Env} {av:Nat->Prop} {w:World}:∀ {ds is:List D} {vs:List Value},fk ds=true->dn rs ds=some is->aB (aZ E av w) ds vs->aB (aZ E' av w) is vs
 | [],is,vs,_,e,hv=>by cases hv; simp [dn] at e; subst e; exact .nil
 | d::ds,is,vs,hp,e,hv=>by
   simp only [fk] at hp
   split at hp
   .rename_i h0
    cases hv with
    | cons q1 q2=>
      simp only [dn] at e
      split at e
      .rename_i x r h1 h2
       simp only [ak] at e
       subst e
       rw [FK h0 h1]
       exact .cons (AY h0 q1) (jf hp h2 q2)
      .simp at e
   .simp at hp
end
open Go.RowKit
def Enters (P:Program) (f:FuncId):Prop:=∃ fn,P.funcs[f]?=some fn/\(fn.name == "runtime.NumGoroutine")=false/\fn.body.isNone=false
def Ft (T:dL) (P:Program) (f:FuncId) (ds:List D) (d:D):Prop:=∀ (av:Nat->Prop) (w:World) (vs:List Value),(∀ b,av b->b<w.heap.size)->qx T av w->aB (aZ [] av w) ds vs->
 Go.Calls P f vs.toArray w λe w'=>∃ v,e=.returned v/\aZ [] av w' d v/\Below w.heap.size w w'
def yt (P:Program) (l:Nat) (f:FuncId) (tm:Array Value) (as bd:Code) (w:World) (Rr:Value->World->Prop):Prop:=
 ∀ (c:Frame) (cs:List Frame),∃ v w',Rr v w'/\Steps P (lone (Frame.round l f tm as bd .normal) (c::cs) w) (lone (c.finish v) cs w')
inductive Op1 (P:Program) (Y:Bool) (o:Oper) (a:Act) (w:World) (next:Act->World->Prop):Prop
 | value (v:Value) (w':World) (hd:∀ c,o.op ≠ .defer c) (hr:(execOp a.eval o).run P w=.ok (.value v) w') (hn:next (a.put o.dst v) w')
 | skip (w':World) (hd:∀ c,o.op ≠ .defer c) (hr:(execOp a.eval o).run P w=.ok .skip w') (hn:next (a.put o.dst undef) w')
 | enter (f:FuncId) (args:Array Value) (w':World) (hd:∀ c,o.op ≠ .defer c) (hr:(execOp a.eval o).run P w=.ok (.enter f args) w')
   (hc:Go.Calls P f args w' λe w''=>∃ v,e=.returned v/\next (a.put o.dst v) w'')
 | round (hY:Y=true) (l:Nat) (f:FuncId) (tm:Array Value) (as bd:Code) (w':World) (hd:∀ c,o.op ≠ .defer c) (hr:(execOp a.eval o).run P w=.ok (.round l f tm as bd) w')
   (hc:yt P l f tm as bd w' λv w''=>next (a.put o.dst v) w'')
structure WJ (T:dL) (P:Program) (Z2:Cal):Prop where
 pur:∀ f ds p d,Z2.pur f ds=some (p,d)->Enters P f/\(need p->Ft T P f ds d)
 eff:∀ f ds rs p d aJ,Z2.eff f ds rs=some (p,d,aJ)->Enters P f/\(need p->∀ (N:Nat) (ay:Nat->Prop) (w0:Kp) (sp:List (D×Value)) (sl:aK) (df:List Nat) (a:Act) (w:World) (E:Env) (vs:List Value),R T N ay w0 sp ⟨sl,rs,df⟩ a w E->aB (aZ E (AV ay rs E) w) ds vs->
  Go.Calls P f vs.toArray w λe w'=>∃ v E',e=.returned v/\R T N ay w0 sp ⟨sl,aJ,df⟩ a w' E'/\aZ E' (AV ay aJ E') w' d v)
 NW:∀ r ds rs p d aJ,Z2.NW r ds rs=some (p,d,aJ)->need p->∀ (N:Nat) (ay:Nat->Prop) (w0:Kp) (sp:List (D×Value)) (sl:aK) (df:List Nat) (a:Act) (w:World) (E:Env) (vs:List Value),R T N ay w0 sp ⟨sl,rs,df⟩ a w E->aB (aZ E (AV ay rs E) w) ds vs->
  ∃ b sz f tm as bd,bq E r b sz/\(Instr.yield b vs.toArray).run P w=.ok (.round b f tm as bd) w/\
   yt P b f tm as bd w λv w'=>∃ E',R T N ay w0 sp ⟨sl,aJ,df⟩ a w' E'/\aZ E' (AV ay aJ E') w' d v
section
variable {P:Program} {T:dL} {Z2:Cal} {N:Nat} {ay:Nat->Prop} {w0:Kp} {sp:List (D×Value)} {s:VS} {a:Act} {w:World} {E:Env}
theorem z7 {f:FuncId} (h:Enters P f) (args:Array Value) (w:World):(callFunc f args).run P w=.ok (.enter f args) w:=by
 obtain ⟨fn,h1,h2,h3⟩:=h
 have gk:¬ fn.name = "runtime.NumGoroutine" := by simpa using h2
 have kL:¬ fn.body=none:=by intro q; simp [q] at h3
 simp [callFunc,program,Sem.run,h1,gk,kL]
theorem R4 (hc:WJ T P Z2) (h:R T N ay w0 sp s a w E) {f:FuncId} {ds is:List D} {p:Option Prop} {d:D} (hi:dn s.rs ds=some is) (hp:Z2.pur f is=some (p,d)) (w5:need p)
  (hs:(fk ds||ir d)=true) (hd:ki d=true) {vs:List Value} (hv:aB (aZ E (AV ay s.rs E) w) ds vs) :
  Go.Calls P f vs.toArray w λe w'=>∃ v,e=.returned v/\Below w.heap.size w w'/\aZ E (AV ay s.rs E) w' d v:=by
 have avlt:∀ b,AV ay s.rs E b->b<w.heap.size:=by
  rintro b (q|⟨r,x,sz,h1,h2,h3⟩)
  .exact h.jU q
  .exact (h.cS r x b sz h1 h2 h3).2
 by_cases hpd:ir d=true
 .refine ((hc.pur f is p d hp).2 w5 (λ_=>False) w vs (λ_ q=>q.elim) (h.gn.mono (ba.refl _ w) (λ_ _ q=>q.elim)) (o0 h (kl.none ay s E) hi hv)).mono ?_
  rintro e w' ⟨v,rfl,h1,h2⟩
  exact ⟨v,rfl,h2,Hw hpd h1⟩
 .have hpu:fk ds=true:=by simpa [hpd] using hs
  refine ((hc.pur f is p d hp).2 w5 (AV ay s.rs E) w vs avlt h.gn (jf hpu hi hv)).mono ?_
  rintro e w' ⟨v,rfl,h1,h2⟩
  exact ⟨v,rfl,h2,AY hd h1⟩
theorem R.grown (h:R T N ay w0 sp s a w E) {w':World} (hb:Below w.heap.size w w'):R T N ay w0 sp s a w' E:=by
 have hk:ba (AV ay s.rs E) w w':=ba.mS hb
 have:=h.zi (aJ:=s.rs) (E':=E) (w':=w') (Env.le_refl E) hk (h.below.grown hb.os hb.tape hb.output hb.size λk kT _=>hb.block k kT) (λ_ _ q=>q) h.len
  (λr x e h1 h2=>aP.mono (Env.le_refl E) hk (λ_ _ q=>q) (λhl b LW=>hb.block b (h.cS r x b e.2.2 h1 hl ⟨e,h2,rfl,LW⟩).2) (h.roots r x e h1 h2))
  (λr x b sz h1 h2 h3=>by have q:=h.cS r x b sz h1 h2 h3; have:=hb.size; exact ⟨q.1,by omega⟩) h.dD
 exact this
theorem Fv (h:R T N ay w0 sp s a w E) {fd:D} {f:FuncId} {eA:List D} (e:Kh fd=some (f,eA)) {fv:Value} (hf:aZ E (AV ay s.rs E) w fd fv) :
  ∃ cs:Array Value,fv=.func (.func f) #[] cs/\aB (aZ E (AV ay s.rs E) w) eA cs.toList:=by
 unfold Kh at e
 split at e
 .rename_i f' caps'
  simp only [ak,bw] at e
  obtain ⟨rfl,rfl⟩:=e
  obtain ⟨vs,rfl,h1⟩:=hf
  refine ⟨vs,rfl,?_⟩
  revert h1
  generalize vs.toList=ws
  intro h1
  induction h1 with
  | nil=>exact .nil
  | cons q _ ih=>
    obtain ⟨b,sz,h2,h3⟩:=q
    exact .cons ⟨b,sz,h2,by simpa using h3⟩ ih
 .rename_i f' n cap
  simp only [ak,bw] at e
  obtain ⟨rfl,rfl⟩:=e
  obtain ⟨vs,rfl,h1,h2⟩:=hf
  refine ⟨vs,rfl,?_⟩
  obtain ⟨g,hg⟩:=lh h2
  have:=jJ (E:=E) (av:=AV ay s.rs E) (w:=w) (get:=cap) (f:=g) (n:=n) (o:=0) (λj _ hj=>(hg j (by omega)).2)
  have tu:vs.toList=(List.range n).map λj=>g (0+j):=by
   apply List.ext_getElem?
   intro j
   rcases Nat.lt_or_ge j n with hj|hj
   .have:=(hg j hj).1
    simp [hj]
    simpa using this
   .rw [List.getElem?_eq_none (by simp [h1]; exact hj),List.getElem?_eq_none (by simp; exact hj)]
  rw [tu]
  have conv:∀ {l:List C} {ws:List Value},aB (bg E (AV ay s.rs E) w) l ws->aB (aZ E (AV ay s.rs E) w) (l.map .c) ws:=by
   intro l ws hl
   induction hl with
   | nil=>exact .nil
   | cons q _ ih=>exact .cons q ih
  exact conv this
 .simp at e
theorem Hv {o:Oper} {c:Call} {f:Operand} (ho:o.op=.call c) (hc:c.callee=.value f) {Y6:FuncId} {cs:Array Value} (hf:a.eval f=.func (.func Y6) #[] cs) (he:Enters P Y6) :
  (execOp a.eval o).run P w=.ok (.enter Y6 (c.args.map a.eval++cs)) w:=by
 simp only [execOp,ho,resolve,hc,hf,Deferred.ofValue,Sem.run_bind,Sem.run_pure,Result.andThen_ok,invoke]
 rw [z7 he]
 simp
theorem Mt (h:R T N ay w0 sp s a w E) {r b sz:Nat} {hd:Hd} {l:List Int} (hl:s.rs[r]?=some (.set l)) (hE:E[r]?=some (some b,hd,sz)) {t kt el:TypeId} (nl:P.underlying t=some (.map kt el)) (AD:P.underlying kt=some (.int .i64)) {n:Int} :
  ∃ w',(Instr.mapUpdate t (.map (some b)) (.int .i64 n) (.bool true)).run P w=.ok () w'/\R T N ay w0 sp { s with rs:=s.rs.set r (.set (sV n l)) } a w' E:=by
 obtain ⟨b',es,clock,h1,h2,h3⟩:=h.roots r _ _ hl hE
 have h1:some b=some b':=h1
 simp only [ak] at h1
 subst h1
 have dB:b<w.heap.size:=(Array.getElem?_eq_some_iff.1 h2).1
 have hu:(Go.underlying t).run P w=.ok (.map kt el) w:=by simp [Go.underlying,Go.program,Sem.run,nl]
 have huk:(Go.underlying kt).run P w=.ok (.int .i64) w:=by simp [Go.underlying,Go.program,Sem.run,AD]
 have hg':(getObj b).run P w=.ok (.map es clock) w:=by simp [getObj,Sem.run,h2]
 rcases l7 n h3 0 with ⟨q1,k',e',q2,q3,q4⟩|⟨q1,q2⟩
 .refine ⟨w.putObj b (.map (es.modify k' λe=>{ e with key:=.int .i64 n,val:=.bool true }) clock),?_,?_⟩
  .unfold Instr.mapUpdate
   simp only [Sem.run_bind,hu,hg',Result.andThen_ok,fQ AD,Instr.findKey,huk,q2,Nat.zero_add,Sem.run_pure]
   have kT:((es[k']?).map (·.key)).getD (.int .i64 n)=.int .i64 n:=by
    have:es[k']?=some e':=by simpa using q3
    simp [this,q4]
   simp only [kT,Instr.keyThatStays]
   simp [Instr.sameBits,MapKept.run_setObj_map _ h2]
   rfl
  .refine h.turn hl trivial hE (by simp) (λk hk=>World.putObj_heap_other hk) ⟨rfl,rfl,rfl⟩ ⟨b,_,clock,rfl,World.putObj_heap_same dB,?_⟩
   rw [sV,q1]
   simp only [Array.toList_modify]
   clear q2 h2 hg' dB
   generalize es.toList=l2 at h3 q3
   clear q1 hl h hu huk
   induction h3 generalizing k' with
   | nil=>simp at q3
   | cons p1 p2 ih=>
     cases k' with
     | zero=>simp at q3; subst q3; refine .cons ⟨?_,rfl⟩ p2; rw [<- q4]; exact p1.1
     | succ k'=>exact .cons p1 (ih k' (by simpa using q3))
 .refine ⟨w.putObj b (.map (es.push { key:=.int .i64 n,val:=.bool true,born:=clock }) (clock+1)),?_,?_⟩
  .unfold Instr.mapUpdate
   simp only [Sem.run_bind,hu,hg',Result.andThen_ok,fQ AD,Instr.findKey,huk,q2,Sem.run_pure]
   rw [MapKept.run_setObj_map _ h2]
   rfl
  .refine h.turn hl trivial hE (by simp) (λk hk=>World.putObj_heap_other hk) ⟨rfl,rfl,rfl⟩ ⟨b,_,clock+1,rfl,World.putObj_heap_same dB,?_⟩
   rw [sV,q1]
   simp only [Array.toList_push]
   exact h3.append (.cons ⟨rfl,rfl⟩ .nil)
end
end Go.V
