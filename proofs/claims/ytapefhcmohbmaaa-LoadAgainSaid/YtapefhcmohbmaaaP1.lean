/- The abstract machine V: cells, states, what an operation does to a state, and the conditions that a run of code leaves to be shown. -/
import Derived.WalkKit
import Derived.StillTail
import Derived.Deep.Quiet
import Derived.Deep.MidRow
import Derived.Maps.AppendAt
import Derived.RangeFuncNested
import Derived.MapKept
set_option linter.unusedVariables false
set_option linter.defProp false
set_option linter.unusedSimpArgs false
namespace Go
def au := @Option.some.injEq
def Hh := @Nat.blt_eq
def iU := @List.getElem?_append_left
def bs := @Prod.mk.injEq
def gu := @Nat.beq_refl
def ka := @List.getElem?_eq_getElem
def jE := @List.getElem?_set
def nD := @List.getElem?_append_right
def bl := @Nat.le_refl
def bn := @Nat.zero_le
def me := @List.getElem?_take
def di := @Bool.and_eq_true
def iP := @Value.slice.injEq
def fL := @List.mem_cons_of_mem
def eA := @Nat.le_trans
def jl := @List.mem_cons_self
def gP := @Nat.mul_le_mul_right
def Es := @Bool.eq_iff_iff
end Go
namespace Go.V
inductive I where
 | v (x:Value)
 | sl (sz n:Nat) (get:Nat->Nat->I)
 | pt (sz:Nat) (get:Nat->I)
 | fn (f:FuncId) (n:Nat) (cap:Nat->I)
 | st (l:List Int)
 | gp (g:Nat)
 | fm (l:List (Int×FuncId))
 | tx (s:ByteArray)
inductive C where
 | im (x:I)
 | rt (r i j:Nat)
 | sa (r m:Nat)
 | mp (r:Nat)
 | fh (f:FuncId) (dQ:List Nat)
 | yl (r:Nat)
 | ow (r j:Nat)
inductive D where
 | c (x:C)
 | a (l:List C)
 | t (l:List (Bool×List C))
abbrev eF:=List (Tmp×Bool)
abbrev aL:=List (Tmp×D×eF)
inductive O where
 | im (x:I)
 | ar (e sz n:Nat) (get:Nat->Nat->I)
 | ns (e sz n:Nat) (get:Nat->Nat->O)
inductive Fc where
 | c (x:C)
 | o (x:O)
inductive ae where
 | dead
 | box (l:List C)
 | arr (e sz n:Nat) (get:Nat->Nat->I)
 | row (e sz n:Nat) (l:List C)
 | bL (e sz n:Nat) (get:Nat->Nat->O) (dJ:Option (Nat×List Fc))
 | own (l:List O)
 | set (l:List Int)
 | loop (f N:Nat) (sl:aL) (ps:List Tmp) (as bd:Code) (st:LoopState) (fi:Option Code)
 | kF
structure VS where
 sl:aL
 rs:List ae
 df:List Nat:=[]
def look:aL->Tmp->Option (D×eF)
 | [],_=>none
 | (k,d)::r,t=>match Nat.beq k t with
   | true=>some d
   | false=>look r t
abbrev D.v (x:Value):D:=.c (.im (.v x))
abbrev int (n:Int):D:=.v (.int .i64 n)
abbrev bool (b:Bool):D:=.v (.bool b)
def KQ:List Value->Option (List C)
 | []=>some []
 | x::l=>match x.oneCell',KQ l with
   | true,some r=>some (.im (.v x)::r)
   | _,_=>none
def CD (v:Value):Option D:=match v with
 | .agg cs=>match KQ cs.toList with
   | some l=>some (.a l)
   | none=>none
 | v=>match v.oneCell' with
   | true=>some (.c (.im (.v v)))
   | false=>none
def Lj:Bool->Bool->Bool
 | true,b=>b
 | false,true=>false
 | false,false=>true
def o4 (x:Tmp×Bool):eF->Bool
 | []=>false
 | y::m=>match Nat.beq x.1 y.1 with
   | true=>match Lj x.2 y.2 with
     | true=>true
     | false=>o4 x m
   | false=>o4 x m
def sub:eF->eF->Bool
 | [],_=>true
 | x::l,m=>match o4 x m with
   | true=>sub l m
   | false=>false
def VS.ev (s:VS) (g:eF):Operand->Option D
 | .tmp t=>match look s.sl t with
   | some (d,c)=>match sub c g with
     | true=>some d
     | false=>none
   | none=>none
 | .const v=>CD v
 | .func f=>some (.c (.im (.fn f 0 λ_=>.v (.bool false))))
 | .global g=>some (.c (.im (.gp g)))
def gO (t:Tmp):eF->Bool
 | []=>true
 | x::m=>match Nat.beq x.1 t with
   | true=>false
   | false=>gO t m
def free (t:Tmp):aL->Bool
 | []=>true
 | x::r=>match gO t x.2.2 with
   | true=>free t r
   | false=>false
inductive Kd where
 | struct (fields:List (Nat×Nat))
 | slice (e:Nat)
 | array (n e:Nat)
 | str|bool|int|map (k e:Nat)|ptr (e:Nat)|func
 | other
structure Ty where
 size:Nat
 bytes:Nat
 zero:Value
 kd:Kd
def Kd.agg:Kd->Bool
 | .struct _=>true
 | .array _ _=>true
 | _=>false
def ez (n:Int):List Int->Bool
 | []=>false
 | x::l=>match n==x with
   | true=>true
   | false=>ez n l
def BN (op:BinOp):Value->Value->Option Value
 | .int .i64 a,.int .i64 b=>match op with
   | .add=>some (.int .i64 (IntKind.i64.wrap (a+b)))
   | .sub=>some (.int .i64 (IntKind.i64.wrap (a-b)))
   | .mul=>some (.int .i64 (IntKind.i64.wrap (a*b)))
   | .eql=>some (.bool (a==b))
   | .neq=>some (.bool (a != b))
   | .lss=>some (.bool (decide (a<b)))
   | .leq=>some (.bool (decide (a<=b)))
   | .gtr=>some (.bool (decide (a>b)))
   | .geq=>some (.bool (decide (a≥b)))
   | .and=>some (.int .i64 (IntKind.i64.wrap (BitVec.ofInt 64 a &&& BitVec.ofInt 64 b).toNat))
   | .andNot=>some (.int .i64 (IntKind.i64.wrap (BitVec.ofInt 64 a &&& ~~~(BitVec.ofInt 64 b)).toNat))
   | _=>none
 | .int .u8 a,.int .u8 b=>match op with
   | .eql=>some (.bool (a==b))
   | .neq=>some (.bool (a != b))
   | .lss=>some (.bool (decide (a<b)))
   | .leq=>some (.bool (decide (a<=b)))
   | .gtr=>some (.bool (decide (a>b)))
   | .geq=>some (.bool (decide (a≥b)))
   | _=>none
 | .string a,.string b=>match op with
   | .eql=>some (.bool (a.toList==b.toList))
   | .neq=>some (.bool (!(a.toList==b.toList)))
   | _=>none
 | _,_=>none
def need:Option Prop->Prop
 | none=>True
 | some p=>p
def yB (op:BinOp):Value->Value->Option (Prop×Value)
 | .int .i64 a,.int .i64 b=>match op with
   | .quo=>some (b≠0,.int .i64 (IntKind.i64.wrap (a.tdiv b)))
   | .rem=>some (b≠0,.int .i64 (a.tmod b))
   | .shl=>some (0<=b,.int .i64 (IntKind.i64.wrap (a*2 ^ (min b.toNat 64))))
   | .shr=>some (0<=b,.int .i64 (a.fdiv (2 ^ (min b.toNat 64))))
   | _=>none
 | _,_=>none
inductive EK where
 | int|str|bool
def G6:List EK->List C->List C->Option Bool
 | [],[],[]=>some true
 | .int::k,.im (.v (.int .i64 x))::l,.im (.v (.int .i64 y))::m=>match G6 k l m with
   | some c=>some ((x==y)&&c)
   | none=>none
 | .str::k,.im (.v (.string x))::l,.im (.v (.string y))::m=>match G6 k l m with
   | some c=>some ((x==y)&&c)
   | none=>none
 | .bool::k,.im (.v (.bool x))::l,.im (.v (.bool y))::m=>match G6 k l m with
   | some c=>some ((x==y)&&c)
   | none=>none
 | _,_,_=>none
structure dk where
 ty:Nat->Option Ty
 YC:Nat->Option (List EK)
 gl:Nat->Option I:=λ_=>none
 ga:Nat->Option (Nat×(Nat->I)):=λ_=>none
def dk.gv (T:dk) (g:Nat):Option (Nat×(Nat->I)):=match T.gl g with
 | some x=>some (1,λ_=>x)
 | none=>T.ga g
def Ad (n:Int) (l:List (Int×FuncId)):Option FuncId:=match l with
 | []=>none
 | x::l=>match n==x.1 with
   | true=>some x.2
   | false=>Ad n l
def dq (get:Nat->I) (o:Nat):Nat->List C
 | 0=>[]
 | n+1=>.im (get o)::dq get (o+1) n
def takeN:Nat->List C->Option (List C)
 | 0,_=>some []
 | _+1,[]=>none
 | n+1,x::l=>match takeN n l with
   | some r=>some (x::r)
   | none=>none
def yc:Nat->List C->List C
 | 0,l=>l
 | _+1,[]=>[]
 | n+1,_::l=>yc n l
def nth {α:Type}:List α->Nat->Option α
 | [],_=>none
 | x::_,0=>some x
 | _::l,n+1=>nth l n
def setAt {α:Type}:List α->Nat->α->List α
 | [],_,_=>[]
 | _::l,0,y=>y::l
 | x::l,n+1,y=>x::setAt l n y
def put (l:List C) (o:Nat):List C->Option (List C)
 | []=>some l
 | y::ys=>match nth l o with
   | some _=>put (setAt l o y) (o+1) ys
   | none=>none
def D.cells:D->Option (List C)
 | .c x=>some [x]
 | .a l=>some l
 | .t _=>none
def CR:List C->Option (List I)
 | []=>some []
 | .im x::l=>match CR l with
   | some r=>some (x::r)
   | none=>none
 | _::_=>none
def Fg (s:VS) (g:eF):List Operand->Option (List D)
 | []=>some []
 | x::l=>match s.ev g x,Fg s g l with
   | some d,some r=>some (d::r)
   | _,_=>none
def xY (p9:List (Nat×Nat)) (s:VS) (g:eF):List (Nat×Operand)->List C->Option (List C)
 | [],l=>some l
 | (k,x)::r,l=>match nth p9 k,s.ev g x with
   | some (o,sz),some d=>match d.cells with
     | some cs=>match Nat.beq cs.length sz&&Nat.blt 0 sz with
       | true=>match put l o cs with
         | some l'=>xY p9 s g r l'
         | none=>none
       | false=>none
     | none=>none
   | _,_=>none
def Il (sz n:Nat):Nat->List (Nat×Nat):=Nat.rec (λ_=>[]) (λ_ ih k=>(k*sz,sz)::ih (k+1)) n
def II (T:dk) (y:Ty):Option (List (Nat×Nat)):=match y.kd with
 | .struct fs=>some fs
 | .array n e=>match T.ty e with
   | some z=>some (Il z.size n 0)
   | none=>none
 | _=>none
def vY (y:Ty):Option (List C):=KQ y.zero.cells.toList
noncomputable def oI:O->I:=O.rec (λx=>x) (λ_ sz n get=>.sl sz n get) (λ_ sz n _ ih=>.sl sz n ih)
noncomputable def aR {α:Type} (l:List α):Nat->Option α:=List.rec (λ_=>none) (λx _ ih n=>Nat.rec (some x) (λm _=>ih m) n) l
def Lg (x:O):Option C:=match x with
 | .im x=>some (.im x)
 | _=>none
noncomputable def KI (x:Option Fc):Option C:=match x with
 | some (.c x)=>some x
 | some (.o x)=>Lg x
 | none=>none
noncomputable def ym (get:Nat->Nat->O) (dJ:Option (Nat×List Fc)) (i j:Nat):Option C:=match dJ with
 | none=>Lg (get i j)
 | some x=>Bool.rec (Lg (get i j)) (KI (aR x.2 j)) (Nat.beq i x.1)
noncomputable def oM (f:Nat->Option C) (j:Nat) (n:Nat):Option (List C):=Nat.rec (λ_=>some []) (λ_ ih j=>match f j with
 | some c=>match ih (j+1) with
   | some l=>some (c::l)
   | none=>none
 | none=>none) n j
section
variable (T:dk)
def fY (b:Builtin) (ts:List TypeId) (ds:Option (List D)):Option (Option Prop×D):=match b with
 | .len=>match ts,ds with
   | [t],some [d]=>match T.ty t with
     | some y=>match y.kd,d with
       | .slice _,.c (.im (.sl _ n _))=>some (none,int n)
       | .slice _,.c (.sa _ m)=>some (none,int m)
       | .slice _,.c (.im (.v (.slice _ n _)))=>some (none,int n)
       | .str,.c (.im (.v (.string b)))=>some (none,int b.size)
       | _,_=>none
     | none=>none
   | _,_=>none
 | .max=>match ds with
   | some [.c (.im (.v (.int .i64 a))),.c (.im (.v (.int .i64 b)))]=>some (none,int (if b>a then b else a))
   | _=>none
 | .min=>match ds with
   | some [.c (.im (.v (.int .i64 a))),.c (.im (.v (.int .i64 b)))]=>some (none,int (if b<a then b else a))
   | _=>none
 | _=>none
noncomputable def aZ (s:VS) (g:eF):Op->Option (Option Prop×D)
 | .move x=>match s.ev g x with
   | some d=>some (none,d)
   | none=>none
 | .assign x=>match s.ev g x with
   | some d=>some (none,d)
   | none=>none
 | .pick (.tmp t) a b=>match s.ev g (.tmp t) with
   | some (.c (.im (.v (.bool p))))=>match s.ev ((t,true)::g) a,s.ev ((t,false)::g) b with
     | some (.c (.im (.v (.bool x)))),some (.c (.im (.v (.bool y))))=>some (none,bool (bif p then x else y))
     | _,_=>none
   | _=>none
 | .binOp op t x y _=>match s.ev g x,s.ev g y with
   | some (.c (.im (.v (.bool x)))),some (.c (.im (.v (.bool y))))=>match T.ty t with
     | some { kd:=.bool,.. }=>match op with
       | .eql=>some (none,bool (x==y))
       | .neq=>some (none,bool (!(x==y)))
       | _=>none
     | _=>none
   | some (.c (.im (.v x))),some (.c (.im (.v y)))=>match BN op x y with
     | some z=>some (none,.v z)
     | none=>match yB op x y with
       | some (p,z)=>some (some p,.v z)
       | none=>none
   | some (.a l),some (.a m)=>match T.YC t with
     | some ks=>match op,G6 ks l m with
       | .eql,some b=>some (none,bool b)
       | .neq,some b=>some (none,bool (!b))
       | _,_=>none
     | _=>none
   | _,_=>none
 | .unOp .not _ x=>match s.ev g x with
   | some (.c (.im (.v (.bool b))))=>some (none,bool (!b))
   | _=>none
 | .unOp .neg _ x=>match s.ev g x with
   | some (.c (.im (.v (.int .i64 n))))=>some (none,int (IntKind.i64.wrap (0-n)))
   | _=>none
 | .nilCheck x=>match s.ev g x with
   | some (.c (.rt r i j))=>some (none,.c (.rt r i j))
   | some (.c (.im (.pt sz get)))=>some (none,.c (.im (.pt sz get)))
   | some (.c (.fh f dQ))=>some (none,.c (.fh f dQ))
   | some (.c (.im (.fn f n cap)))=>some (none,.c (.im (.fn f n cap)))
   | _=>none
 | .fieldAddr t x f=>match T.ty t with
   | some { kd:=.struct fs,.. }=>match nth fs f with
     | some (o,sz)=>match Nat.blt 0 sz with
       | true=>match s.ev g x with
         | some (.c (.rt r i j))=>some (none,.c (.rt r i (j+o)))
         | some (.c (.im (.pt n get)))=>match Nat.ble (o+sz) n with
           | true=>some (none,.c (.im (.pt (n-o) λj=>get (o+j))))
           | false=>none
         | _=>none
       | false=>none
     | none=>none
   | _=>none
 | .indexAddr t x ix=>match T.ty t with
   | some { kd:=.slice e,.. }=>match T.ty e with
     | some y=>match s.ev g ix with
       | some (.c (.im (.v (.int .i64 i))))=>match s.ev g x with
         | some (.c (.im (.sl sz n get)))=>match Nat.beq sz y.size with
           | true=>some (some (0<=i/\i<(n:Int)),.c (.im (.pt sz (get i.toNat))))
           | false=>none
         | some (.c (.sa r m))=>match nth s.rs r with
           | some (.arr e' sz n get)=>match Nat.beq sz y.size with
             | true=>some (some (0<=i/\i<(m:Int)),.c (.rt r i.toNat 0))
             | false=>none
           | some (.row e' sz n l)=>match Nat.beq sz y.size with
             | true=>some (some (0<=i/\i<(m:Int)),.c (.rt r i.toNat 0))
             | false=>none
           | some (.bL e' sz n get dJ)=>match Nat.beq sz y.size with
             | true=>some (some (0<=i/\i<(m:Int)),.c (.rt r i.toNat 0))
             | false=>none
           | _=>none
         | _=>none
       | _=>none
     | none=>none
   | _=>none
 | .load t x=>match T.ty t with
   | some y=>match s.ev g x with
     | some (.c (.rt r i j))=>match nth s.rs r with
       | some (.box l)=>match i with
         | 0=>match y.kd.agg with
           | true=>match takeN y.size (yc j l) with
             | some cs=>some (none,.a cs)
             | none=>none
           | false=>match nth l j with
             | some c=>some (none,.c c)
             | none=>none
         | _=>none
       | some (.arr _ sz n get)=>match y.kd.agg with
         | true=>match Nat.ble (j+y.size) sz with
           | true=>some (some (i<n),.a (dq (get i) j y.size))
           | false=>none
         | false=>match Nat.blt j sz with
           | true=>some (some (i<n),.c (.im (get i j)))
           | false=>none
       | some (.row _ sz n l)=>match y.kd.agg with
         | true=>match takeN y.size (yc (i*sz+j) l) with
           | some cs=>some (none,.a cs)
           | none=>none
         | false=>match nth l (i*sz+j) with
           | some c=>some (none,.c c)
           | none=>none
       | some (.bL _ sz n get dJ)=>match y.kd.agg with
         | true=>match Nat.ble (j+y.size) sz with
           | true=>match oM (ym get dJ i) j y.size with
             | some l=>some (some (i<n),.a l)
             | none=>none
           | false=>none
         | false=>match Nat.blt j sz with
           | true=>match ym get dJ i j with
             | some c=>some (some (i<n),.c c)
             | none=>none
           | false=>none
       | _=>none
     | some (.c (.im (.pt n get)))=>match y.kd.agg with
       | true=>match Nat.ble y.size n with
         | true=>some (none,.a (dq get 0 y.size))
         | false=>none
       | false=>match Nat.blt 0 n with
         | true=>some (none,.c (.im (get 0)))
         | false=>none
     | some (.c (.im (.gp q)))=>match T.gl q with
       | some z=>match y.kd.agg with
         | true=>none
         | false=>some (none,.c (.im z))
       | none=>none
     | _=>none
   | none=>none
 | .extract x k=>match s.ev g x with
   | some (.t l)=>match nth l k with
     | some (true,cs)=>some (none,.a cs)
     | some (false,[c])=>some (none,.c c)
     | _=>none
   | _=>none
 | .build t parts=>match T.ty t with
   | some y=>match II T y with
     | some fs=>match vY y with
       | some z=>match xY fs s g parts.toList z with
         | some l=>some (none,.a l)
         | none=>none
       | none=>none
     | none=>none
   | none=>none
 | .makeFunc fn first dQ=>match fn,first.toList,Fg s g dQ.toList with
   | .func f,[],some []=>some (none,.c (.fh f []))
   | .func f,[],some [.c (.rt r 0 0)]=>some (none,.c (.fh f [r]))
   | .func f,[],some [.c (.rt r 0 0),.c (.rt r' 0 0)]=>some (none,.c (.fh f [r,r']))
   | .func f,[],some [.c (.rt r 0 0),.c (.rt r' 0 0),.c (.rt r'' 0 0)]=>some (none,.c (.fh f [r,r',r'']))
   | _,_,_=>none
 | .call c=>match c.callee with
   | .builtin b=>fY T b c.argTypes.toList (Fg s g c.args.toList)
   | _=>none
 | .lookup t x i false=>match T.ty t with
   | some { kd:=.map k e,.. }=>match T.ty k,T.ty e with
     | some { kd:=.int,.. },some { zero:=.bool false,.. }=>match s.ev g x,s.ev g i with
       | some (.c (.mp r)),some (.c (.im (.v (.int .i64 n))))=>match nth s.rs r with
         | some (.set l)=>some (none,bool (ez n l))
         | _=>none
       | some (.c (.im (.st l))),some (.c (.im (.v (.int .i64 n))))=>some (none,bool (ez n l))
       | _,_=>none
     | _,_=>none
   | _=>none
 | .slice t x none (some hi) none=>match T.ty t with
   | some { kd:=.slice e,.. }=>match T.ty e with
     | some _=>match s.ev g x,s.ev g hi with
       | some (.c (.im (.sl sz n get))),some (.c (.im (.v (.int .i64 h))))=>some (some (0<=h/\h<=(n:Int)),.c (.im (.sl sz h.toNat get)))
       | some (.c (.sa r m)),some (.c (.im (.v (.int .i64 h))))=>match nth s.rs r with
         | some (.arr _ _ _ _)=>some (some (0<=h/\h<=(m:Int)),.c (.sa r h.toNat))
         | some (.row _ _ _ _)=>some (some (0<=h/\h<=(m:Int)),.c (.sa r h.toNat))
         | some (.bL _ _ _ _ _)=>some (some (0<=h/\h<=(m:Int)),.c (.sa r h.toNat))
         | _=>none
       | some (.c (.im (.v (.slice none 0 0)))),some (.c (.im (.v (.int .i64 h))))=>some (some (h=0),.c (.im (.v (.slice none 0 0))))
       | _,_=>none
     | none=>none
   | _=>none
 | _=>none
end
def iA (l:List I) (q:Nat):I:=match nth l q with
 | some x=>x
 | none=>.v (.tuple #[])
def flat (sz:Nat) (l:List I) (i j:Nat):I:=iA l (i*sz+j)
def jG (rs:List ae) (r:Nat) (rec:List C->Option (List I)):Option I:=match nth rs r with
 | some (.box l)=>match rec l with
   | some is=>some (.pt is.length (iA is))
   | none=>none
 | _=>none
noncomputable def mG (rs:List ae) (rec:List C->Option (List I)):C->Option I
 | .im x=>some x
 | .rt q 0 0=>jG rs q rec
 | .sa q m=>match nth rs q with
   | some (.arr _ sz _ get)=>some (.sl sz m get)
   | some (.row _ sz _ l)=>match takeN (m*sz) l with
     | some l=>match rec l with
       | some is=>some (.sl sz m (flat sz is))
       | none=>none
     | none=>none
   | some (.bL _ sz _ get none)=>some (.sl sz m λi j=>oI (get i j))
   | _=>none
 | .mp q=>match nth rs q with
   | some (.set l)=>some (.st l)
   | _=>none
 | .fh f []=>some (.fn f 0 (iA []))
 | .fh f [q]=>match jG rs q rec with
   | some x=>some (.fn f 1 (iA [x]))
   | none=>none
 | .fh f [q,q']=>match jG rs q rec,jG rs q' rec with
   | some x,some y=>some (.fn f 2 (iA [x,y]))
   | _,_=>none
 | .fh f [q,q',q'']=>match jG rs q rec,jG rs q' rec,jG rs q'' rec with
   | some x,some y,some z=>some (.fn f 3 (iA [x,y,z]))
   | _,_,_=>none
 | _=>none
def qe {α β:Type} (f:α->Option β):List α->Option (List β)
 | []=>some []
 | x::l=>match f x,qe f l with
   | some y,some r=>some (y::r)
   | _,_=>none
noncomputable def reify:Nat->List ae->List C->Option (List I)
 | 0,rs,l=>qe (mG rs λ_=>none) l
 | k+1,rs,l=>qe (mG rs (reify k rs)) l
def lift:List I->List C
 | []=>[]
 | x::l=>.im x::lift l
noncomputable def dg (rs:List ae):D->Option D
 | .c x=>match reify 6 rs [x] with
   | some [y]=>some (.c (.im y))
   | _=>none
 | .a l=>match reify 6 rs l with
   | some r=>some (.a (lift r))
   | none=>none
 | .t l=>match reifyT rs l with
   | some r=>some (.t r)
   | none=>none
where reifyT (rs:List ae):List (Bool×List C)->Option (List (Bool×List C))
 | []=>some []
 | (b,l)::m=>match reify 6 rs l,reifyT rs m with
   | some r,some q=>some ((b,lift r)::q)
   | _,_=>none
noncomputable def cQ (rs:List ae):List D->Option (List D)
 | []=>some []
 | d::l=>match dg rs d,cQ rs l with
   | some x,some r=>some (x::r)
   | _,_=>none
def fj:List C->Bool
 | []=>true
 | .im _::l=>fj l
 | _::_=>false
def l3:D->Bool
 | .c x=>fj [x]
 | .a l=>fj l
 | .t l=>l.all λx=>fj x.2
def eU:List D->Bool
 | []=>true
 | d::l=>match l3 d with
   | true=>eU l
   | false=>false
def eI:List C->Bool
 | []=>true
 | .im (.v _)::l=>eI l
 | _::_=>false
def gT:D->Bool
 | .c x=>eI [x]
 | .a l=>eI l
 | .t l=>l.all λx=>eI x.2
structure Cal where
 YF:FuncId->List D->Option (Option Prop×D)
 eff:FuncId->List D->List ae->Option (Option Prop×D×List ae)
 PD:Nat->List D->List ae->Option (Option Prop×D×List ae)
def WI (s:VS) (g0:eF) (p:Prop):eF->Prop
 | []=>p
 | (t,b)::g=>match look s.sl t with
   | some (.c (.im (.v (.bool x))),c)=>match sub c g0 with
     | true=>x=b->WI s g0 p g
     | false=>False
   | _=>False
def DI (N t:Nat) (g:eF) (sl:aL):Bool:=match Nat.blt t N with
 | true=>match free t sl with
   | true=>gO t g
   | false=>false
 | false=>false
def ah9 (N:Nat) (s:VS) (dst:Option Tmp) (d:D) (g:eF) (K:VS->Prop):Prop:=match dst with
 | none=>K s
 | some t=>match DI N t g s.sl with
   | true=>K { s with sl:=(t,d,g)::s.sl }
   | false=>False
def zP (get:Nat->Nat->I) (i j:Nat) (ys:List I):Nat->Nat->I:=λi' j'=>if i'=i/\j<=j'/\j'<j+ys.length then iA ys (j'-j) else get i' j'
def app (n:Nat) (get get':Nat->Nat->I):Nat->Nat->I:=λi j=>if i<n then get i j else get' (i-n) j
def xz (sz:Nat) (s:VS) (g:eF):List (Nat×Operand)->List C->Option (List C)
 | [],l=>some l
 | (k,x)::r,l=>match s.ev g x with
   | some d=>match d.cells with
     | some cs=>match Nat.beq cs.length sz&&Nat.blt 0 sz with
       | true=>match put l (k*sz) cs with
         | some l'=>xz sz s g r l'
         | none=>none
       | false=>none
     | none=>none
   | none=>none
def Qp (l:List C):Nat->List C
 | 0=>[]
 | n+1=>l++Qp l n
def room (n bytes:Nat):Prop:=n<=maxLen/\n*bytes<=140737488355328
def rP (n:Int) (l:List Int):List Int:=match ez n l with
 | true=>l
 | false=>l++[n]
section
variable (T:dk) (X3:Cal) (N:Nat)
def WW (rs:List ae):D->Option (Nat×Nat×(Nat->Nat->I))
 | .c (.im (.sl sz k get))=>some (sz,k,get)
 | .c (.sa q k)=>match nth rs q with
   | some (.arr _ sz _ get)=>some (sz,k,get)
   | _=>none
 | _=>none
def ak9 (s:VS) (t:TypeId) (d src:D) (dst:Option Tmp) (K:VS->Prop):Prop:=match T.ty t with
 | some { kd:=.slice el,.. }=>match T.ty el with
   | some y=>match WW s.rs src with
     | some (sz,k,get')=>match Nat.beq sz y.size&&Nat.blt 0 sz with
       | true=>match d with
         | .c (.im (.v (.slice none 0 0)))=>room k y.bytes/\
           ah9 N { s with rs:=s.rs++[.arr el sz k get'] } dst (.c (.sa s.rs.length k)) [] K
         | .c (.sa r m)=>match nth s.rs r with
           | some (.arr qQ cL n get)=>match Nat.beq el qQ&&Nat.beq sz cL with
             | true=>m=n/\room (n+k) y.bytes/\
               ah9 N { s with rs:=setAt s.rs r .dead++[.arr el sz (n+k) (app n get get')] } dst (.c (.sa s.rs.length (n+k))) [] K
             | false=>False
           | _=>False
         | _=>False
       | false=>False
     | none=>False
   | none=>False
 | _=>False
def Jc:D->Option (FuncId×List D)
 | .c (.fh f dQ)=>some (f,dQ.map λr=>.c (.rt r 0 0))
 | .c (.im (.fn f n cap))=>some (f,(dq cap 0 n).map .c)
 | _=>none
def AL (s:VS) (t:TypeId) (x v:D) (K:VS->Prop):Prop:=match T.ty t with
 | some y=>match v.cells with
   | some cs=>match Nat.beq cs.length y.size&&Nat.blt 0 y.size with
     | true=>match x with
       | .c (.rt r i j)=>match nth s.rs r with
         | some (.box l)=>match i,put l j cs with
           | 0,some l'=>K { s with rs:=setAt s.rs r (.box l') }
           | _,_=>False
         | some (.arr el sz n get)=>match CR cs,Nat.ble (j+y.size) sz with
           | some ys,true=>i<n/\K { s with rs:=setAt s.rs r (.arr el sz n (zP get i j ys)) }
           | _,_=>False
         | _=>False
       | _=>False
     | false=>False
   | none=>False
 | none=>False
def tW (sl:aL):List Tmp->aL
 | []=>[]
 | t::r=>match look sl t with
   | some (d,[])=>(t,d,[])::tW sl r
   | _=>tW sl r
structure ar5 where
 ah2:Nat->List Tmp
 aD1:Nat->Bool
 heads:Nat->Nat
variable (pl:ar5) (X:List Item->VS->Prop) (Q:VS->Prop)
end
section
variable (T:dk)
noncomputable def qE (s:VS):ResultVar->Option (Option Prop×Bool×List C)
 | .tmp t=>match s.ev [] (.tmp t) with
   | some (.c x)=>some (none,false,[x])
   | some (.a l)=>some (none,true,l)
   | _=>none
 | .cell ad t=>match aZ T s [] (.load t (.tmp ad)) with
   | some (p,.c x)=>some (p,false,[x])
   | some (p,.a l)=>some (p,true,l)
   | _=>none
def I7:Option Prop->Option Prop->Option Prop
 | none,p=>p
 | p,none=>p
 | some p,some q=>some (p/\q)
noncomputable def qA (s:VS):List ResultVar->Option (Option Prop×List (Bool×List C))
 | []=>some (none,[])
 | x::r=>match qE T s x,qA s r with
   | some (p,q),some (p',l)=>some (I7 p p',q::l)
   | _,_=>none
noncomputable def RV (s:VS) (rs:List ResultVar):Option (Option Prop×D):=match qA T s rs with
 | some (p,[(false,[x])])=>some (p,.c x)
 | some (p,[(true,l)])=>some (p,.a l)
 | some (p,l)=>some (p,.t l)
 | none=>none
def cP:Nat->List D->aL
 | _,[]=>[]
 | k,d::l=>(k,d,[])::cP (k+1) l
end
noncomputable section
def dW (l:aL) (t:Tmp):Option D:=List.rec none (λx _ ih=>Bool.rec ih (some x.2.1) (Nat.beq x.1 t)) l
def findF {α:Type} (t:Nat) (l:List (Nat×α)):Option α:=List.rec none (λx _ ih=>Bool.rec ih (some x.2) (Nat.beq x.1 t)) l
def ch (sl:aL) (x:Operand):Option D:=match x with
 | .tmp t=>dW sl t
 | .const v=>CD v
 | .func f=>some (.c (.im (.fn f 0 λ_=>.v (.bool false))))
 | .global g=>some (.c (.im (.gp g)))
def yF (sl:aL) (l:List Operand):Option (List D):=List.rec (some []) (λx _ ih=>match ch sl x with
 | some d=>match ih with
   | some r=>some (d::r)
   | none=>none
 | none=>none) l
def UU (x:I):Option Value:=match x with
 | .v x=>some x
 | _=>none
def U9 (x:C):Option Value:=match x with
 | .im x=>UU x
 | _=>none
def DC (d:Option D):Option Value:=match d with
 | some (.c x)=>U9 x
 | _=>none
def Hi (v:Value):Option Int:=match v with
 | .int .i64 n=>some n
 | _=>none
def zF (v:Value):Option Bool:=match v with
 | .bool b=>some b
 | _=>none
def gU (d:Option D):Option Int:=match DC d with
 | some v=>Hi v
 | none=>none
def iQ (d:Option D):Option Bool:=match DC d with
 | some v=>zF v
 | none=>none
def cR (d:Option D):Option C:=match d with
 | some (.c x)=>some x
 | _=>none
def geB (b:Int):Bool:=match b with
 | .ofNat _=>true
 | .negSucc _=>false
def xl (op:BinOp) (a b:Int):Option Value:=match op with
 | .add=>some (.int .i64 (IntKind.i64.wrap (a+b)))
 | .sub=>some (.int .i64 (IntKind.i64.wrap (a-b)))
 | .mul=>some (.int .i64 (IntKind.i64.wrap (a*b)))
 | .eql=>some (.bool (a==b))
 | .neq=>some (.bool (a != b))
 | .lss=>some (.bool (decide (a<b)))
 | .leq=>some (.bool (decide (a<=b)))
 | .gtr=>some (.bool (decide (a>b)))
 | .geq=>some (.bool (decide (a≥b)))
 | .quo=>Bool.rec (some (.int .i64 (IntKind.i64.wrap (a.tdiv b)))) none (b==0)
 | .rem=>Bool.rec (some (.int .i64 (a.tmod b))) none (b==0)
 | .and=>some (.int .i64 (IntKind.i64.wrap (BitVec.ofInt 64 a &&& BitVec.ofInt 64 b).toNat))
 | .andNot=>some (.int .i64 (IntKind.i64.wrap (BitVec.ofInt 64 a &&& ~~~(BitVec.ofInt 64 b)).toNat))
 | .shl=>Bool.rec none (some (.int .i64 (IntKind.i64.wrap (a*2 ^ (min b.toNat 64))))) (geB b)
 | .shr=>Bool.rec none (some (.int .i64 (a.fdiv (2 ^ (min b.toNat 64))))) (geB b)
 | _=>none
def YL (T:dk) (t:Nat) (op:BinOp) (a b:Bool):Option Value:=match T.ty t with
 | some { kd:=.bool,.. }=>match op with
   | .eql=>some (.bool (a==b))
   | .neq=>some (.bool (!(a==b)))
   | _=>none
 | _=>none
def HZ (T:dk) (t:Nat) (op:BinOp) (u v:Value):Option Value:=match Hi u,Hi v with
 | some a,some b=>xl op a b
 | _,_=>match zF u,zF v with
   | some a,some b=>YL T t op a b
   | _,_=>BN op u v
def eqF (T:dk) (t:Nat) (op:BinOp) (l m:List C):Option D:=match T.YC t with
 | some ks=>match G6 ks l m with
   | some b=>match op with
     | .eql=>some (bool b)
     | .neq=>some (bool (!b))
     | _=>none
   | none=>none
 | none=>none
def TH (d:Option D):Option (List C):=match d with
 | some (.a l)=>some l
 | _=>none
def gb (x:I):Option Bool:=match x with
 | .v (.slice none _ _)=>some true
 | .v (.slice (some _) _ _)=>some false
 | .sl _ (_+1) _=>some false
 | _=>none
def Ls (rs:List ae) (x:C):Option Bool:=match x with
 | .im x=>gb x
 | .sa r (_+1)=>match aR rs r with
   | some (.row _ _ _ _)=>some false
   | some (.arr _ _ _ _)=>some false
   | some (.bL _ _ _ _ _)=>some false
   | _=>none
 | _=>none
def isNil (y:Operand):Bool:=match y with
 | .const (.slice none 0 0)=>true
 | _=>false
def uE (T:dk) (s:VS) (op:BinOp) (t:Nat) (x:Operand):Option D:=match T.ty t with
 | some { kd:=.slice _,.. }=>match cR (ch s.sl x) with
   | some c=>match Ls s.rs c with
     | some b=>match op with
       | .eql=>some (bool b)
       | .neq=>some (bool (!b))
       | _=>none
     | none=>none
   | none=>none
 | _=>none
def ac7 (c:C):Option Bool:=match c with
 | .rt _ _ _=>some false
 | .im (.pt _ _)=>some false
 | .im (.v (.pointer none))=>some true
 | _=>none
def Ud (c:C):Option Bool:=match c with
 | .im (.fn _ _ _)=>some false
 | .fh _ _=>some false
 | .im (.v .nilFunc)=>some true
 | _=>none
def Hy (y:Operand):Bool:=match y with
 | .const (.pointer none)=>true
 | .const .nilFunc=>true
 | _=>false
def ae8 (y:Operand) (k:Kd) (c:C):Option Bool:=match y with
 | .const (.pointer none)=>match k with
   | .ptr _=>ac7 c
   | _=>none
 | .const .nilFunc=>match k with
   | .func=>Ud c
   | _=>none
 | _=>none
def Jp (T:dk) (s:VS) (op:BinOp) (t:Nat) (x y:Operand):Option D:=match T.ty t with
 | some ty=>match cR (ch s.sl x) with
   | some c=>match ae8 y ty.kd c with
     | some b=>match op with
       | .eql=>some (bool b)
       | .neq=>some (bool (!b))
       | _=>none
     | none=>none
   | none=>none
 | none=>none
def wO (T:dk) (s:VS) (op:BinOp) (t:Nat) (x y:Operand):Option D:=match isNil y with
 | true=>uE T s op t x
 | false=>match Hy y with
  | true=>Jp T s op t x y
  | false=>match DC (ch s.sl x),DC (ch s.sl y) with
   | some u,some v=>match HZ T t op u v with
     | some z=>some (.v z)
     | none=>none
   | _,_=>match TH (ch s.sl x),TH (ch s.sl y) with
     | some l,some m=>eqF T t op l m
     | _,_=>none
def unF (s:VS) (op:UnOp) (x:Operand):Option D:=match op with
 | .not=>match iQ (ch s.sl x) with
   | some b=>some (bool (!b))
   | none=>none
 | .neg=>match gU (ch s.sl x) with
   | some n=>some (int (IntKind.i64.wrap (0-n)))
   | none=>none
 | _=>none
def yT (s:VS) (c x y:Operand):Option D:=match iQ (ch s.sl c) with
 | some b=>match iQ (Bool.rec (ch s.sl y) (ch s.sl x) b) with
   | some z=>some (bool z)
   | none=>none
 | none=>none
def vq (s:VS) (x:Operand):Option D:=match cR (ch s.sl x) with
 | some c=>match c with
   | .rt _ _ _=>some (.c c)
   | .fh _ _=>some (.c c)
   | .im (.pt _ _)=>some (.c c)
   | .im (.fn _ _ _)=>some (.c c)
   | _=>none
 | none=>none
def QM (o sz:Nat) (c:C):Option D:=match c with
 | .rt r i j=>some (.c (.rt r i (j+o)))
 | .im (.pt n get)=>Bool.rec none (some (.c (.im (.pt (n-o) λj=>get (o+j))))) (Nat.ble (o+sz) n)
 | _=>none
def B0 (T:dk) (s:VS) (t:Nat) (x:Operand) (f:Nat):Option D:=match T.ty t with
 | some { kd:=.struct fs,.. }=>match aR fs f with
   | some o=>match cR (ch s.sl x) with
     | some c=>Bool.rec none (QM o.1 o.2 c) (Nat.blt 0 o.2)
     | none=>none
   | none=>none
 | _=>none
def dm (i:Int) (n:Nat):Bool:=match i with
 | .ofNat k=>Nat.blt k n
 | .negSucc _=>false
def qg (rs:List ae) (size:Nat) (i:Int) (c:C):Option D:=match c with
 | .im (.sl sz n get)=>Bool.rec none (Bool.rec none (some (.c (.im (.pt sz (get i.toNat))))) (dm i n)) (Nat.beq sz size)
 | .sa r m=>match aR rs r with
   | some (.row _ sz _ _)=>Bool.rec none (Bool.rec none (some (.c (.rt r i.toNat 0))) (dm i m)) (Nat.beq sz size)
   | some (.arr _ sz _ _)=>Bool.rec none (Bool.rec none (some (.c (.rt r i.toNat 0))) (dm i m)) (Nat.beq sz size)
   | some (.bL _ sz _ _ _)=>Bool.rec none (Bool.rec none (some (.c (.rt r i.toNat 0))) (dm i m)) (Nat.beq sz size)
   | _=>none
 | _=>none
def sv (T:dk) (t:Nat):Option Ty:=match T.ty t with
 | some { kd:=.slice e,.. }=>T.ty e
 | _=>none
def JV (T:dk) (t:Nat):Option (Nat×Ty):=match T.ty t with
 | some { kd:=.array n e,.. }=>match T.ty e with
   | some y=>some (n,y)
   | none=>none
 | _=>none
def AA (n size:Nat) (i:Int) (c:C):Option D:=match c with
 | .rt r k j=>Bool.rec none (some (.c (.rt r k (j+i.toNat*size)))) (dm i n)
 | _=>none
def FM (T:dk) (n size:Nat) (i:Int) (q:Nat):Option D:=match T.gv q with
 | some g=>Bool.rec none (Bool.rec none (some (.c (.im (.pt size λj=>g.2 (i.toNat*size+j))))) (dm i n)) (Nat.beq (n*size) g.1)
 | none=>none
def wC (T:dk) (n size:Nat) (i:Int) (c:C):Option D:=match c with
 | .im (.gp q)=>FM T n size i q
 | _=>AA n size i c
def mU (T:dk) (s:VS) (t:Nat) (x ix:Operand):Option D:=match JV T t with
 | some a=>match gU (ch s.sl ix) with
   | some i=>match cR (ch s.sl x) with
     | some c=>wC T a.1 a.2.size i c
     | none=>none
   | none=>none
 | none=>match sv T t with
 | some y=>match gU (ch s.sl ix) with
   | some i=>match cR (ch s.sl x) with
     | some c=>qg s.rs y.size i c
     | none=>none
   | none=>none
 | none=>none
def sc (y:Ty) (l:List C) (j:Nat):Option D:=match y.kd.agg with
 | true=>match takeN y.size (yc j l) with
   | some cs=>some (.a cs)
   | none=>none
 | false=>match aR l j with
   | some c=>some (.c c)
   | none=>none
def NV (y:Ty) (n:Nat) (get:Nat->I):Option D:=match y.kd.agg with
 | true=>Bool.rec none (some (.a (dq get 0 y.size))) (Nat.ble y.size n)
 | false=>Bool.rec none (some (.c (.im (get 0)))) (Nat.blt 0 n)
def Ie (y:Ty) (sz n:Nat) (get:Nat->Nat->I) (i j:Nat):Option D:=match y.kd.agg with
 | true=>Bool.rec none (Bool.rec none (some (.a (dq (get i) j y.size))) (Nat.blt i n)) (Nat.ble (j+y.size) sz)
 | false=>Bool.rec none (Bool.rec none (some (.c (.im (get i j)))) (Nat.blt i n)) (Nat.blt j sz)
def Ds (y:Ty) (sz n:Nat) (f:Nat->Option C) (i j:Nat):Option D:=match y.kd.agg with
 | true=>Bool.rec none (Bool.rec none (match oM f j y.size with
   | some l=>some (.a l)
   | none=>none) (Nat.blt i n)) (Nat.ble (j+y.size) sz)
 | false=>Bool.rec none (Bool.rec none (match f j with
   | some c=>some (.c c)
   | none=>none) (Nat.blt i n)) (Nat.blt j sz)
def wX (y:Ty) (x:Option ae) (i j:Nat):Option D:=match x with
 | some (.box l)=>match i with
   | 0=>sc y l j
   | _+1=>none
 | some (.row _ sz _ l)=>sc y l (i*sz+j)
 | some (.arr _ sz n get)=>Ie y sz n get i j
 | some (.bL _ sz n get dJ)=>Ds y sz n (ym get dJ i) i j
 | _=>none
def UH (T:dk) (y:Ty) (q:Nat):Option D:=match T.gl q with
 | some z=>match y.kd.agg with
   | true=>none
   | false=>some (.c (.im z))
 | none=>none
def rp (T:dk) (rs:List ae) (y:Ty) (c:C):Option D:=match c with
 | .rt r i j=>wX y (aR rs r) i j
 | .im (.gp q)=>UH T y q
 | .im (.pt n get)=>NV y n get
 | _=>none
def ki (T:dk) (s:VS) (t:Nat) (x:Operand):Option D:=match T.ty t with
 | some y=>match cR (ch s.sl x) with
   | some c=>rp T s.rs y c
   | none=>none
 | none=>none
def V4 (d:Option D):Option (List (Bool×List C)):=match d with
 | some (.t l)=>some l
 | _=>none
def rL (s:VS) (x:Operand) (k:Nat):Option D:=match V4 (ch s.sl x) with
 | some l=>match aR l k with
   | some (true,cs)=>some (.a cs)
   | some (false,[c])=>some (.c c)
   | _=>none
 | none=>none
def uo (p9:List (Nat×Nat)) (sl:aL) (parts:List (Nat×Operand)):List C->Option (List C):=List.rec (λl=>some l) (λp _ ih l=>
 match aR p9 p.1 with
 | some o=>match ch sl p.2 with
   | some d=>match d.cells with
     | some cs=>Bool.rec none (match put l o.1 cs with
       | some l'=>ih l'
       | none=>none) (Nat.beq cs.length o.2&&Nat.blt 0 o.2)
     | none=>none
   | none=>none
 | none=>none) parts
def Cz (T:dk) (s:VS) (t:Nat) (parts:List (Nat×Operand)):Option D:=match T.ty t with
 | some y=>match II T y with
   | some fs=>match vY y with
     | some z=>match uo fs s.sl parts z with
       | some l=>some (.a l)
       | none=>none
     | none=>none
   | none=>none
 | none=>none
def IB (s:VS) (fn:Fn) (first:List Operand) (dQ:List Operand):Option D:=match fn with
 | .func f=>match first with
   | []=>match yF s.sl dQ with
     | some []=>some (.c (.fh f []))
     | some [.c (.rt r 0 0)]=>some (.c (.fh f [r]))
     | some [.c (.rt r 0 0),.c (.rt r' 0 0)]=>some (.c (.fh f [r,r']))
     | some [.c (.rt r 0 0),.c (.rt r' 0 0),.c (.rt r'' 0 0)]=>some (.c (.fh f [r,r',r'']))
     | _=>none
   | _=>none
 | _=>none
def ai0 (c:C):Option D:=match c with
 | .im (.sl _ n _)=>some (int n)
 | .sa _ m=>some (int m)
 | .im (.v (.slice _ n _))=>some (int n)
 | _=>none
def O9 (T:dk) (s:VS) (ts:List TypeId) (xs:List Operand):Option D:=match ts,xs with
 | [t],[x]=>match T.ty t with
   | some { kd:=.slice _,.. }=>match cR (ch s.sl x) with
     | some c=>ai0 c
     | none=>none
   | some { kd:=.str,.. }=>match DC (ch s.sl x) with
     | some (.string b)=>some (int b.size)
     | _=>none
   | _=>none
 | _,_=>none
def MF (s:VS) (xs:List Operand):Option D:=match xs with
 | [x,y]=>match gU (ch s.sl x),gU (ch s.sl y) with
   | some a,some b=>some (int (if b>a then b else a))
   | _,_=>none
 | _=>none
def OL (s:VS) (xs:List Operand):Option D:=match xs with
 | [x,y]=>match gU (ch s.sl x),gU (ch s.sl y) with
   | some a,some b=>some (int (if b<a then b else a))
   | _,_=>none
 | _=>none
def GX (T:dk) (s:VS) (b:Builtin) (ts:List TypeId) (xs:List Operand):Option D:=match b with
 | .len=>O9 T s ts xs
 | .max=>MF s xs
 | .min=>OL s xs
 | _=>none
def Fp (T:dk) (s:VS) (c:Call):Option D:=match c.callee with
 | .builtin b=>GX T s b c.argTypes.toList c.args.toList
 | _=>none
def KA (T:dk) (t:Nat):Bool:=match T.ty t with
 | some { kd:=.map k e,.. }=>match T.ty k,T.ty e with
   | some { kd:=.int,.. },some { zero:=.bool false,.. }=>true
   | _,_=>false
 | _=>false
def NH (rs:List ae) (c:C):Option (List Int):=match c with
 | .mp r=>match aR rs r with
   | some (.set l)=>some l
   | _=>none
 | .im (.st l)=>some l
 | _=>none
def fmK (T:dk) (t:Nat):Bool:=match T.ty t with
 | some { kd:=.map k e,.. }=>match T.ty k,T.ty e with
   | some { kd:=.int,.. },some { zero:=.nilFunc,.. }=>true
   | _,_=>false
 | _=>false
def Pm (n:Int) (l:List (Int×FuncId)):Option FuncId:=List.rec none (λx _ ih=>Bool.rec ih (some x.2) (n==x.1)) l
def fmC (x:Option FuncId):C:=match x with
 | some f=>.im (.fn f 0 λ_=>.v (.bool false))
 | none=>.im (.v .nilFunc)
def fmB (x:Option FuncId):Bool:=match x with
 | some _=>true
 | none=>false
def fmD (ok:Bool) (x:Option FuncId):D:=match ok with
 | true=>.t [(false,[fmC x]),(false,[.im (.v (.bool (fmB x)))])]
 | false=>.c (fmC x)
def ZH (T:dk) (s:VS) (t:Nat) (x i:Operand) (ok:Bool):Option D:=Bool.rec none (match cR (ch s.sl x),gU (ch s.sl i) with
 | some (.im (.fm l)),some n=>some (fmD ok (Pm n l))
 | _,_=>none) (fmK T t)
def mZ (T:dk) (s:VS) (t:Nat) (x i:Operand) (ok:Bool):Option D:=match ok with
 | true=>ZH T s t x i true
 | false=>Bool.rec (ZH T s t x i false) (match cR (ch s.sl x),gU (ch s.sl i) with
   | some c,some n=>match NH s.rs c with
     | some l=>some (bool (ez n l))
     | none=>none
   | _,_=>none) (KA T t)
def Li (i:Int) (n:Nat):Bool:=match i with
 | .ofNat k=>Nat.ble k n
 | .negSucc _=>false
def mW (rs:List ae) (c:C) (h:Int):Option D:=match c with
 | .im (.sl sz n get)=>Bool.rec none (some (.c (.im (.sl sz h.toNat get)))) (Li h n)
 | .sa r m=>match aR rs r with
   | some (.row _ _ _ _)=>Bool.rec none (some (.c (.sa r h.toNat))) (Li h m)
   | some (.arr _ _ _ _)=>Bool.rec none (some (.c (.sa r h.toNat))) (Li h m)
   | some (.bL _ _ _ _ _)=>Bool.rec none (some (.c (.sa r h.toNat))) (Li h m)
   | _=>none
 | .im (.v (.slice none 0 0))=>Bool.rec none (some (.c c)) (h==0)
 | _=>none
def vK (sz:Nat) (c:C) (h:Int):Option D:=match c with
 | .im (.sl cL n get)=>Bool.rec none (some (.c (.im (.sl cL (n-h.toNat) λi j=>get (h.toNat+i) j)))) (Li h n&&Nat.beq cL sz)
 | _=>none
def kb (T:dk) (s:VS) (t:Nat) (x:Operand) (lo hi mx:Option Operand):Option D:=match lo,hi,mx with
 | none,some h,none=>match sv T t with
   | some _=>match cR (ch s.sl x),gU (ch s.sl h) with
     | some c,some n=>mW s.rs c n
     | _,_=>none
   | none=>none
 | some l,none,none=>match sv T t with
   | some y=>match cR (ch s.sl x),gU (ch s.sl l) with
     | some c,some n=>vK y.size c n
     | _,_=>none
   | none=>none
 | _,_,_=>none
def Tj (T:dk) (s:VS) (t t':Nat) (x:Operand):Option D:=match T.ty t,T.ty t' with
 | some _,some { kd:=.int,.. }=>match cR (ch s.sl x) with
   | some (.im (.v (.int .u8 n)))=>some (int (IntKind.i64.wrap n))
   | _=>none
 | _,_=>none
def eN (T:dk) (s:VS) (op:Op):Option D:=match op with
 | .move x=>ch s.sl x
 | .assign x=>ch s.sl x
 | .pick c x y=>yT s c x y
 | .binOp o t x y _=>wO T s o t x y
 | .unOp o _ x=>unF s o x
 | .nilCheck x=>vq s x
 | .fieldAddr t x f=>B0 T s t x f
 | .indexAddr t x i=>mU T s t x i
 | .load t x=>ki T s t x
 | .extract x k=>rL s x k
 | .build t ps=>Cz T s t ps.toList
 | .makeFunc fn first dQ=>IB s fn first.toList dQ.toList
 | .call c=>Fp T s c
 | .lookup t x i ok=>mZ T s t x i ok
 | .slice t x lo hi mx=>kb T s t x lo hi mx
 | .convert t t' x=>Tj T s t t' x
 | _=>none
structure Hint where
 ah2:FuncId->Nat->Option (List Tmp)
 mode:FuncId->Nat
 ct:Tmp->Bool:=λ_=>false
structure Lo where
 call:FuncId->List D->List ae->Option (D×List ae)
 PD:Nat->List D->List ae->Option (D×List ae)
 diff:List ae->List ae->Option (List (Nat×ae))
 wr:FuncId->List D->List ae->Option (D×Nat×ae)
def qq (N:Nat) (s:VS) (dst:Option Tmp) (d:D):Option VS:=match dst with
 | none=>some s
 | some t=>Bool.rec none (some { s with sl:=(t,d,[])::s.sl }) (Nat.blt t N)
def GV (r:Nat) (sz:Nat) (get:Nat->Nat->I) (x:C):C:=match x with
 | .sa q m=>Bool.rec x (.im (.sl sz m get)) (Nat.beq q r)
 | _=>x
def SB (r:Nat) (sz:Nat) (get:Nat->Nat->I) (d:D):D:=match d with
 | .c x=>.c (GV r sz get x)
 | .a l=>.a (l.map (GV r sz get))
 | .t l=>.t (l.map λx=>(x.1,x.2.map (GV r sz get)))
def KH (r:Nat) (sz:Nat) (get:Nat->Nat->I) (x:ae):ae:=match x with
 | .box l=>.box (l.map (GV r sz get))
 | .row e k n l=>.row e k n (l.map (GV r sz get))
 | _=>x
def I1 (r sz:Nat) (s:VS) (l:Option (List I)):Option VS:=match l with
 | some is=>some { s with sl:=s.sl.map (λx=>(x.1,SB r sz (flat sz is) x.2.1,x.2.2)),rs:=setAt (s.rs.map (KH r sz (flat sz is))) r .dead }
 | none=>none
def sk (r sz:Nat) (get:Nat->Nat->I) (s:VS):VS:={ s with sl:=s.sl.map (λx=>(x.1,SB r sz get x.2.1,x.2.2)),rs:=setAt (s.rs.map (KH r sz get)) r .dead }
def freeze (r:Nat) (s:VS):Option VS:=match aR s.rs r with
 | some (.row _ sz _ l)=>I1 r sz s (CR l)
 | some (.arr _ sz _ get)=>some (sk r sz get s)
 | some (.bL _ sz _ get none)=>some (sk r sz (λi j=>oI (get i j)) s)
 | some .dead=>some s
 | _=>none
def gg (l:List Nat) (s:VS):Option VS:=List.rec (λs=>some s) (λr _ ih s=>match freeze r s with
 | some s'=>ih s'
 | none=>none) l s
def Xo (rec:List C->Option (List Nat)) (rs:List ae) (x:C):Option (List Nat):=match x with
 | .im _=>some []
 | .sa r _=>match aR rs r with
   | some (.row _ _ _ l)=>match rec l with
     | some m=>some (m++[r])
     | none=>none
   | some (.arr _ _ _ _)=>some [r]
   | some (.bL _ _ _ _ none)=>some [r]
   | _=>none
 | _=>none
def Eg (rec:List C->Option (List Nat)) (rs:List ae) (l:List C):Option (List Nat):=List.rec (some []) (λx _ ih=>match Xo rec rs x with
 | some a=>match ih with
   | some b=>some (a++b)
   | none=>none
 | none=>none) l
def Vz (rs:List ae) (k:Nat):List C->Option (List Nat):=Nat.rec (λ_=>none) (λ_ ih=>Eg ih rs) k
def Gq (rs:List ae) (d:D):Option (List Nat):=match d with
 | .c x=>Vz rs 6 [x]
 | .a l=>Vz rs 6 l
 | .t _=>none
def ud (rs:List ae) (l:List D):Option (List Nat):=List.rec (some []) (λd _ ih=>match Gq rs d,ih with
 | some a,some b=>some (a++b)
 | _,_=>none) l
inductive cn where
 | val (d:D)
 | wr (d:Option D) (ws:List (Nat×ae))
 | all (d:D) (rs:List ae)
 | ct (l:List Nat)
def uL (b:Nat) (s:VS) (x:Operand):Option cn:=match ch s.sl x with
 | some d=>match d.cells with
   | some l=>some (.wr (some (.c (.rt b 0 0))) [(b,.box l)])
   | none=>none
 | none=>none
def j6 (T:dk) (b:Nat) (t:Nat):Option cn:=match T.ty t with
 | some y=>match vY y with
   | some l=>some (.wr (some (.c (.rt b 0 0))) [(b,.box l)])
   | none=>none
 | none=>none
def GM (get:Nat->Nat->I) (i j:Nat) (ys:List I):Nat->Nat->I:=λi' j'=>Bool.rec (get i' j') (iA ys (j'-j)) (Nat.beq i' i&&(Nat.ble j j'&&Nat.blt j' (j+ys.length)))
def nW (rs:List ae) (l:List C):Option cn:=match Vz rs 6 l with
 | some (r::m)=>some (.ct (r::m))
 | _=>none
def JQ (get:Nat->Nat->O) (i j:Nat) (ys:List I):Nat->Nat->O:=λi' j'=>Bool.rec (get i' j') (.im (iA ys (j'-j))) (Nat.beq i' i&&(Nat.ble j j'&&Nat.blt j' (j+ys.length)))
noncomputable def OB (ys:List C):List Fc->Nat->Option (List Fc):=List.rec (λl _=>some l) (λy _ ih l o=>match aR l o with
 | some _=>ih (setAt l o (.c y)) (o+1)
 | none=>none) ys
noncomputable def nF (el sz n:Nat) (get:Nat->Nat->O) (dJ:Option (Nat×List Fc)) (size r i j:Nat) (cs:List C):Option cn:=match CR cs with
 | some ys=>Bool.rec none (Bool.rec none (some (.wr none [(r,.bL el sz n (JQ get i j ys) dJ)])) (Nat.blt i n)) (Nat.ble (j+size) sz)
 | none=>none
noncomputable def qm (el sz n:Nat) (get:Nat->Nat->O) (dJ:Option (Nat×List Fc)) (size r i j:Nat) (cs:List C):Option cn:=match dJ with
 | none=>nF el sz n get dJ size r i j cs
 | some x=>Bool.rec (nF el sz n get dJ size r i j cs) (match OB cs x.2 j with
   | some l=>Bool.rec none (some (.wr none [(r,.bL el sz n get (some (x.1,l)))])) (Nat.ble (j+size) sz)
   | none=>none) (Nat.beq i x.1)
def lA (rs:List ae) (size r i j:Nat) (cs:List C):Option cn:=match aR rs r with
 | some (.box l)=>match i with
   | 0=>match put l j cs with
     | some l'=>some (.wr none [(r,.box l')])
     | none=>none
   | _+1=>none
 | some (.row el sz n l)=>match put l (i*sz+j) cs with
   | some l'=>some (.wr none [(r,.row el sz n l')])
   | none=>none
 | some (.arr el sz n get)=>match CR cs with
   | some ys=>Bool.rec none (Bool.rec none (some (.wr none [(r,.arr el sz n (GM get i j ys))])) (Nat.blt i n)) (Nat.ble (j+size) sz)
   | none=>nW rs cs
 | some (.bL el sz n get dJ)=>qm el sz n get dJ size r i j cs
 | _=>none
def gz (T:dk) (s:VS) (dst:Option Tmp) (t:Nat) (x v:Operand):Option cn:=match dst with
 | some _=>none
 | none=>match T.ty t,ch s.sl v with
   | some y,some d=>match d.cells with
     | some cs=>Bool.rec none (match cR (ch s.sl x) with
       | some (.rt r i j)=>lA s.rs y.size r i j cs
       | _=>none) (Nat.beq cs.length y.size&&Nat.blt 0 y.size)
     | none=>none
   | _,_=>none
def n9 (sz:Nat) (sl:aL) (parts:List (Nat×Operand)):List C->Option (List C):=List.rec (λl=>some l) (λp _ ih l=>
 match ch sl p.2 with
 | some d=>match d.cells with
   | some cs=>Bool.rec none (match put l (p.1*sz) cs with
     | some l'=>ih l'
     | none=>none) (Nat.beq cs.length sz&&Nat.blt 0 sz)
   | none=>none
 | none=>none) parts
def JE (ct:Bool) (b el sz n:Nat) (l:List C):cn:=match ct with
 | false=>.wr (some (.c (.sa b n))) [(b,.row el sz n l)]
 | true=>match CR l with
   | some is=>.val (.c (.im (.sl sz n (flat sz is))))
   | none=>.wr (some (.c (.sa b n))) [(b,.row el sz n l)]
def mv:Nat->Nat->I:=λ_ _=>.v (.bool false)
def H8 (ct:Bool) (b el sz n:Nat) (l:List C):cn:=match n with
 | 0=>match ct with
   | false=>.wr (some (.c (.sa b 0))) [(b,.arr el sz 0 mv)]
   | true=>.wr (some (.c (.sa b 0))) [(b,.row el sz 0 l)]
 | n+1=>JE ct b el sz (n+1) l
def zf (hi:Hint) (dst:Option Tmp):Bool:=match dst with
 | some t=>hi.ct t
 | none=>false
theorem jq (ct:Bool) (b el sz n:Nat) (l:List C):H8 ct b el sz n l=.wr (some (.c (.sa b n))) [(b,.row el sz n l)]∨(∃ is,CR l=some is/\H8 ct b el sz n l=.val (.c (.im (.sl sz n (flat sz is)))))∨(n=0/\H8 ct b el sz n l=.wr (some (.c (.sa b 0))) [(b,.arr el sz 0 mv)]):=by
 cases n with
 | zero=>cases ct with
   | false=>exact .inr (.inr ⟨rfl,rfl⟩)
   | true=>exact .inl rfl
 | succ n=>
   show JE ct b el sz (n+1) l=_∨(∃ is,CR l=some is/\JE ct b el sz (n+1) l=_)∨_
   unfold JE
   grind
def LF (T:dk) (b:Nat) (s:VS) (ct:Bool) (t n:Nat) (parts:List (Nat×Operand)):Option cn:=match T.ty t with
 | some { kd:=.slice el,.. }=>match T.ty el with
   | some y=>match vY y with
     | some z=>match n9 y.size s.sl parts (Qp z n) with
       | some l=>Bool.rec none (some (H8 ct b el y.size n l)) (Nat.blt 0 y.size&&Nat.ble (n*y.size) 1000000)
       | none=>none
     | none=>none
   | none=>none
 | _=>none
def dU (n bytes:Nat):Bool:=Nat.ble n maxLen&&Nat.ble (n*bytes) 140737488355328
def CT (el sz k:Nat) (l':List C) (bytes b:Nat) (rs:List ae) (c:C):Option cn:=match c with
 | .im (.v (.slice none 0 0))=>match k with
   | 0=>some (.val (.c c))
   | _+1=>Bool.rec none (some (.wr (some (.c (.sa b k))) [(b,.row el sz k l')])) (dU k bytes)
 | .sa r m=>match aR rs r with
   | some (.row qQ cL n l)=>Bool.rec none (Bool.rec none (some (.wr (some (.c (.sa b (n+k)))) [(r,.dead),(b,.row el sz (n+k) (l++l'))]))
     (Nat.beq m n&&dU (n+k) bytes)) (Nat.beq el qQ&&Nat.beq sz cL)
   | some (.bL qQ cL n get none)=>match k with
     | 1=>Bool.rec none (Bool.rec none (some (.wr (some (.c (.sa b (n+1)))) [(r,.dead),(b,.bL el sz (n+1) get (some (n,l'.map Fc.c)))]))
       (Nat.beq m n&&dU (n+1) bytes)) (Nat.beq el qQ&&Nat.beq sz cL)
     | _=>none
   | _=>none
 | _=>none
def uI (get:Nat->Nat->I) (sz:Nat) (i:Nat) (n:Nat):List C:=Nat.rec (λ_=>[]) (λ_ ih i=>dq (get i) 0 sz++ih (i+1)) n i
def kB (n:Nat) (get get':Nat->Nat->I):Nat->Nat->I:=λi j=>Bool.rec (get' (i-n) j) (get i j) (Nat.blt i n)
def qM (el sz k:Nat) (get':Nat->Nat->I) (bytes b:Nat) (rs:List ae) (c:C):Option cn:=match c with
 | .im (.v (.slice none 0 0))=>Bool.rec none (some (.wr (some (.c (.sa b k))) [(b,.arr el sz k get')])) (dU k bytes)
 | .sa r m=>match aR rs r with
   | some (.arr qQ cL n get)=>Bool.rec none (Bool.rec none (Bool.rec none (some (.wr (some (.c (.sa b (n+k)))) [(r,.dead),(b,.arr el sz (n+k) (kB n get get'))]))
     (Nat.beq m n)) (dU (n+k) bytes)) (Nat.beq el qQ&&Nat.beq sz cL)
   | _=>none
 | _=>none
def yf (rs:List ae) (c:C):Option (Nat×Nat×List C):=match c with
 | .im (.sl sz k get)=>some (sz,k,uI get sz 0 k)
 | .im (.v (.slice none 0 0))=>some (0,0,[])
 | .sa q k=>match aR rs q with
   | some (.row _ sz n l)=>Bool.rec none (match takeN (k*sz) l with
     | some l'=>some (sz,k,l')
     | none=>none) (Nat.ble k n)
   | some (.arr _ sz n get)=>Bool.rec none (some (sz,k,uI get sz 0 k)) (Nat.ble k n)
   | _=>none
 | _=>none
def rZ (sz:Nat) (rs:List ae) (c:C):Option (Nat×(Nat->Nat->I)):=match c with
 | .im (.sl cL k get)=>Bool.rec none (some (k,get)) (Nat.beq cL sz)
 | .im (.v (.slice none 0 0))=>some (0,λ_ _=>.v (.bool false))
 | .sa q k=>match aR rs q with
   | some (.row _ cL n l)=>Bool.rec none (match takeN (k*sz) l with
     | some l'=>match CR l' with
       | some is=>some (k,flat sz is)
       | none=>none
     | none=>none) (Nat.ble k n&&Nat.beq cL sz)
   | some (.arr _ cL n get)=>Bool.rec none (Bool.rec none (some (k,get)) (Nat.ble k n)) (Nat.beq cL sz)
   | _=>none
 | _=>none
def Ly (rs:List ae) (c src:C):Bool:=match c with
 | .sa r _=>match aR rs r with
   | some (.arr _ _ _ _)=>true
   | _=>false
 | .im (.v (.slice none 0 0))=>match src with
   | .im (.sl _ _ _)=>true
   | .sa q _=>match aR rs q with
     | some (.arr _ _ _ _)=>true
     | _=>false
   | _=>false
 | _=>false
def AE (ty:Ty) (el b:Nat) (rs:List ae) (c src:C):Option cn:=match rZ ty.size rs src with
 | some (k,get')=>Bool.rec none (qM el ty.size k get' ty.bytes b rs c) (Nat.blt 0 ty.size)
 | none=>nW rs [src]
def o5 (T:dk) (el b:Nat) (rs:List ae) (x src:Option C):Option (Option cn):=match x,src with
 | some c,some src=>match Ly rs c src with
   | true=>match T.ty el with
     | some ty=>some (AE ty el b rs c src)
     | none=>some none
   | false=>none
 | _,_=>none
def nZ (T:dk) (el:Nat) (b:Nat) (rs:List ae) (x src:Option C):Option cn:=match T.ty el with
 | some ty=>match src with
   | some src=>match yf rs src with
     | some (sz,k,l')=>match x with
       | some c=>match k with
         | 0=>Bool.rec none (CT el ty.size 0 [] ty.bytes b rs c) (Nat.blt 0 ty.size)
         | _+1=>Bool.rec none (CT el sz k l' ty.bytes b rs c) (Nat.beq sz ty.size&&Nat.blt 0 sz)
       | none=>none
     | none=>none
   | none=>none
 | none=>none
def ob (T:dk) (b:Nat) (s:VS) (ts:List TypeId) (xs:List Operand):Option cn:=match ts,xs with
 | [t,t'],[x,y]=>Bool.rec none (match T.ty t with
   | some { kd:=.slice el,.. }=>match o5 T el b s.rs (cR (ch s.sl x)) (cR (ch s.sl y)) with
     | some e=>e
     | none=>nZ T el b s.rs (cR (ch s.sl x)) (cR (ch s.sl y))
   | _=>none) (Nat.beq t t')
 | _,_=>none
def yq (lo:Lo) (rs:List ae) (f:FuncId) (ds:List D):Option D:=match cQ rs ds with
 | some is=>match lo.call f is [] with
   | some (d,aG)=>dg aG d
   | none=>none
 | none=>none
def wP (lo:Lo) (rs:List ae) (f:FuncId) (ds:List D) (b:Nat):Option cn:=match cQ rs ds with
 | some is=>match lo.call f is [] with
   | some (.c (.sa q m),aG)=>match aR aG q with
     | some (.row el sz n l)=>Bool.rec none (some (.wr (some (.c (.sa b n))) [(b,.row el sz n l)])) (Nat.beq m n&&fj l)
     | some (.arr el sz n get)=>Bool.rec none (some (.wr (some (.c (.sa b n))) [(b,.arr el sz n get)])) (Nat.beq m n)
     | _=>none
   | some (d,aG)=>match dg aG d with
     | some d'=>Bool.rec none (some (.val d')) (gT d')
     | none=>none
   | none=>none
 | none=>none
def jx (rs:List ae) (ds:List D) (e:cn):Option cn:=match ud rs ds with
 | some (r::l)=>some (.ct (r::l))
 | some []=>some e
 | none=>none
def sV (lo:Lo) (rs:List ae) (f:FuncId) (ds:List D):Option cn:=match lo.call f ds rs with
 | some (d,aG)=>some (.all d aG)
 | none=>none
def gq (lo:Lo) (rs:List ae) (f:FuncId) (ds:List D):Option cn:=match yq lo rs f ds with
 | some d=>Bool.rec (Bool.rec none (jx rs ds (.val d)) (l3 d)) (some (.val d)) (gT d)
 | none=>none
def fK (lo:Lo) (rs:List ae) (f:FuncId) (ds:List D) (b:Nat):Option cn:=match wP lo rs f ds b with
 | some (.val d)=>some (.val d)
 | some (.wr d [(q,.row el sz n l)])=>Bool.rec (jx rs ds (.wr d [(q,.row el sz n l)])) (some (.wr d [(q,.row el sz n l)])) (eI l)
 | some (.wr d [(q,.arr el sz n get)])=>jx rs ds (.wr d [(q,.arr el sz n get)])
 | _=>none
def SQ (b:Nat) (c:C):Option C:=match c with
 | .im x=>some (.im x)
 | .ow 0 j=>some (.ow b j)
 | _=>none
def yu (lo:Lo) (rs:List ae) (f:FuncId) (ds:List D) (b:Nat):Option cn:=Bool.rec none (match cQ rs ds with
 | some is=>match lo.call f is [] with
   | some (.a cs,[.own L])=>match qe (SQ b) cs with
     | some qR=>some (.wr (some (.a qR)) [(b,.own L)])
     | none=>none
   | _=>none
 | none=>none) (eU ds)
def SG (lo:Lo) (rs:List ae) (f:FuncId) (ds:List D):Option cn:=match lo.wr f ds rs with
 | some (d,q,x)=>Bool.rec none (some (.wr (some d) [(q,x)])) (Nat.blt q rs.length)
 | none=>none
def nO (lo:Lo) (hi:Hint) (rs:List ae) (b:Nat) (f:FuncId) (ds:List D):Option cn:=match hi.mode f with
 | 0=>gq lo rs f ds
 | 1=>sV lo rs f ds
 | 2=>fK lo rs f ds b
 | 4=>SG lo rs f ds
 | 5=>yu lo rs f ds b
 | _=>Bool.rec (sV lo rs f ds) (gq lo rs f ds) (eU ds)
def BP (lo:Lo) (rs:List ae) (r:Nat) (ds:List D):Option cn:=match lo.PD r ds rs with
 | some (d,aG)=>some (.all d aG)
 | none=>none
def oN (c:C):Option (FuncId×List D):=match c with
 | .fh f dQ=>some (f,dQ.map λr=>.c (.rt r 0 0))
 | .im (.fn f n cap)=>some (f,(dq cap 0 n).map .c)
 | _=>none
def lx (lo:Lo) (hi:Hint) (b:Nat) (s:VS) (f:Operand) (xs:List Operand):Option cn:=match cR (ch s.sl f),yF s.sl xs with
 | some c,some ds=>match c with
   | .yl r=>BP lo s.rs r ds
   | _=>match oN c with
     | some (g,dQ)=>nO lo hi s.rs b g (ds++dQ)
     | none=>none
 | _,_=>none
def gL (T:dk) (lo:Lo) (hi:Hint) (b:Nat) (s:VS) (c:Call):Option cn:=match c.callee with
 | .builtin .append=>ob T b s c.argTypes.toList c.args.toList
 | .value f=>lx lo hi b s f c.args.toList
 | _=>none
def kp (T:dk) (b t:Nat) (r:Option Operand):Option cn:=match r,T.ty t with
 | none,some { kd:=.map _ _,.. }=>some (.wr (some (.c (.mp b))) [(b,.set [])])
 | _,_=>none
def lI (T:dk) (b:Nat) (s:VS) (t:Nat) (l c:Operand):Option cn:=match T.ty t with
 | some { kd:=.slice el,.. }=>match T.ty el with
   | some y=>match vY y with
     | some z=>match gU (ch s.sl l),gU (ch s.sl c) with
       | some (.ofNat n),some (.ofNat m)=>match CR z with
         | some is=>Bool.rec none (Bool.rec none (Bool.rec none (some (.wr (some (.c (.sa b n))) [(b,.arr el y.size n (λ_=>iA is))])) (Nat.beq n m)) (Nat.ble n maxLen&&Nat.ble (n*y.bytes) 281474976710656)) (Nat.blt 0 y.size)
         | none=>none
       | _,_=>none
     | none=>none
   | none=>none
 | _=>none
def lG (T:dk) (s:VS) (dst:Option Tmp) (t:Nat) (m k v:Operand):Option cn:=match dst with
 | some _=>none
 | none=>Bool.rec none (match cR (ch s.sl m),gU (ch s.sl k),iQ (ch s.sl v) with
   | some (.mp r),some n,some true=>match aR s.rs r with
     | some (.set l)=>some (.wr none [(r,.set (rP n l))])
     | _=>none
   | _,_,_=>none) (KA T t)
def gk (T:dk) (lo:Lo) (hi:Hint) (b:Nat) (s:VS) (dst:Option Tmp) (op:Op):Option cn:=match op with
 | .box _ x=>uL b s x
 | .alloc t=>j6 T b t
 | .store t x v=>gz T s dst t x v
 | .buildSlice t n ps=>LF T b s (zf hi dst) t n ps.toList
 | .call c=>gL T lo hi b s c
 | .makeMap t r=>kp T b t r
 | .makeSlice t l c=>lI T b s t l c
 | .mapUpdate t m k v=>lG T s dst t m k v
 | _=>none
def fH (T:dk) (lo:Lo) (hi:Hint) (b:Nat) (s:VS) (dst:Option Tmp) (op:Op):Option cn:=match eN T s op with
 | some d=>some (.val d)
 | none=>gk T lo hi b s dst op
def writes (ws:List (Nat×ae)) (rs:List ae):List ae:=List.rec (λrs=>rs) (λp _ ih rs=>ih (setAt rs p.1 p.2)) ws rs
def place (b:Nat) (x:ae) (rs:List ae):List ae:=Bool.rec (setAt rs b x) (rs++[x]) (Nat.beq b rs.length)
def C9 (e:cn) (rs:List ae):List ae:=match e with
 | .wr _ [(q,x)]=>place q x rs
 | .wr _ [(q,x),(b,y)]=>place b y (setAt rs q x)
 | .all _ aG=>aG
 | _=>rs
def IY (N:Nat) (s:VS) (dst:Option Tmp) (d:Option D):Option VS:=match d with
 | some d=>qq N s dst d
 | none=>some s
def pM (N:Nat) (s:VS) (dst:Option Tmp) (e:cn):Option VS:=match e with
 | .val d=>qq N s dst d
 | .wr d ws=>IY N { s with rs:=C9 (.wr d ws) s.rs } dst d
 | .all d rs=>qq N { s with rs:=rs } dst d
 | .ct _=>none
def PI (T:dk) (lo:Lo) (hi:Hint) (N:Nat) (dst:Option Tmp) (op:Op) (s:Option VS):Option VS:=match s with
 | some s=>match fH T lo hi s.rs.length s dst op with
   | some e=>pM N s dst e
   | none=>none
 | none=>none
def DK (T:dk) (lo:Lo) (hi:Hint) (N:Nat) (s:VS) (dst:Option Tmp) (op:Op):Option VS:=match fH T lo hi s.rs.length s dst op with
 | some (.ct l)=>PI T lo hi N dst op (gg l s)
 | some e=>pM N s dst e
 | none=>none
def JM (d:Option D) (want:Bool):Option Bool:=match d with
 | some (.t [])=>some false
 | _=>match iQ d with
   | some x=>some (Lj x want)
   | none=>none
def lV (ops:List Oper) (sl:aL) (g:Option (Nat×Bool)):Option Bool:=match g with
 | none=>some true
 | some (j,want)=>match aR ops j with
   | some p=>match p.dst with
     | some t=>JM (dW sl t) want
     | none=>none
   | none=>none
def opF (T:dk) (lo:Lo) (hi:Hint) (N:Nat) (ops:List Oper) (s:VS) (o:Oper):Option VS:=match lV ops s.sl o.guard with
 | some true=>DK T lo hi N s o.dst o.op
 | some false=>qq N s o.dst (.t [])
 | none=>none
def Le (T:dk) (lo:Lo) (hi:Hint) (N:Nat) (ops l:List Oper):VS->Option VS:=List.rec (λs=>some s) (λo _ ih s=>match opF T lo hi N ops s o with
 | some s'=>ih s'
 | none=>none) l
end
open Go.RowKit
inductive az {α β:Type} (R:α->β->Prop):List α->List β->Prop
 | nil:az R [] []
 | cons {x y l m}:R x y->az R l m->az R (x::l) (y::m)
theorem az.mono {α β:Type} {R S:α->β->Prop} (h:∀ x y,R x y->S x y) {l:List α} {m:List β} (k:az R l m):az S l m:=by
 induction k with
 | nil=>exact .nil
 | cons a _ ih=>exact .cons (h _ _ a) ih
theorem az.length {α β:Type} {R:α->β->Prop} {l:List α} {m:List β} (k:az R l m):l.length=m.length:=by
 induction k with
 | nil=>rfl
 | cons _ _ ih=>simp [ih]
theorem az.nth {α β:Type} {R:α->β->Prop} {l:List α} {m:List β} (k:az R l m):∀ {i x},V.nth l i=some x->∃ y,m[i]?=some y/\R x y:=by
 induction k with
 | nil=>intro i x h; simp [V.nth] at h
 | cons a b ih=>
   intro i x h
   cases i with
   | zero=>grind [V.nth]
   | succ i=>grind [V.nth]
theorem bg {α:Type}:∀ (l:List α) (i:Nat),nth l i=l[i]?
 | [],_=>rfl
 | _::_,0=>rfl
 | _::l,i+1=>by simp only [nth]; rw [bg l i]; simp
theorem ba {α:Type}:∀ (l:List α) (i:Nat) (x:α),setAt l i x=l.set i x
 | [],_,_=>rfl
 | _::_,0,_=>rfl
 | _::l,i+1,x=>by simp only [setAt]; rw [ba l i]; simp
theorem az.set {α β:Type} {R:α->β->Prop} {l:List α} {m:List β} (k:az R l m):∀ (i:Nat) {x:α} {y:β},R x y->az R (l.set i x) (m.set i y):=by
 induction k with
 | nil=>intro i x y _; exact .nil
 | cons a b ih=>
   intro i x y h
   cases i with
   | zero=>exact .cons h b
   | succ i=>exact .cons a (ih i h)
theorem az.append {α β:Type} {R:α->β->Prop} {l l':List α} {m m':List β} (k:az R l m) (k':az R l' m'):az R (l++l') (m++m'):=by
 induction k with
 | nil=>exact k'
 | cons a _ ih=>exact .cons a ih
theorem l7:∀ (n:Nat) (l r:List C),takeN n l=some r->r=l.take n/\n<=l.length
 | 0,l,r,h=>by simp [takeN] at h; simp [h]
 | n+1,[],r,h=>by simp [takeN] at h
 | n+1,x::l,r,h=>by
   simp only [takeN] at h
   split at h
   .rename_i q hq
    obtain ⟨h1,h2⟩:=l7 n l q hq
    grind
   .simp at h
theorem vT:∀ (n:Nat) (l:List C),yc n l=l.drop n
 | 0,_=>rfl
 | _+1,[]=>rfl
 | n+1,_::l=>by simp only [yc]; rw [vT n l]; rfl
theorem az.drop {α β:Type} {R:α->β->Prop} {l:List α} {m:List β} (k:az R l m):∀ n,az R (l.drop n) (m.drop n):=by
 induction k with
 | nil=>intro n; simp; exact .nil
 | cons a b ih=>
   intro n
   cases n with
   | zero=>exact .cons a b
   | succ n=>simpa using ih n
theorem az.take {α β:Type} {R:α->β->Prop} {l:List α} {m:List β} (k:az R l m):∀ n,az R (l.take n) (m.take n):=by
 induction k with
 | nil=>intro n; simp; exact .nil
 | cons a b ih=>
   intro n
   cases n with
   | zero=>simp; exact .nil
   | succ n=>simpa using .cons a (ih n)
def cF (av:Nat->Prop) (w:World):I->Value->Prop
 | .v x,v=>v=x/\x.oneCell'=true
 | .sl sz n get,v=>∃ a cap,v=.slice a n cap/\n<=cap/\n<=maxLen/\(0<n->∃ ad:Addr,a=some ad/\ad.spot=none/\¬ av ad.block/\ad.block<w.heap.size/\
   ∀ i,i<n->∀ j,j<sz->∃ x,w.cell? (ad.add (i*sz+j))=some x/\cF av w (get i j) x)
 | .pt sz get,v=>∃ ad:Addr,v=.pointer (some ad)/\ad.spot=none/\¬ av ad.block/\ad.block<w.heap.size/\∀ j,j<sz->∃ x,w.cell? (ad.add j)=some x/\cF av w (get j) x
 | .fn f n cap,v=>∃ vs:Array Value,v=.func (.func f) #[] vs/\vs.size=n/\∀ j,j<n->∃ x,vs[j]?=some x/\cF av w (cap j) x
 | .st l,v=>∃ b es clock,v=.map (some b)/\¬ av b/\w.heap[b]?=some (.map es clock)/\az (λn (x:MapEntry)=>x.key=.int .i64 n/\x.val=.bool true) l es.toList
 | .gp g,v=>v=.pointer (some ⟨g,0,none⟩)
 | .fm l,v=>∃ b es clock,v=.map (some b)/\¬ av b/\w.heap[b]?=some (.map es clock)/\∀ n:Int,Instr.findNow (.int .i64) (.int .i64 n) es.toList 0=some none/\Ad n l=none∨∃ k f,Instr.findNow (.int .i64) (.int .i64 n) es.toList 0=some (some (k,.func (.func f) #[] #[]))/\Ad n l=some f
 | .tx s,v=>v=.string s/\s.size<=maxLen
theorem cF.one {av:Nat->Prop} {w:World} {x:I} {v:Value} (h:cF av w x v):v.oneCell'=true:=by
 cases x with
 | v x=>obtain ⟨rfl,h⟩:=h; exact h
 | sl sz n get=>obtain ⟨a,cap,rfl,_⟩:=h; rfl
 | pt sz get=>obtain ⟨ad,rfl,_⟩:=h; rfl
 | fn f n cap=>obtain ⟨vs,rfl,_⟩:=h; rfl
 | st l=>obtain ⟨b,es,clock,rfl,_⟩:=h; rfl
 | gp g=>obtain rfl:=h; rfl
 | fm l=>obtain ⟨b,es,clock,rfl,_⟩:=h; rfl
 | tx s=>obtain ⟨rfl,_⟩:=h; rfl
theorem block_add (a:Addr) (n:Nat):(a.add n).block=a.block:=by unfold Addr.add; split<;>rfl
theorem sK {w w':World} {a:Addr} (h:w'.heap[a.block]?=w.heap[a.block]?):w'.cell? a=w.cell? a:=World.cell?_of_block (w:=w) h
structure aW (av:Nat->Prop) (w w':World):Prop where
 size:w.heap.size<=w'.heap.size
 same:∀ b,b<w.heap.size->¬ av b->w'.heap[b]?=w.heap[b]?
theorem aW.refl (av:Nat->Prop) (w:World):aW av w w:=⟨bl _,λ_ _ _=>rfl⟩
theorem aW.lL {av:Nat->Prop} {w w':World} (h:Below w.heap.size w w'):aW av w w':=⟨h.size,λb hb _=>h.block b hb⟩
theorem cF.mono {av cG:Nat->Prop} {w w':World} (hk:aW av w w') (ha:∀ b,b<w.heap.size->cG b->av b):∀ {x:I} {v:Value},cF av w x v->cF cG w' x v:=by
 intro x
 induction x with
 | v x=>intro v h; exact h
 | sl sz n get ih=>
   rintro v ⟨a,cap,rfl,hn,hm,h⟩
   refine ⟨a,cap,rfl,hn,hm,λh0=>?_⟩
   obtain ⟨ad,h1,h2,h3,h4,h5⟩:=h h0
   refine ⟨ad,h1,h2,λq=>h3 (ha _ h4 q),Nat.lt_of_lt_of_le h4 hk.size,λi hi j hj=>?_⟩
   obtain ⟨x,q1,q2⟩:=h5 i hi j hj
   exact ⟨x,by rw [sK (w:=w) (by rw [block_add]; exact hk.same _ h4 h3)]; exact q1,ih i j q2⟩
 | pt sz get ih=>
   rintro v ⟨ad,rfl,h2,h3,h4,h5⟩
   refine ⟨ad,rfl,h2,λq=>h3 (ha _ h4 q),Nat.lt_of_lt_of_le h4 hk.size,λj hj=>?_⟩
   obtain ⟨x,q1,q2⟩:=h5 j hj
   exact ⟨x,by rw [sK (w:=w) (by rw [block_add]; exact hk.same _ h4 h3)]; exact q1,ih j q2⟩
 | fn f n cap ih=>
   rintro v ⟨vs,rfl,h1,h2⟩
   refine ⟨vs,rfl,h1,λj hj=>?_⟩
   grind
 | st l=>
   rintro v ⟨b,es,clock,rfl,h1,h2,h3⟩
   have eG:b<w.heap.size:=(Array.getElem?_eq_some_iff.1 h2).1
   exact ⟨b,es,clock,rfl,λq=>h1 (ha _ eG q),(hk.same _ eG h1).trans h2,h3⟩
 | gp g=>intro v h; exact h
 | tx s=>intro v h; exact h
 | fm l=>
   rintro v ⟨b,es,clock,rfl,h1,h2,h3⟩
   have eG:b<w.heap.size:=(Array.getElem?_eq_some_iff.1 h2).1
   exact ⟨b,es,clock,rfl,λq=>h1 (ha _ eG q),(hk.same _ eG h1).trans h2,h3⟩
abbrev Hd:=Value×(Nat->Prop)
abbrev mS (v:Value):Hd:=(v,λ_=>False)
abbrev lh:Hd:=mS undef
abbrev fJ:=Option Nat×Hd×Nat
abbrev Env:=List fJ
def bh (E:Env) (r b sz:Nat):Prop:=∃ h,E[r]?=some (some b,h,sz)
def fJ.has (e:fJ) (b:Nat):Prop:=e.1=some b∨e.2.1.2 b
def cM (E:Env) (r b sz:Nat):Prop:=∃ e:fJ,E[r]?=some e/\e.2.2=sz/\e.has b
theorem bh.own {E:Env} {r b sz:Nat} (h:bh E r b sz):cM E r b sz:=by obtain ⟨h,q⟩:=h; exact ⟨_,q,rfl,.inl rfl⟩
def a7 (E:Env) (av:Nat->Prop) (w:World):C->Value->Prop
 | .im x,v=>cF av w x v
 | .rt r i j,v=>∃ b sz,bh E r b sz/\v=.pointer (some ⟨b,i*sz+j,none⟩)
 | .sa r m,v=>∃ e a n cap,E[r]?=some e/\e.2.1.1=.slice a n cap/\m<=n/\v=.slice a m cap
 | .mp r,v=>∃ b sz,bh E r b sz/\v=.map (some b)
 | .yl r,v=>∃ b sz,bh E r b sz/\v=.func (.yield b) #[] #[]
 | .ow r j,v=>∃ (e:fJ) (vs:Array Value),E[r]?=some e/\e.2.1.1=.tuple vs/\vs[j]?=some v/\v.oneCell'=true
 | .fh f dQ,v=>∃ vs:Array Value,v=.func (.func f) #[] vs/\az (λr x=>∃ b sz,bh E r b sz/\x=.pointer (some ⟨b,0,none⟩)) dQ vs.toList
theorem a7.one {E:Env} {av:Nat->Prop} {w:World} {x:C} {v:Value} (h:a7 E av w x v):v.oneCell'=true:=by
 cases x with
 | im x=>exact cF.one h
 | rt r i j=>obtain ⟨_,_,_,rfl⟩:=h; rfl
 | sa r m=>obtain ⟨_,_,_,_,_,_,_,rfl⟩:=h; rfl
 | mp r=>obtain ⟨_,_,_,rfl⟩:=h; rfl
 | yl r=>obtain ⟨_,_,_,rfl⟩:=h; rfl
 | ow r j=>obtain ⟨_,_,_,_,_,h⟩:=h; exact h
 | fh f dQ=>obtain ⟨_,rfl,_⟩:=h; rfl
def aQ (E:Env) (av:Nat->Prop) (w:World):D->Value->Prop
 | .c x,v=>a7 E av w x v
 | .a l,v=>∃ cs:Array Value,v=.agg cs/\az (a7 E av w) l cs.toList
 | .t l,v=>∃ vs:Array Value,v=.tuple vs/\az (λ(x:Bool×List C) y=>match x with
   | (true,l)=>∃ cs:Array Value,y=.agg cs/\az (a7 E av w) l cs.toList
   | (false,l)=>∃ c,l=[c]/\a7 E av w c y) l vs.toList
def hole:fJ:=(none,lh,0)
theorem Jj {b:Nat}:¬ hole.has b:=by
 rintro (h|h)
 .simp [hole] at h
 .exact h
def fJ.wk (e:fJ) (K:Nat->Prop):fJ:=(e.1,(e.2.1.1,K),e.2.2)
theorem fJ.Jo {e:fJ} {b:Nat} (h:e.1=some b):e≠hole:=by rintro rfl; simp [hole] at h
theorem fJ.I9 {e:fJ} {a:Option Addr} {n c:Nat} (h:e.2.1.1=.slice a n c):e≠hole:=by rintro rfl; simp [hole,undef] at h
def Env.le (E E':Env):Prop:=∀ (r:Nat) (e:fJ),E[r]?=some e->e≠hole->∃ K,E'[r]?=some (e.wk K)/\e.wk K≠hole
theorem fJ.O7 {e:fJ} {vs:Array Value} {j:Nat} {v:Value} (h:e.2.1.1=.tuple vs) (hj:vs[j]?=some v):e≠hole:=by
 grind [hole,undef]
theorem Env.le_refl (E:Env):Env.le E E:=λ_ e h n=>⟨e.2.1.2,h,n⟩
theorem Env.et (E F:Env):Env.le E (E++F):=λr e h n=>⟨e.2.1.2,by
 rw [iU]; exact h
 grind,n⟩
theorem Env.le.trans {E F G:Env} (h:Env.le E F) (k:Env.le F G):Env.le E G:=λr e q n=>by
 obtain ⟨K,q,n⟩:=h r e q n
 obtain ⟨K',q,n⟩:=k r _ q n
 exact ⟨K',q,n⟩
theorem Env.le.at_ {E E':Env} (hE:Env.le E E') {r b sz:Nat}:bh E r b sz->bh E' r b sz:=λ⟨h,q⟩=>by
 obtain ⟨K,q,_⟩:=hE _ _ q (fJ.Jo rfl)
 exact ⟨(h.1,K),q⟩
theorem C5 {E:Env} (F:Env) {r b sz:Nat}:cM E r b sz->cM (E++F) r b sz:=λ⟨e,q,q2⟩=>⟨e,by
 grind,q2⟩
theorem Env.wy {E:Env} {r:Nat} (e:fJ) (h:E[r]?=some hole):Env.le E (E.set r e):=λq e' h1 hn=>⟨e'.2.1.2,by
 rw [jE]
 split
 .grind
 .exact h1,hn⟩
theorem a7.mono {E E':Env} {av cG:Nat->Prop} {w w':World} (hE:Env.le E E') (hk:aW av w w') (ha:∀ b,b<w.heap.size->cG b->av b) {x:C} {v:Value} (h:a7 E av w x v):a7 E' cG w' x v:=by
 cases x with
 | im x=>exact cF.mono hk ha h
 | rt r i j=>obtain ⟨b,sz,h1,h2⟩:=h; exact ⟨b,sz,hE.at_ h1,h2⟩
 | sa r m=>
   obtain ⟨e,a,n,cap,h1,h2,h3,h4⟩:=h
   obtain ⟨K,h1,_⟩:=hE _ _ h1 (fJ.I9 h2)
   exact ⟨_,a,n,cap,h1,h2,h3,h4⟩
 | ow r j=>
   obtain ⟨e,vs,h1,h2,h3,h4⟩:=h
   obtain ⟨K,h1,_⟩:=hE _ _ h1 (fJ.O7 h2 h3)
   exact ⟨_,vs,h1,h2,h3,h4⟩
 | mp r=>obtain ⟨b,sz,h1,h2⟩:=h; exact ⟨b,sz,hE.at_ h1,h2⟩
 | yl r=>obtain ⟨b,sz,h1,h2⟩:=h; exact ⟨b,sz,hE.at_ h1,h2⟩
 | fh f dQ=>
   obtain ⟨vs,h1,h2⟩:=h
   exact ⟨vs,h1,h2.mono λr x ⟨b,sz,q,q2⟩=>⟨b,sz,hE.at_ q,q2⟩⟩
theorem aQ.mono {E E':Env} {av cG:Nat->Prop} {w w':World} (hE:Env.le E E') (hk:aW av w w') (ha:∀ b,b<w.heap.size->cG b->av b) {x:D} {v:Value} (h:aQ E av w x v):aQ E' cG w' x v:=by
 cases x with
 | c x=>exact a7.mono hE hk ha h
 | a l=>obtain ⟨cs,h1,h2⟩:=h; exact ⟨cs,h1,h2.mono λ_ _ q=>a7.mono hE hk ha q⟩
 | t l=>
   obtain ⟨vs,h1,h2⟩:=h
   refine ⟨vs,h1,h2.mono ?_⟩
   rintro ⟨b,l⟩ y q
   cases b with
   | true=>obtain ⟨cs,q1,q2⟩:=q; exact ⟨cs,q1,q2.mono λ_ _ q=>a7.mono hE hk ha q⟩
   | false=>grind [a7.mono]
def ae.live:ae->Prop
 | .dead=>False
 | _=>True
def AV (ax:Nat->Prop) (rs:List ae) (E:Env) (b:Nat):Prop:=ax b∨∃ r x sz,rs[r]?=some x/\x.live/\cM E r b sz
def gQ (E:Env) (av:Nat->Prop) (w:World) (N:Nat) (sl:aL) (tm:Array Value):Prop:=
 ∀ t d c,look sl t=some (d,c)->t<N/\((∀ p∈c,tm.getD p.1 undef=.bool p.2)->aQ E av w d (tm.getD t undef))/\
  (¬ (∀ p∈c,tm.getD p.1 undef=.bool p.2)->tm.getD t undef=undef)
theorem gQ.mono {E E':Env} {av cG:Nat->Prop} {w w':World} (hE:Env.le E E') (hk:aW av w w') (ha:∀ b,b<w.heap.size->cG b->av b) {N:Nat} {sl:aL} {tm:Array Value} (h:gQ E av w N sl tm):gQ E' cG w' N sl tm:=λt d c hl=>by
 obtain ⟨q1,q2,q3⟩:=h t d c hl
 exact ⟨q1,λq=>aQ.mono hE hk ha (q2 q),q3⟩
structure JN (K:Nat->Prop) (o:Option Nat) (Ks:Nat->Nat->Nat->Prop):Prop where
 sub:∀ i j b,Ks i j b->K b
 ne:∀ i j b,Ks i j b->o≠some b
 inj:∀ i j i' j' b,Ks i j b->Ks i' j' b->i=i'/\j=j'
def fO (av:Nat->Prop) (base:Nat) (w:World):O->(Nat->Prop)->Value->Prop
 | .im x,_,v=>cF av w x v
 | .ar el sz n get,K,v=>(∀ b,v.ownBlock=some b->K b)/\∃ xs,w.ownsRow base el sz v n xs/\∀ i,i<n->∀ j,j<sz->∃ x,xs[i*sz+j]?=some x/\cF av w (get i j) x
 | .ns el sz n get,K,v=>(∀ b,v.ownBlock=some b->K b)/\∃ xs,w.ownsRow base el sz v n xs/\∃ Ks,JN K v.ownBlock Ks/\∀ i,i<n->∀ j,j<sz->∃ x,xs[i*sz+j]?=some x/\fO av base w (get i j) (Ks i j) x
theorem fO.base {av:Nat->Prop} {base MX:Nat} {w:World} (hb:MX<=base):∀ {x:O} {K:Nat->Prop} {v:Value},fO av base w x K v->fO av MX w x K v:=by
 have row:∀ {el sz n:Nat} {v:Value} {xs:List Value},w.ownsRow base el sz v n xs->w.ownsRow MX el sz v n xs:=λh=>⟨h.1,h.2.imp id λ⟨g,cap,cur,h3,h4,h5⟩=>⟨g,cap,cur,h3,eA hb h4,h5⟩⟩
 intro x
 induction x with
 | im x=>intro K v h; exact h
 | ar el sz n get=>rintro K v ⟨h0,xs,h1,h2⟩; exact ⟨h0,xs,row h1,h2⟩
 | ns el sz n get ih=>
   rintro K v ⟨h0,xs,h1,Ks,hp,h2⟩
   refine ⟨h0,xs,row h1,Ks,hp,λi hi j hj=>?_⟩
   grind
def iX (E:Env) (av:Nat->Prop) (base:Nat) (w:World):Fc->(Nat->Prop)->Value->Prop
 | .c x,_,v=>a7 E av w x v
 | .o x,K,v=>fO av base w x K v
def fR (get:Nat->Nat->O) (dJ:Option (Nat×List Fc)) (i j:Nat):Option Fc:=match dJ with
 | none=>some (.o (get i j))
 | some x=>match Nat.beq i x.1 with
   | true=>nth x.2 j
   | false=>some (.o (get i j))
theorem mN {base el sz n:Nat} {v:Value} {w w':World} {xs:List Value} (hs:∀ b,v.ownBlock=some b->w'.heap[b]?=w.heap[b]?) (h:w.ownsRow base el sz v n xs):w'.ownsRow base el sz v n xs:=by
 obtain ⟨h1,h2⟩:=h
 refine ⟨h1,?_⟩
 rcases h2 with h2|⟨g,cap,cur,h3,h4,h5,h6⟩
 .exact .inl h2
 .refine .inr ⟨g,cap,cur,h3,h4,?_,h6⟩
  rw [hs g (by rw [h3]; rfl)]
  exact h5
theorem fO.mono {av cG:Nat->Prop} {base:Nat} {w w':World} (hk:aW av w w') (ha:∀ b,b<w.heap.size->cG b->av b):∀ {x:O} {K:Nat->Prop} {v:Value},(∀ b,K b->w'.heap[b]?=w.heap[b]?)->fO av base w x K v->fO cG base w' x K v:=by
 intro x
 induction x with
 | im x=>intro K v _ h; exact cF.mono hk ha h
 | ar el sz n get=>
   rintro K v hs ⟨h0,xs,h1,h2⟩
   refine ⟨h0,xs,mN (λb q=>hs b (h0 b q)) h1,λi hi j hj=>?_⟩
   grind [cF.mono]
 | ns el sz n get ih=>
   rintro K v hs ⟨h0,xs,h1,Ks,hp,h2⟩
   refine ⟨h0,xs,mN (λb q=>hs b (h0 b q)) h1,Ks,hp,λi hi j hj=>?_⟩
   obtain ⟨x,q1,q2⟩:=h2 i hi j hj
   exact ⟨x,q1,ih i j (λb q=>hs b (hp.sub i j b q)) q2⟩
theorem iX.mono {E E':Env} {av cG:Nat->Prop} {base:Nat} {w w':World} (hE:Env.le E E') (hk:aW av w w') (ha:∀ b,b<w.heap.size->cG b->av b) {x:Fc} {K:Nat->Prop} {v:Value} (hs:∀ b,K b->w'.heap[b]?=w.heap[b]?) (h:iX E av base w x K v):iX E' cG base w' x K v:=by
 cases x with
 | c x=>exact a7.mono hE hk ha h
 | o x=>exact fO.mono hk ha hs h
def aO (E:Env) (av:Nat->Prop) (base:Nat) (w:World) (e:fJ):ae->Prop
 | .dead=>True
 | .box l=>∃ b cs T,e.1=some b/\e.2.2=l.length/\w.heap[b]?=some (.cells cs T (0,0))/\az (a7 E av w) l cs.toList
 | .arr el sz n get=>e.2.2=sz/\e.1=e.2.1.1.ownBlock/\∃ xs,w.ownsRow base el sz e.2.1.1 n xs/\∀ i,i<n->∀ j,j<sz->∃ x,xs[i*sz+j]?=some x/\cF av w (get i j) x
 | .row el sz n l=>e.2.2=sz/\e.1=e.2.1.1.ownBlock/\∃ xs,w.ownsRow base el sz e.2.1.1 n xs/\az (a7 E av w) l xs
 | .bL el sz n get dJ=>e.2.2=sz/\e.1=e.2.1.1.ownBlock/\∃ xs,w.ownsRow base el sz e.2.1.1 n xs/\∃ Ks,JN e.2.1.2 e.2.1.1.ownBlock Ks/\(∀ x,dJ=some x->x.1<n/\x.2.length=sz)/\∀ i,i<n->∀ j,j<sz->∃ x c,xs[i*sz+j]?=some x/\fR get dJ i j=some c/\iX E av base w c (Ks i j) x
 | .own l=>e.1=none/\l≠[]/\∃ vs:Array Value,e.2.1.1=.tuple vs/\vs.size=l.length/\∃ Ks:Nat->Nat->Prop,(∀ i b,Ks i b->e.2.1.2 b)/\(∀ i i' b,Ks i b->Ks i' b->i=i')/\∀ (i:Nat) (o:O),l[i]?=some o->∃ v,vs[i]?=some v/\fO av base w o (Ks i) v
 | .set l=>∃ b es clock,e.1=some b/\w.heap[b]?=some (.map es clock)/\az (λn (x:MapEntry)=>x.key=.int .i64 n/\x.val=.bool true) l es.toList
 | .kF=>∃ b,e.1=some b/\w.heap[b]?=some (.deferred (some []))
 | .loop f N sl ps as bd st fi=>∃ b db tm,e.1=some b/\w.heap[b]?=some (.loop { state:=st,pending:=fi,fn:=f,tmps:=tm,params:=ps.toArray,assign:=as,body:=bd,defers:=db })/\
   tm.size=N/\gQ E av w N sl tm/\∀ x∈sl,x.2.2=[]
def pG (T:dk) (av:Nat->Prop) (w:World):Prop:=∀ g x,T.gv g=some x->cF av w (.pt x.1 x.2) (.pointer (some ⟨g,0,none⟩))
theorem pG.mono {T:dk} {av cG:Nat->Prop} {w w':World} (hk:aW av w w') (ha:∀ b,b<w.heap.size->cG b->av b) (h:pG T av w):pG T cG w':=λg x e=>cF.mono hk ha (h g x e)
structure Kp where
 w:World
 base:Nat
 own:Nat->Prop
def Kp.of (w:World):Kp:=⟨w,w.heap.size,λ_=>False⟩
structure Kp.In (w0:Kp) (b:Nat):Prop where
 base:w0.base<=b
 own:b<w0.w.heap.size->w0.own b
structure Kp.Holds (w0:Kp) (w:World):Prop where
 os:w.os=w0.w.os
 tape:w.tape=w0.w.tape
 output:w.output=w0.w.output
 size:w0.w.heap.size<=w.heap.size
 base:w0.base<=w.heap.size
 block:∀ k,k<w0.w.heap.size->¬ w0.own k->w.heap[k]?=w0.w.heap[k]?
theorem Kp.Holds.grown {w0:Kp} {w w':World} (h:w0.Holds w) (h1:w'.os=w.os) (h2:w'.tape=w.tape) (h3:w'.output=w.output) (h4:w.heap.size<=w'.heap.size) (h5:∀ k,k<w.heap.size->¬ w0.In k->w'.heap[k]?=w.heap[k]?):w0.Holds w' :=
 ⟨h1.trans h.os,h2.trans h.tape,h3.trans h.output,eA h.size h4,eA h.base h4,λk hk hn=>(h5 k (Nat.lt_of_lt_of_le hk h.size) λq=>hn (q.own hk)).trans (h.block k hk hn)⟩
theorem Kp.Holds.fresh {w0:Kp} {w:World} (h:w0.Holds w) {b:Nat} (hb:w.heap.size<=b):w0.In b:=
 ⟨eA h.base hb,λq=>absurd q (by have:=h.size; omega)⟩
theorem Kp.holds_of {w w':World} (h:Below w.heap.size w w'):(Kp.of w).Holds w':=⟨h.os,h.tape,h.output,h.size,h.size,λk hk _=>h.block k hk⟩
theorem Kp.Holds.below {w w':World} (h:(Kp.of w).Holds w'):Below w.heap.size w w':=⟨h.os,h.tape,h.output,h.size,λk hk=>h.block k hk λq=>q⟩
structure R (T:dk) (N:Nat) (ax:Nat->Prop) (w0:Kp) (sp:List (D×Value)) (s:VS) (a:Act) (w:World) (E:Env):Prop where
 size:a.tmps.size=N
 defers:az (λr (d:Deferred)=>∃ b sz,bh E r b sz/\d={ target:=.collected b,args := #[] }) s.df a.defers
 spec:∀ x∈sp,aQ E (AV ax s.rs E) w x.1 x.2
 below:w0.Holds w
 len:E.length=s.rs.length
 outer:∀ b,ax b->b<w0.w.heap.size/\¬ w0.own b
 roots:∀ (r:Nat) (x:ae) (e:fJ),s.rs[r]?=some x->E[r]?=some e->aO E (AV ax s.rs E) w0.base w e x
 cJ:∀ (r:Nat) (x:ae) (b sz:Nat),s.rs[r]?=some x->x.live->cM E r b sz->w0.In b/\b<w.heap.size
 dz:∀ (r r':Nat) (x x':ae) (b sz cL:Nat),s.rs[r]?=some x->s.rs[r']?=some x'->x.live->x'.live->cM E r b sz->cM E r' b cL->r=r'
 slots:∀ t d c,look s.sl t=some (d,c)->t<N/\((∀ p∈c,a.tmps.getD p.1 undef=.bool p.2)->aQ E (AV ax s.rs E) w d (a.tmps.getD t undef))/\
  (¬ (∀ p∈c,a.tmps.getD p.1 undef=.bool p.2)->a.tmps.getD t undef=undef)
 fS:pG T (AV ax s.rs E) w
theorem R.blk {T:dk} {N:Nat} {ax:Nat->Prop} {w0:Kp} {sp:List (D×Value)} {s:VS} {a:Act} {w:World} {E:Env} (h:R T N ax w0 sp s a w E) (r:Nat) (x:ae) (b sz:Nat) (h1:s.rs[r]?=some x) (h2:x.live) (h3:bh E r b sz):w0.In b/\b<w.heap.size:=h.cJ r x b sz h1 h2 h3.own
theorem R.inj {T:dk} {N:Nat} {ax:Nat->Prop} {w0:Kp} {sp:List (D×Value)} {s:VS} {a:Act} {w:World} {E:Env} (h:R T N ax w0 sp s a w E) (r r':Nat) (x x':ae) (b sz cL:Nat) (h1:s.rs[r]?=some x) (h2:s.rs[r']?=some x') (h3:x.live) (h4:x'.live) (h5:bh E r b sz) (h6:bh E r' b cL):r=r':=h.dz r r' x x' b sz cL h1 h2 h3 h4 h5.own h6.own
def bu (a:Act) (g:eF):Prop:=∀ p∈g,a.tmps.getD p.1 undef=.bool p.2
theorem IC {x y:Bool} (h:Lj x y=true):x=y:=by cases x<;>cases y<;>simp_all [Lj]
theorem oE:∀ {m:eF} {x:Tmp×Bool},o4 x m=true->x∈m
 | [],_,h=>by simp [o4] at h
 | y::m,x,h=>by
   simp only [o4] at h
   split at h
   .rename_i h1
    split at h
    .grind [Nat.eq_of_beq_eq_true,IC]
    .exact fL _ (oE h)
   .exact fL _ (oE h)
theorem Dz {a:Act} {m:eF} (hm:bu a m):∀ {l:eF},sub l m=true->bu a l
 | [],_=>λp hp=>by cases hp
 | x::l,h=>by
   simp only [sub] at h
   split at h
   .rename_i h1
    intro p hp
    cases hp with
    | head=>exact hm _ (oE h1)
    | tail _ hp=>exact Dz hm h p hp
   .simp at h
theorem kE {E:Env} {av:Nat->Prop} {w:World}:∀ {l:List Value} {r:List C},KQ l=some r->az (a7 E av w) r l
 | [],r,h=>by simp [KQ] at h; subst h; exact .nil
 | x::l,r,h=>by
   simp only [KQ] at h
   split at h
   .rename_i q h1 h2
    simp only [au] at h
    subst h
    exact .cons ⟨rfl,h1⟩ (kE h2)
   .simp at h
theorem Gg {E:Env} {av:Nat->Prop} {w:World} {v:Value} {d:D} (h:CD v=some d):aQ E av w d v:=by
 unfold CD at h
 split at h
 .split at h
  .rename_i l hl
   simp only [au] at h
   subst h
   exact ⟨_,rfl,kE hl⟩
  .simp at h
 .split at h
  .rename_i h1
   simp only [au] at h
   subst h
   exact ⟨rfl,h1⟩
  .simp at h
section
variable {T:dk} {N:Nat} {ax:Nat->Prop} {w0:Kp} {sp:List (D×Value)} {s:VS} {a:Act} {w:World} {E:Env}
theorem R.ev (h:R T N ax w0 sp s a w E) {g:eF} (hg:bu a g) {x:Operand} {d:D} (e:s.ev g x=some d):aQ E (AV ax s.rs E) w d (a.eval x):=by
 cases x with
 | tmp t=>
   simp only [VS.ev] at e
   split at e
   .rename_i d' c hl
    split at e
    .rename_i hs
     simp only [au] at e
     subst e
     exact (h.slots t d' c hl).2.1 (Dz hg hs)
    .simp at e
   .simp at e
 | const v=>exact Gg e
 | func f=>
   simp only [VS.ev,au] at e
   subst e
   exact ⟨#[],rfl,rfl,λj hj=>by omega⟩
 | global g' =>
   simp only [VS.ev,au] at e
   subst e
   rfl
end
open Go.RowKit
def mI (P:Program):List Field->Option (List (Nat×Nat))
 | []=>some []
 | f::r=>match P.info? f.type,mI P r with
   | some i,some l=>some ((f.offset,i.size)::l)
   | _,_=>none
def tu (P:Program) (t:TypeId):Option Kd:=match P.underlying t with
 | some (.struct fs)=>match mI P fs.toList with
   | some l=>some (.struct l)
   | none=>none
 | some (.slice e)=>some (.slice e)
 | some (.array n e)=>some (.array n e)
 | some .string=>some .str
 | some .bool=>some .bool
 | some (.int .i64)=>some .int
 | some (.map k e)=>some (.map k e)
 | some (.pointer e)=>some (.ptr e)
 | some (.func _ _ _)=>some .func
 | some _=>some .other
 | none=>none
structure b6 (P:Program) (t:TypeId) (y:Ty):Prop where
 kd:tu P t=some y.kd
 info:(P.info? t).map (λi=>(i.size,i.bytes,i.zero))=some (y.size,y.bytes,some y.zero)
 zs:y.zero.cells.size=y.size
structure cZ (P:Program) (T:dk):Prop where
 ty:∀ t y,T.ty t=some y->b6 P t y
 YC:∀ t ks,T.YC t=some ks->∀ (l m:List C) (b:Bool),G6 ks l m=some b->∀ (E:Env) (av:Nat->Prop) (w:World) (cs ds:Array Value),az (a7 E av w) l cs.toList->az (a7 E av w) m ds.toList->∀ (x y:Operand),
  (do eqGuard .eql t x y (.agg cs) (.agg ds); binOp .eql t (.agg cs) (.agg ds)).run P w=.ok (.bool b) w/\
  (do eqGuard .neq t x y (.agg cs) (.agg ds); binOp .neq t (.agg cs) (.agg ds)).run P w=.ok (.bool (!b)) w
theorem b6.slice {P:Program} {t:TypeId} {y:Ty} (h:b6 P t y) {e:Nat} (hk:y.kd=.slice e):P.underlying t=some (.slice e):=by
 have:=h.kd
 grind [tu]
theorem b6.strs {P:Program} {t:TypeId} {y:Ty} (h:b6 P t y) (hk:y.kd=.str):P.underlying t=some .string:=by
 have:=h.kd
 grind [tu]
theorem b6.struct {P:Program} {t:TypeId} {y:Ty} (h:b6 P t y) {fs:List (Nat×Nat)} (hk:y.kd=.struct fs):∃ gs:Array Field,P.underlying t=some (.struct gs)/\mI P gs.toList=some fs:=by
 have:=h.kd
 grind [tu]
theorem b6.sz {P:Program} {t:TypeId} {y:Ty} (h:b6 P t y):(P.info? t).map (·.size)=some y.size:=by
 have:=h.info
 cases hq:P.info? t with
 | none=>simp [hq] at this
 | some i=>grind
theorem b6.full {P:Program} {t:TypeId} {y:Ty} (h:b6 P t y):∃ i,P.info? t=some i/\i.size=y.size/\i.bytes=y.bytes/\i.zero=some y.zero:=by
 have:=h.info
 simp_all
theorem b6.und {P:Program} {t:TypeId} {y:Ty} (h:b6 P t y):∃ d,P.underlying t=some d/\TypeDesc.isRow d=y.kd.agg:=by
 have:=h.kd
 grind [tu,Kd.agg]
theorem run_sizeOf {P:Program} {t:TypeId} {n:Nat} (h:(P.info? t).map (·.size)=some n) (w:World):(sizeOf t).run P w=.ok n w:=by
 cases hq:P.info? t with
 | none=>simp [hq] at h
 | some i=>simp [hq] at h; simp [sizeOf,typeInfo,hq,h]
theorem zR {P:Program} {t:TypeId} {d:TypeDesc} (h:P.underlying t=some d) (w:World):(isAgg t).run P w=.ok (TypeDesc.isRow d) w:=by
 unfold isAgg
 rw [Sem.run_bind,run_underlying h w]
 cases d<;>simp [TypeDesc.isRow]
theorem aM {a b:Nat} (h:Nat.blt a b=true):a<b:=by simp_all
theorem dR {a b:Nat} (h:Nat.ble a b=true):a<=b:=Nat.le_of_ble_eq_true h
theorem cg {a b:Nat} (h:Nat.beq a b=true):a=b:=Nat.eq_of_beq_eq_true h
theorem add_add (ad:Addr) (hs:ad.spot=none) (i j:Nat):(ad.add i).add j=ad.add (i+j):=by
 grind [Addr.add]
theorem xj (ad:Addr) (hs:ad.spot=none) (i:Nat):(ad.add i).spot=none:=by
 unfold Addr.add; split<;>simp_all
theorem cC {b o:Nat} {w:World} {cs:Array Value} {T:TypeId} {f:Nat×Nat} (h:w.heap[b]?=some (.cells cs T f)):w.cell? ⟨b,o,none⟩=cs[o]?:=by
 simp [World.cell?,h]
theorem xW {w w':World} (hb:Below w.heap.size w w') {ad:Addr} {v:Value} (h:w.cell? ad=some v):w'.cell? ad=some v:=(hb.cell (World.block_lt_of_cell? w ad h)).trans h
section
variable {P:Program} {T:dk} {N:Nat} {ax:Nat->Prop} {w0:Kp} {sp:List (D×Value)} {s:VS} {a:Act} {w:World} {E:Env}
theorem fZ {t:TypeId} {y:Ty} (hy:b6 P t y) {ad:Addr} {cs:List Value} (hl:cs.length=y.size) (ha:y.kd.agg=true) (h:∀ j v,cs[j]?=some v->w.cell? (ad.add j)=some v) :
  ∀ w',Below w.heap.size w w'->(Instr.loadAt t (.pointer (some ad))).run P w'=.ok (.agg cs.toArray) w':=by
 intro w' hb
 obtain ⟨d,hd,hr⟩:=hy.und
 have h1:=run_loadCells_list (P:=P) w' ad cs (λj v hv=>xW hb (h j v hv))
 rw [hl] at h1
 simp [Instr.loadAt,Instr.sureAddr,loadVar,zR hd,hr,ha,run_sizeOf hy.sz,h1]
theorem gf {t:TypeId} {y:Ty} (hy:b6 P t y) {ad:Addr} {v:Value} (ha:y.kd.agg=false) (h:w.cell? ad=some v) :
  ∀ w',Below w.heap.size w w'->(Instr.loadAt t (.pointer (some ad))).run P w'=.ok v w':=by
 intro w' hb
 obtain ⟨d,hd,hr⟩:=hy.und
 simp [Instr.loadAt,Instr.sureAddr,loadVar,zR hd,hr,ha,xW hb h]
theorem jh {E:Env} {av:Nat->Prop} {w:World} {get:Nat->I} {f:Nat->Value}:∀ {n o:Nat},(∀ j,o<=j->j<o+n->cF av w (get j) (f j))->
  az (a7 E av w) (dq get o n) ((List.range n).map λj=>f (o+j))
 | 0,o,_=>.nil
 | n+1,o,h=>by
   rw [List.range_succ_eq_map,List.map_cons,List.map_map]
   refine .cons (h o (bl _) (by omega)) ?_
   have:=jh (E:=E) (n:=n) (o:=o+1) (f:=f) (λj h1 h2=>h j (by omega) (by omega))
   have he:((λj=>f (o+j))∘Nat.succ)=λj=>f (o+1+j):=by grind
   rw [he]
   exact this
theorem kq {Q:Nat->Value->Prop} {n:Nat} (h:∀ j,j<n->∃ x,Q j x):∃ f:Nat->Value,∀ j,j<n->Q j (f j):=
 ⟨λj=>if hj:j<n then (h j hj).choose else undef,λj hj=>by grind⟩
theorem D9 {α:Type}:∀ (l:List α) (i:Nat),aR l i=nth l i
 | [],_=>rfl
 | _::_,0=>rfl
 | _::l,i+1=>D9 l i
theorem xH {E:Env} {av:Nat->Prop} {base:Nat} {w:World} {x:Fc} {c:C} {K:Nat->Prop} {v:Value} (h:KI (some x)=some c) (hv:iX E av base w x K v):a7 E av w c v:=by
 cases x with
 | c x=>simp only [KI,au] at h; subst h; exact hv
 | o x=>
   cases x with
   | im x=>simp only [KI,Lg,au] at h; subst h; exact hv
   | _=>simp [KI,Lg] at h
theorem OO {E:Env} {av:Nat->Prop} {base:Nat} {w:World} {get:Nat->Nat->O} {dJ:Option (Nat×List Fc)} {i j:Nat} {x:Fc} {c:C} {K:Nat->Prop} {v:Value} (h:ym get dJ i j=some c) (hx:fR get dJ i j=some x) (hv:iX E av base w x K v):a7 E av w c v:=by
 unfold ym at h
 unfold fR at hx
 cases dJ with
 | none=>
   simp only [au] at hx; subst hx
   exact xH (x:=.o (get i j)) h hv
 | some y=>
   simp only at h hx
   cases hb:Nat.beq i y.1 with
   | true=>
     rw [hb] at h hx
     grind [D9,xH]
   | false=>
     rw [hb] at h hx
     simp only [au] at hx; subst hx
     exact xH (x:=.o (get i j)) h hv
theorem se {f:Nat->Option C}:∀ {n j:Nat} {l:List C},oM f j n=some l->l.length=n/\∀ k,k<n->∃ c,l[k]?=some c/\f (j+k)=some c
 | 0,j,l,h=>by
   have h:some []=some l:=h
   grind
 | n+1,j,l,h=>by
   have h:(match f j with
    | some c=>match oM f (j+1) n with
      | some l=>some (c::l)
      | none=>none
    | none=>none)=some l:=h
   split at h
   case h_2=>simp at h
   rename_i c hc
   split at h
   case h_2=>simp at h
   rename_i l' uR
   simp only [au] at h; subst h
   obtain ⟨h1,h2⟩:=se uR
   grind
theorem az.IH {α β:Type} {R:α->β->Prop}:∀ {l:List α} {m:List β},l.length=m.length->(∀ (k:Nat) (x:α) (y:β),l[k]?=some x->m[k]?=some y->R x y)->az R l m
 | [],[],_,_=>.nil
 | [],_::_,h,_=>by simp at h
 | _::_,[],h,_=>by simp at h
 | x::l,y::m,h,k=>.cons (k 0 x y rfl rfl) (az.IH (by simpa using h) λi a b ha hb=>k (i+1) a b (by simpa using ha) (by simpa using hb))
theorem qP (bC:cZ P T) (h:R T N ax w0 sp s a w E) {g:eF} (hg:bu a g) {t:TypeId} {x:Operand} {p:Option Prop} {d:D} (e:aZ T s g (.load t x)=some (p,d)) (hp:need p) :
  ∃ v,(∀ w',Below w.heap.size w w'->(Instr.loadAt t (a.eval x)).run P w'=.ok v w')/\aQ E (AV ax s.rs E) w d v:=by
 simp only [aZ] at e
 split at e
 case h_2=>simp at e
 rename_i y hy
 have hy:=bC.ty _ _ hy
 split at e
 case h_4=>simp at e
 .
  rename_i r i j hx
  obtain ⟨b,sz,hr,hv⟩:=h.ev hg hx
  rw [hv]
  split at e
  .
   rename_i l hl
   rw [bg] at hl
   obtain ⟨hh,hE⟩:=hr
   obtain ⟨b',cs,T,q1,q2,q3,q4⟩:=h.roots r _ _ hl hE
   simp only [au] at q1
   subst q1
   split at e
   case h_2=>simp at e
   simp only [Nat.zero_mul,Nat.zero_add]
   split at e
   .rename_i hagg
    split at e
    case h_2=>simp at e
    rename_i ks hks
    simp only [au,bs] at e
    obtain ⟨rfl,rfl⟩:=e
    obtain ⟨rfl,hlen⟩:=l7 _ _ _ hks
    rw [vT] at hlen ⊢
    have ha:=(q4.drop j).take y.size
    refine ⟨.agg ((cs.toList.drop j).take y.size).toArray,fZ hy ?_ hagg ?_,_,rfl,by simpa using ha⟩
    .have:=ha.length
     grind
    grind [Addr.add_mid,cC]
   .rename_i hagg
    split at e
    case h_2=>simp at e
    rename_i c hc
    simp only [au,bs] at e
    obtain ⟨rfl,rfl⟩:=e
    obtain ⟨v,hv1,hv2⟩:=q4.nth hc
    exact ⟨v,gf hy hagg (by rw [cC q3]; simpa using hv1),hv2⟩
  .
   rename_i el asz n get hl
   rw [bg] at hl
   obtain ⟨hh,hE⟩:=hr
   obtain ⟨q1,q2,xs,q3,q4⟩:=h.roots r _ _ hl hE
   have q1:sz=asz:=q1
   have q2:some b=hh.1.ownBlock:=q2
   subst q1
   have cellAt:∀ k,k<n*sz->w.cell? ⟨b,k,none⟩=xs[k]?:=by
    intro k hk
    obtain ⟨q5,q6⟩:=q3
    grind [Value.ownBlock,cC]
   have bnd:∀ {j k:Nat},i<n->j+k<=sz->i*sz+(j+k)<=n*sz:=by
    intro j k hi hjk
    have:=gP sz (show i+1<=n by omega)
    grind
   split at e
   .rename_i hagg
    split at e
    case h_2=>simp at e
    rename_i hle
    have hle:=dR hle
    simp only [au,bs] at e
    obtain ⟨rfl,rfl⟩:=e
    obtain ⟨f,hf⟩:=kq (Q:=λk x=>xs[i*sz+k]?=some x/\cF (AV ax s.rs E) w (get i k) x) (λk hk=>q4 i hp k hk)
    refine ⟨.agg ((List.range y.size).map λk=>f (j+k)).toArray,fZ hy (by simp) hagg ?_,_,rfl,?_⟩
    .intro k v hk
     rw [Addr.add_mid]
     have nG:k<y.size:=by
      grind
     have hv:v=f (j+k):=by simpa [nG] using hk.symm
     have b1:=bnd (j:=j) (k:=k+1) hp (by omega)
     grind
    .have:=jh (E:=E) (av:=AV ax s.rs E) (w:=w) (get:=get i) (f:=f) (n:=y.size) (o:=j) (λk h1 h2=>(hf k (by omega)).2)
     simpa using this
   .rename_i hagg
    split at e
    case h_2=>simp at e
    rename_i eG
    have eG:=aM eG
    simp only [au,bs] at e
    obtain ⟨rfl,rfl⟩:=e
    obtain ⟨v,h1,h2⟩:=q4 i hp j eG
    have b1:=bnd (j:=j) (k:=1) hp (by omega)
    exact ⟨v,gf hy hagg (by grind),h2⟩
  .
   rename_i el asz n l hl
   rw [bg] at hl
   obtain ⟨hh,hE⟩:=hr
   obtain ⟨q1,q2,xs,q3,q4⟩:=h.roots r _ _ hl hE
   have q1:sz=asz:=q1
   have q2:some b=hh.1.ownBlock:=q2
   subst q1
   have cellAt:∀ k v,xs[k]?=some v->w.cell? ⟨b,k,none⟩=some v:=by
    intro k v hkv
    have hk:k<n*sz:=by rw [<- q3.1]; grind
    obtain ⟨q5,q6⟩:=q3
    grind [Value.ownBlock,cC]
   split at e
   .rename_i hagg
    split at e
    case h_2=>simp at e
    rename_i ks hks
    simp only [au,bs] at e
    obtain ⟨rfl,rfl⟩:=e
    obtain ⟨rfl,hlen⟩:=l7 _ _ _ hks
    rw [vT] at hlen ⊢
    have ha:=(q4.drop (i*sz+j)).take y.size
    refine ⟨.agg ((xs.drop (i*sz+j)).take y.size).toArray,fZ hy ?_ hagg ?_,_,rfl,by simpa using ha⟩
    .have:=ha.length
     grind
    grind [Addr.add_mid]
   .rename_i hagg
    split at e
    case h_2=>simp at e
    rename_i c hc
    simp only [au,bs] at e
    obtain ⟨rfl,rfl⟩:=e
    obtain ⟨v,hv1,hv2⟩:=q4.nth hc
    exact ⟨v,gf hy hagg (cellAt _ _ hv1),hv2⟩
  .
   rename_i el asz n get dJ hl
   rw [bg] at hl
   obtain ⟨hh,hE⟩:=hr
   obtain ⟨q1,q2,xs,q3,Ks,hK,hf,q4⟩:=h.roots r _ _ hl hE
   have q1:sz=asz:=q1
   have q2:some b=hh.1.ownBlock:=q2
   subst q1
   have cellAt:∀ k v,xs[k]?=some v->w.cell? ⟨b,k,none⟩=some v:=by
    intro k v hkv
    have hk:k<n*sz:=by rw [<- q3.1]; grind
    obtain ⟨q5,q6⟩:=q3
    grind [Value.ownBlock,cC]
   have cel:∀ j c,i<n->j<sz->ym get dJ i j=some c->∃ v,xs[i*sz+j]?=some v/\a7 E (AV ax s.rs E) w c v:=by
    grind [OO]
   split at e
   .rename_i hagg
    split at e
    case h_2=>simp at e
    rename_i hle
    have hle:=dR hle
    split at e
    case h_2=>simp at e
    rename_i l hg'
    simp only [au,bs] at e
    obtain ⟨rfl,rfl⟩:=e
    obtain ⟨hl1,hl2⟩:=se hg'
    obtain ⟨f,hf'⟩:=kq (n:=y.size) (Q:=λk x=>xs[i*sz+(j+k)]?=some x/\∃ c,l[k]?=some c/\a7 E (AV ax s.rs E) w c x) (λk hk=>by
     obtain ⟨c,g1,g2⟩:=hl2 k hk
     obtain ⟨v,g3,g4⟩:=cel (j+k) c hp (by omega) g2
     grind)
    refine ⟨.agg ((List.range y.size).map f).toArray,fZ hy (by simp) hagg ?_,_,rfl,?_⟩
    all_goals grind [Addr.add_mid,az.IH]
   .rename_i hagg
    split at e
    case h_2=>simp at e
    rename_i eG
    have eG:=aM eG
    split at e
    case h_2=>simp at e
    rename_i c hc
    simp only [au,bs] at e
    obtain ⟨rfl,rfl⟩:=e
    obtain ⟨v,hv1,hv2⟩:=cel j c hp eG hc
    exact ⟨v,gf hy hagg (cellAt _ _ hv1),hv2⟩
  .simp at e
 .
  rename_i n get hx
  obtain ⟨ad,hv,hs,_,_,hc⟩:=h.ev hg hx
  rw [hv]
  split at e
  .rename_i hagg
   split at e
   case h_2=>simp at e
   rename_i hle
   have hle:=dR hle
   simp only [au,bs] at e
   obtain ⟨rfl,rfl⟩:=e
   obtain ⟨f,hf⟩:=kq hc
   refine ⟨.agg ((List.range y.size).map λk=>f (0+k)).toArray,fZ hy (by simp) hagg ?_,_,rfl,?_⟩
   .grind
   .have:=jh (E:=E) (av:=AV ax s.rs E) (w:=w) (get:=get) (f:=f) (n:=y.size) (o:=0) (λk h1 h2=>(hf k (by omega)).2)
    simpa using this
  .rename_i hagg
   split at e
   case h_2=>simp at e
   rename_i eG
   have eG:=aM eG
   simp only [au,bs] at e
   obtain ⟨rfl,rfl⟩:=e
   obtain ⟨v,h1,h2⟩:=hc 0 eG
   exact ⟨v,gf hy hagg (by simpa [Addr.add] using h1),h2⟩
 .
  rename_i q hx
  have hv:a.eval x=.pointer (some ⟨q,0,none⟩):=h.ev hg hx
  rw [hv]
  split at e
  case h_2=>simp at e
  rename_i z hz
  split at e
  .simp at e
  .rename_i hagg
   simp only [au,bs] at e
   obtain ⟨rfl,rfl⟩:=e
   obtain ⟨ad,h1,h2,h3,h4,h5⟩:=h.fS q (1,λ_=>z) (by simp only [dk.gv,hz])
   simp only [Value.pointer.injEq,au] at h1
   subst h1
   obtain ⟨v,h6,h7⟩:=h5 0 (by omega)
   exact ⟨v,gf hy hagg (by simpa [Addr.add] using h6),h7⟩
theorem bJ {x:Sem Value} {v:Value} {w':World} (h:x.run P w=.ok v w'):(do pure (Next.value (<- x)):Sem Next).run P w=.ok (.value v) w':=by
 simp [h]
theorem Pj {op:BinOp} {x y z:Value} (e:BN op x y=some z) (t:TypeId) (p q:Operand):(do eqGuard op t p q x y; binOp op t x y).run P w=.ok z w:=by
 unfold BN at e
 split at e
 .split at e
  all_goals first
   | (simp at e; done)
   | (simp only [au] at e; subst e; rfl)
   | (simp only [au] at e; subst e; rfl)
 .split at e<;>simp at e<;>subst e<;>simp [eqGuard,binOp,Op.intCmp]
 .split at e<;>simp at e<;>subst e<;>simp [eqGuard,binOp,Op.stringOp]
 .simp at e
theorem L1 {op:BinOp} {x y z:Value} {c:Prop} (e:yB op x y=some (c,z)) (hc:c) (t:TypeId) (p q:Operand):(do eqGuard op t p q x y; binOp op t x y).run P w=.ok z w:=by
 unfold yB at e
 split at e
 .split at e
  .simp only [au,bs] at e
   obtain ⟨rfl,rfl⟩:=e
   simp [eqGuard,binOp,Op.intDiv,hc]
  .simp only [au,bs] at e
   obtain ⟨rfl,rfl⟩:=e
   simp [eqGuard,binOp,Op.intDiv,hc]
  .simp only [au,bs] at e
   obtain ⟨rfl,rfl⟩:=e
   simp [eqGuard,binOp,Op.shift,show ¬ _<(0:Int) from Int.not_lt.2 hc,IntKind.bits]
  .simp only [au,bs] at e
   obtain ⟨rfl,rfl⟩:=e
   simp [eqGuard,binOp,Op.shift,show ¬ _<(0:Int) from Int.not_lt.2 hc,IntKind.bits]
  .simp at e
 .simp at e
theorem NU {op:BinOp} {x y z:Value} (e:BN op x y=some z):z.oneCell'=true:=by
 unfold BN at e
 split at e
 .split at e<;>simp at e<;>subst e<;>rfl
 .split at e<;>simp at e<;>subst e<;>rfl
 .split at e<;>simp at e<;>subst e<;>rfl
 .simp at e
theorem Nd {op:BinOp} {x y z:Value} {c:Prop} (e:yB op x y=some (c,z)):z.oneCell'=true:=by
 unfold yB at e
 split at e
 .split at e
  .simp only [au,bs] at e
   obtain ⟨rfl,rfl⟩:=e
   rfl
  .simp only [au,bs] at e
   obtain ⟨rfl,rfl⟩:=e
   rfl
  .simp only [au,bs] at e
   obtain ⟨rfl,rfl⟩:=e
   rfl
  .simp only [au,bs] at e
   obtain ⟨rfl,rfl⟩:=e
   rfl
  .simp at e
 .simp at e
theorem wW {t:TypeId} {y:Ty} (hy:b6 P t y) (hk:y.kd=.bool) (b c:Bool) (p q:Operand) :
  (do eqGuard .eql t p q (.bool b) (.bool c); binOp .eql t (.bool b) (.bool c)).run P w=.ok (.bool (b==c)) w/\
  (do eqGuard .neq t p q (.bool b) (.bool c); binOp .neq t (.bool b) (.bool c)).run P w=.ok (.bool (!(b==c))) w:=by
 have hu:P.underlying t=some .bool:=by
  have:=hy.kd
  grind [tu]
 have he:∀ d,(Op.equalIn (d+1) t (.bool b) (.bool c)).run P w=.ok (b==c) w:=λd=>by
  unfold Op.equalIn
  simp [run_underlying hu]
 have h0:(Op.equal t (.bool b) (.bool c)).run P w=.ok (b==c) w:=he 9999
 constructor
 .show ((do eqGuard .eql t p q (.bool b) (.bool c); (do pure (.bool (<- Op.equal t (.bool b) (.bool c)))):Sem Value)).run P w=_
  rw [Sem.run_bind]
  simp only [eqGuard,Bool.not_true]
  simp [h0]
 .show ((do eqGuard .neq t p q (.bool b) (.bool c); (do pure (.bool (!(<- Op.equal t (.bool b) (.bool c))))):Sem Value)).run P w=_
  rw [Sem.run_bind]
  simp only [eqGuard]
  simp [h0]
theorem sr {l:List C}:∀ {ys:List C} {o:Nat} {r:List C},put l o ys=some r->o+ys.length<=l.length+0∨ys=[]:=by
 intro ys
 induction ys generalizing l with
 | nil=>grind
 | cons y ys ih=>
   grind [put,bg,ba]
theorem Br {av:Nat->Prop} {Ro:C->Value->Prop}:∀ {ys:List C} {l:List C} {o:Nat} {r:List C} {vs cs:List Value},put l o ys=some r->az Ro l cs->az Ro ys vs->
  az Ro r ((vs.zipIdx).foldl (λ(c:List Value) (x:Value×Nat)=>c.set (o+x.2) x.1) cs)
 | [],l,o,r,vs,cs,h,h1,h2=>by
   cases h2
   simp only [put,au] at h
   simp_all
 | y::ys,l,o,r,vs,cs,h,h1,h2=>by
   cases h2 with
   | cons a b=>
     rename_i v m
     simp only [put] at h
     split at h
     .have:=Br (av:=av) h (by rw [ba]; exact h1.set o a) b
      grind [List.zipIdx_cons,List.zipIdx_eq_map_add,List.foldl_map]
     .simp at h
theorem sH (off:Nat):∀ (vs:List Value) (k:Nat) (cs:Array Value),
  ((vs.zipIdx k).foldl (λ(cs:Array Value) (x:Value×Nat)=>cs.setIfInBounds (off+x.2) x.1) cs).toList=(vs.zipIdx k).foldl (λ(c:List Value) (x:Value×Nat)=>c.set (off+x.2) x.1) cs.toList
 | [],_,_=>rfl
 | v::vs,k,cs=>by
   simp only [List.zipIdx_cons,List.foldl_cons]
   rw [sH off vs (k+1)]
   simp
theorem l9 {av:Nat->Prop} {d:D} {v:Value} (h:aQ E av w d v) {cs:List C} (hc:d.cells=some cs):az (a7 E av w) cs v.cells.toList:=by
 cases d with
 | c x=>
   simp only [D.cells,au] at hc
   subst hc
   have h1:=a7.one h
   have:v.cells = #[v]:=by cases v<;>simp_all [Value.cells,Value.oneCell']
   rw [this]
   exact .cons h .nil
 | a l=>
   simp only [D.cells,au] at hc
   subst hc
   obtain ⟨cs,rfl,h2⟩:=h
   exact h2
 | t l=>simp [D.cells] at hc
theorem D0 (h:R T N ax w0 sp s a w E) {g:eF} (hg:bu a g) {p9:List (Nat×Nat)} {place:Nat->Option (Nat×Nat)} (SO:∀ i x,p9[i]?=some x->place i=some x) :
  ∀ {parts:List (Nat×Operand)} {l r:List C} {cs:Array Value},xY p9 s g parts l=some r->az (a7 E (AV ax s.rs E) w) l cs.toList->
  ∃ qR,Instr.fill place cs (parts.map λx=>(x.1,a.eval x.2))=some qR/\az (a7 E (AV ax s.rs E) w) r qR.toList
 | [],l,r,cs,e,hl=>by
   simp only [xY,au] at e
   subst e
   exact ⟨cs,rfl,hl⟩
 | (k,x)::parts,l,r,cs,e,hl=>by
   simp only [xY] at e
   split at e
   case h_2=>simp at e
   rename_i o sz d hk hx
   rw [bg] at hk
   split at e
   case h_2=>simp at e
   rename_i ks hks
   split at e
   case h_2=>simp at e
   rename_i gA
   simp only [di] at gA
   obtain ⟨gA,fw⟩:=gA
   have gA:=cg gA
   have fw:=aM fw
   split at e
   case h_2=>simp at e
   rename_i l' uR
   have hv:=l9 (h.ev hg hx) hks
   have hlen:=hv.length
   have SI:=sr uR
   have hcl:=hl.length
   have hp:=Br (av:=AV ax s.rs E) uR hl hv
   obtain ⟨qR,h1,h2⟩:=D0 h hg SO (cs:=((a.eval x).cells.zipIdx.foldl (λcs (y:Value×Nat)=>cs.setIfInBounds (o+y.2) y.1) cs)) e (by
    have:=sH o (a.eval x).cells.toList 0 cs
    grind [Array.toList_zipIdx])
   grind [Instr.fill]
end
open Go.RowKit
section
variable {P:Program} {T:dk} {N:Nat} {ax:Nat->Prop} {w0:Kp} {sp:List (D×Value)} {s:VS} {a:Act} {w:World} {E:Env}
theorem wT {P:Program}:∀ {fs:List Field} {l:List (Nat×Nat)} {k:Nat} {o sz:Nat},mI P fs=some l->l[k]?=some (o,sz)->∃ f,fs[k]?=some f/\f.offset=o/\(P.info? f.type).map (·.size)=some sz
 | [],l,k,o,sz,h,hk=>by simp [mI] at h; subst h; simp at hk
 | f::fs,l,k,o,sz,h,hk=>by
   simp only [mI] at h
   split at h
   .rename_i i l' hi hl
    simp only [au] at h
    subst h
    cases k with
    | zero=>grind
    | succ k=>simp at hk; obtain ⟨g,h1,h2⟩:=wT hl hk; grind
   .simp at h
theorem uJ (bC:cZ P T) (h:R T N ax w0 sp s a w E) {g:eF} (hg:bu a g) {t:TypeId} {x:Operand} {f:Nat} {p:Option Prop} {d:D} (e:aZ T s g (.fieldAddr t x f)=some (p,d)) (hp:need p) :
  ∃ v,(∀ w',(Instr.fieldAt t (a.eval x) f).run P w'=.ok v w')/\aQ E (AV ax s.rs E) w d v:=by
 simp only [aZ] at e
 split at e
 case h_2=>simp at e
 rename_i Cf ie z0 fs hy
 have hy:=bC.ty _ _ hy
 obtain ⟨gs,hu,ho⟩:=hy.struct rfl
 split at e
 case h_2=>simp at e
 rename_i o sz hk
 rw [bg] at hk
 obtain ⟨fl,hf1,hf2,hf3⟩:=wT ho hk
 split at e
 case h_2=>simp at e
 rename_i fw
 have fw:=aM fw
 have run:∀ (ad:Addr) (w':World),(Instr.fieldAt t (.pointer (some ad)) f).run P w'=.ok (.pointer (some (ad.add o))) w':=by
  intro ad w'
  have hf1':gs[f]?=some fl:=by simpa using hf1
  simp [Instr.fieldAt,run_underlying hu,hf1',Instr.sureAddr,fieldPlace,run_sizeOf hf3,hf2,show ¬ sz=0 by omega]
 split at e
 case h_3=>simp at e
 .rename_i r i j hx
  obtain ⟨b,cL,hr,hv⟩:=h.ev hg hx
  simp only [au,bs] at e
  obtain ⟨rfl,rfl⟩:=e
  rw [hv]
  exact ⟨_,run _,b,cL,hr,by rw [Addr.add_mid,Nat.add_assoc]⟩
 .rename_i n get hx
  obtain ⟨ad,hv,hs,h1,h2,hc⟩:=h.ev hg hx
  split at e
  case h_2=>simp at e
  rename_i hle
  have hle:=dR hle
  simp only [au,bs] at e
  obtain ⟨rfl,rfl⟩:=e
  rw [hv]
  refine ⟨_,run _,ad.add o,rfl,xj _ hs _,by rw [block_add]; exact h1,by rw [block_add]; exact h2,λj hj=>?_⟩
  rw [add_add _ hs]
  exact hc (o+j) (by omega)
theorem uF (bC:cZ P T) (h:R T N ax w0 sp s a w E) {g:eF} (hg:bu a g) {t:TypeId} {x ix:Operand} {p:Option Prop} {d:D} (e:aZ T s g (.indexAddr t x ix)=some (p,d)) (hp:need p) :
  ∃ v,(∀ w',(Instr.indexAt t (a.eval x) (a.eval ix)).run P w'=.ok v w')/\aQ E (AV ax s.rs E) w d v:=by
 simp only [aZ] at e
 split at e
 case h_2=>simp at e
 rename_i Cf ie z0 el hy
 have hy:=(bC.ty _ _ hy).slice rfl
 split at e
 case h_2=>simp at e
 rename_i y hye
 have hye:=bC.ty _ _ hye
 split at e
 case h_2=>simp at e
 rename_i i hi
 have hi:=(h.ev hg hi).1
 have run:∀ (ad:Addr) (len cap:Nat),0<=i/\i<(len:Int)->∀ w',(Instr.indexAt t (.slice (some ad) len cap) (.int .i64 i)).run P w'=.ok (.pointer (some (ad.add (i.toNat*y.size)))) w':=by
  intro ad len cap hb w'
  simp [Instr.indexAt,run_underlying hy,asIntOf,hb,run_sizeOf hye.sz]
 rw [hi]
 split at e
 case h_3=>simp at e
 .rename_i sz n get hx
  obtain ⟨ao,cap,hv,hn,hm,hc⟩:=h.ev hg hx
  split at e
  case h_2=>simp at e
  rename_i gA
  have gA:=cg gA
  simp only [au,bs] at e
  obtain ⟨rfl,rfl⟩:=e
  simp only [need] at hp
  obtain ⟨ad,rfl,hs,h1,h2,hc⟩:=hc (by omega)
  rw [hv]
  refine ⟨_,run ad n cap hp,ad.add (i.toNat*y.size),rfl,xj _ hs _,by rw [block_add]; exact h1,by rw [block_add]; exact h2,λj hj=>?_⟩
  rw [add_add _ hs,<- gA]
  simp_all
 .rename_i r m hx
  obtain ⟨e',ao,n,cap,h1,h2,h3,hv⟩:=h.ev hg hx
  split at e
  .rename_i qQ sz n' get hl
   rw [bg] at hl
   split at e
   case h_2=>simp at e
   rename_i gA
   have gA:=cg gA
   simp only [au,bs] at e
   obtain ⟨rfl,rfl⟩:=e
   simp only [need] at hp
   obtain ⟨q1,q2,xs,⟨_,q3⟩,q4⟩:=h.roots r _ _ hl h1
   rcases q3 with ⟨q3,_⟩|⟨g',cap',cur,q3,_⟩
   .grind
   .rw [h2] at q3
    simp only [iP] at q3
    obtain ⟨rfl,_,_⟩:=q3
    rw [hv]
    refine ⟨_,run _ m cap hp,g',sz,⟨e'.2.1,?_⟩,?_⟩
    all_goals grind [Value.ownBlock,Addr.add_mid]
  .rename_i qQ sz n' l' hl
   rw [bg] at hl
   split at e
   case h_2=>simp at e
   rename_i gA
   have gA:=cg gA
   simp only [au,bs] at e
   obtain ⟨rfl,rfl⟩:=e
   simp only [need] at hp
   obtain ⟨q1,q2,xs,⟨_,q3⟩,q4⟩:=h.roots r _ _ hl h1
   rcases q3 with ⟨q3,_⟩|⟨g',cap',cur,q3,_⟩
   .grind
   .rw [h2] at q3
    simp only [iP] at q3
    obtain ⟨rfl,_,_⟩:=q3
    rw [hv]
    refine ⟨_,run _ m cap hp,g',sz,⟨e'.2.1,?_⟩,?_⟩
    all_goals grind [Value.ownBlock,Addr.add_mid]
  .rename_i qQ sz n' get' lu hl
   rw [bg] at hl
   split at e
   case h_2=>simp at e
   rename_i gA
   have gA:=cg gA
   simp only [au,bs] at e
   obtain ⟨rfl,rfl⟩:=e
   simp only [need] at hp
   obtain ⟨q1,q2,xs,⟨_,q3⟩,q4⟩:=h.roots r _ _ hl h1
   rcases q3 with ⟨q3,_⟩|⟨g',cap',cur,q3,_⟩
   .grind
   .rw [h2] at q3
    simp only [iP] at q3
    obtain ⟨rfl,_,_⟩:=q3
    rw [hv]
    refine ⟨_,run _ m cap hp,g',sz,⟨e'.2.1,?_⟩,?_⟩
    all_goals grind [Value.ownBlock,Addr.add_mid]
  .simp at e
theorem kW (h:R T N ax w0 sp s a w E) {g:eF} (hg:bu a g):∀ {xs:List Operand} {ds:List D},Fg s g xs=some ds->az (aQ E (AV ax s.rs E) w) ds (xs.map a.eval)
 | [],ds,e=>by simp [Fg] at e; subst e; exact .nil
 | x::xs,ds,e=>by
   simp only [Fg] at e
   split at e
   .rename_i d r h1 h2
    simp only [au] at e
    subst e
    exact .cons (h.ev hg h1) (kW h hg h2)
   .simp at e
theorem ph {P:Program} {w:World}:∀ {fs:List Field} {l:List (Nat×Nat)},mI P fs=some l->
  (fs.mapM λ(f:Field)=>(do pure (f.offset,<- sizeOf f.type):Sem (Nat×Nat))).run P w=.ok l w
 | [],l,h=>by simp [mI] at h; subst h; simp
 | f::fs,l,h=>by
   simp only [mI] at h
   split at h
   .rename_i i l' hi hl
    simp only [au] at h
    subst h
    have ih:=ph (w:=w) hl
    rw [List.mapM_cons]
    simp only [Sem.run_bind,run_sizeOf (P:=P) (t:=f.type) (n:=i.size) (by simp [hi]),Result.andThen_ok,Sem.run_pure,ih]
   .simp at h
theorem b6.arr {P:Program} {t:TypeId} {y:Ty} (h:b6 P t y) {n e:Nat} (hk:y.kd=.array n e):P.underlying t=some (.array n e):=by
 have:=h.kd
 grind [tu]
theorem zO (sz:Nat):∀ (n k i:Nat) (x:Nat×Nat),(Il sz n k)[i]?=some x->x=((k+i)*sz,sz)
 | 0,k,i,x,h=>by
   have h:([]:List (Nat×Nat))[i]?=some x:=h
   simp at h
 | n+1,k,0,x,h=>by
   have h:((k*sz,sz)::Il sz n (k+1))[0]?=some x:=h
   simp only [List.getElem?_cons_zero,au] at h
   rw [<- h,Nat.add_zero]
 | n+1,k,i+1,x,h=>by
   have h:((k*sz,sz)::Il sz n (k+1))[i+1]?=some x:=h
   have:=zO sz n (k+1) i x (by simpa using h)
   rw [this,show k+1+i=k+(i+1) by omega]
theorem Ld (bC:cZ P T) {t:TypeId} {y:Ty} (hy:b6 P t y) {fs:List (Nat×Nat)} (hb:II T y=some fs):∃ place:Nat->Option (Nat×Nat),(∀ (i:Nat) x,fs[i]?=some x->place i=some x)/\
  ∀ (parts:Array (Nat×Value)) (cs:Array Value) (w':World),Instr.fill place y.zero.cells parts.toList=some cs->(Instr.build t parts).run P w'=.ok (.agg cs) w':=by
 obtain ⟨inf,hi,_,_,hzero⟩:=hy.full
 have hz0:∀ w',(zeroValue t).run P w'=.ok y.zero w':=λw'=>by simp [zeroValue,typeInfo,hi,hzero]
 unfold II at hb
 split at hb
 .rename_i gs0 hkd
  simp only [au] at hb; subst hb
  obtain ⟨gs,hu,ho⟩:=hy.struct hkd
  refine ⟨λi=>gs0.toArray[i]?,λi x hx=>by simpa using hx,λparts cs w' hf=>?_⟩
  have hm:(gs.mapM λ(f:Field)=>(do pure (f.offset,<- sizeOf f.type):Sem (Nat×Nat))).run P w'=.ok gs0.toArray w':=by
   have hgs:gs=gs.toList.toArray:=rfl
   rw [hgs,List.mapM_toArray]
   simp only [Sem.run_map,ph ho,Result.andThen_ok]
  simp only [Instr.build,Sem.run_bind,hz0,Result.andThen_ok,run_underlying hu,hm]
  rw [hf]
  rfl
 .rename_i n e hkd
  split at hb
  case h_2=>simp at hb
  rename_i z hz
  simp only [au] at hb; subst hb
  have hu:=hy.arr hkd
  refine ⟨λi=>some (i*z.size,z.size),λi x hx=>?_,λparts cs w' hf=>?_⟩
  .rw [zO _ _ _ _ _ hx,Nat.zero_add]
  .simp only [Instr.build,Sem.run_bind,hz0,Result.andThen_ok,run_underlying hu,run_sizeOf (bC.ty _ _ hz).sz]
   rw [hf]
   rfl
 .simp at hb
theorem Dh (bC:cZ P T) (h:R T N ax w0 sp s a w E) {g:eF} (hg:bu a g) {t:TypeId} {parts:Array (Nat×Operand)} {p:Option Prop} {d:D} (e:aZ T s g (.build t parts)=some (p,d)) (hp:need p) :
  ∃ v,(∀ w',(Instr.build t (parts.map λ(i,x)=>(i,a.eval x))).run P w'=.ok v w')/\aQ E (AV ax s.rs E) w d v:=by
 simp only [aZ] at e
 split at e
 case h_2=>simp at e
 rename_i y hy
 have hy:=bC.ty _ _ hy
 split at e
 case h_2=>simp at e
 rename_i fs hkd
 obtain ⟨place,hp1,hp2⟩:=Ld bC hy hkd
 split at e
 case h_2=>simp at e
 rename_i z hz
 split at e
 case h_2=>simp at e
 rename_i l hl
 simp only [au,bs] at e
 obtain ⟨rfl,rfl⟩:=e
 obtain ⟨qR,h1,h2⟩:=D0 h hg (p9:=fs) (place:=place) hp1 (cs:=y.zero.cells) hl (kE hz)
 refine ⟨.agg qR,λw'=>hp2 _ _ _ ?_,_,rfl,h2⟩
 have hparts:(parts.map λ(i,x)=>(i,a.eval x)).toList=parts.toList.map λx=>(x.1,a.eval x.2):=by simp
 rw [hparts]
 exact h1
theorem l0 {av:Nat->Prop} {r:Nat} {v:Value} (hv:a7 E av w (.rt r 0 0) v):∃ b sz,bh E r b sz/\v=.pointer (some ⟨b,0,none⟩):=by
 obtain ⟨b,sz,h1,h2⟩:=hv
 grind
theorem yy (bC:cZ P T) (h:R T N ax w0 sp s a w E) {g:eF} (hg:bu a g) {b:Builtin} {argTypes:Array TypeId} {args:Array Operand} {p:Option Prop} {d:D} (type:TypeId) (Oi:Array Bool) (e:fY T b argTypes.toList (Fg s g args.toList)=some (p,d)) (hp:need p) :
  ∃ v,(∀ w',(builtin b argTypes type Oi (args.map a.eval)).run P w'=.ok (.value v) w')/\aQ E (AV ax s.rs E) w d v:=by
 have one:∀ {d:D},Fg s g args.toList=some [d]->∃ v,args.map a.eval = #[v]/\aQ E (AV ax s.rs E) w d v:=by
  intro d hx
  have hx:=kW h hg hx
  have:args.map a.eval=(List.map a.eval args.toList).toArray:=by rw [<- Array.toList_map]
  rw [this]
  revert hx
  generalize List.map a.eval args.toList=vs
  intro hx
  cases hx with
  | cons q1 q2=>cases q2; exact ⟨_,rfl,q1⟩
 have two:∀ {d d':D},Fg s g args.toList=some [d,d']->∃ v v',args.map a.eval = #[v,v']/\aQ E (AV ax s.rs E) w d v/\aQ E (AV ax s.rs E) w d' v':=by
  intro d d' hx
  have hx:=kW h hg hx
  have:args.map a.eval=(List.map a.eval args.toList).toArray:=by rw [<- Array.toList_map]
  rw [this]
  revert hx
  generalize List.map a.eval args.toList=vs
  intro hx
  cases hx with
  | cons q1 q2=>cases q2 with
    | cons q3 q4=>cases q4; grind
 cases b
 case len=>
  simp only [fY] at e
  split at e
  case h_2=>simp at e
  rename_i t d' ht hx
  obtain ⟨v,hv,hd⟩:=one hx
  have ht:argTypes = #[t]:=by
   grind
  subst ht
  rw [hv]
  split at e
  case h_2=>simp at e
  rename_i y hy
  have hy:=bC.ty _ _ hy
  have run:∀ (v:Value) (n:Int),(∀ w',(Builtin.len_ #[t] type #[v]).run P w'=.ok (goInt n) w')->∀ w',(builtin .len #[t] type Oi #[v]).run P w'=.ok (.value (.int .i64 n)) w':=by
   intro v n hr w'
   simp only [builtin]
   simp [hr,goInt]
  split at e
  .rename_i el sz n get hk
   obtain ⟨ao,cap,rfl,_⟩:=hd
   simp only [au,bs] at e
   obtain ⟨rfl,rfl⟩:=e
   exact ⟨_,run _ n (λw'=>by simp [Builtin.len_,run_underlying (hy.slice hk)]),rfl,rfl⟩
  .rename_i el r m hk
   obtain ⟨e',ao,n,cap,_,_,_,rfl⟩:=hd
   simp only [au,bs] at e
   obtain ⟨rfl,rfl⟩:=e
   exact ⟨_,run _ m (λw'=>by simp [Builtin.len_,run_underlying (hy.slice hk)]),rfl,rfl⟩
  .rename_i el ad n c hk
   obtain ⟨rfl,_⟩:=hd
   simp only [au,bs] at e
   obtain ⟨rfl,rfl⟩:=e
   exact ⟨_,run _ n (λw'=>by simp [Builtin.len_,run_underlying (hy.slice hk)]),rfl,rfl⟩
  .rename_i b hk
   obtain ⟨rfl,_⟩:=hd
   simp only [au,bs] at e
   obtain ⟨rfl,rfl⟩:=e
   exact ⟨_,run _ b.size (λw'=>by simp [Builtin.len_,run_underlying (hy.strs hk)]),rfl,rfl⟩
  .simp at e
 case max=>
  simp only [fY] at e
  split at e
  case h_2=>simp at e
  rename_i x y hx
  obtain ⟨v,v',hv,⟨rfl,_⟩,⟨rfl,_⟩⟩:=two hx
  simp only [au,bs] at e
  obtain ⟨rfl,rfl⟩:=e
  rw [hv]
  exact ⟨_,λw'=>by rfl,rfl,rfl⟩
 case min=>
  simp only [fY] at e
  split at e
  case h_2=>simp at e
  rename_i x y hx
  obtain ⟨v,v',hv,⟨rfl,_⟩,⟨rfl,_⟩⟩:=two hx
  simp only [au,bs] at e
  obtain ⟨rfl,rfl⟩:=e
  rw [hv]
  exact ⟨_,λw'=>by rfl,rfl,rfl⟩
 all_goals simp [fY] at e
theorem kU (n:Int):∀ {l:List Int} {es:List MapEntry},az (λn (x:MapEntry)=>x.key=.int .i64 n/\x.val=.bool true) l es->∀ i,
  (ez n l=true/\∃ k e,Instr.findNow (.int .i64) (.int .i64 n) es i=some (some (i+k,.bool true))/\es[k]?=some e/\e.key=.int .i64 n)∨(ez n l=false/\Instr.findNow (.int .i64) (.int .i64 n) es i=some none)
 | _,_,.nil,i=>.inr ⟨rfl,rfl⟩
 | x::l,e::es,.cons h1 h2,i=>by
   simp only [ez,Instr.findNow,h1.1,Instr.sameNow,if_true]
   cases hx:n==x with
   | true=>
     simp_all
   | false=>
     rcases kU n h2 (i+1) with ⟨q1,k,e',q2,q3,q4⟩|⟨q1,q2⟩
     .exact .inl ⟨q1,k+1,e',by grind,by simpa using q3,q4⟩
     grind
theorem b6.map {P:Program} {t:TypeId} {y:Ty} (h:b6 P t y) {k e:Nat} (hk:y.kd=.map k e):P.underlying t=some (.map k e):=by
 have:=h.kd
 grind [tu]
theorem b6.int {P:Program} {t:TypeId} {y:Ty} (h:b6 P t y) (hk:y.kd=.int):P.underlying t=some (.int .i64):=by
 have:=h.kd
 grind [tu]
theorem fq {P:Program} {k:TypeId} (hk:P.underlying k=some (.int .i64)) (em:Bool) (n:Int) (w:World):(Instr.checkKey em 10000 k (.int .i64 n)).run P w=.ok () w:=by
 unfold Instr.checkKey
 simp [Go.underlying,Go.program,Sem.run,hk]
theorem Cv (bC:cZ P T) (h:R T N ax w0 sp s a w E) {g:eF} (hg:bu a g) {t:TypeId} {x i:Operand} {ok:Bool} {p:Option Prop} {d:D} (e:aZ T s g (.lookup t x i ok)=some (p,d)) :
  ∃ v,(∀ w',Below w.heap.size w w'->(Instr.lookup t (a.eval x) (a.eval i) ok).run P w'=.ok v w')/\aQ E (AV ax s.rs E) w d v:=by
 cases ok with
 | true=>simp [aZ] at e
 | false=>
   simp only [aZ] at e
   split at e
   case h_2=>simp at e
   rename_i s1 b1 z1 k el oG
   have oG:=(bC.ty _ _ oG).map rfl
   split at e
   case h_2=>simp at e
   rename_i s2 b2 z2 s3 b3 kd3 zk hye
   have zk:=(bC.ty _ _ zk).int rfl
   have hye:=bC.ty _ _ hye
   obtain ⟨inf,hin,_,_,hz⟩:=hye.full
   have run:∀ {b:Nat} {es:Array MapEntry} {clock:Nat} {l:List Int} {n:Int},w.heap[b]?=some (.map es clock)->az (λn (x:MapEntry)=>x.key=.int .i64 n/\x.val=.bool true) l es.toList->a.eval x=.map (some b)->a.eval i=.int .i64 n->
     ∀ w',Below w.heap.size w w'->(Instr.lookup t (a.eval x) (a.eval i) false).run P w'=.ok (.bool (ez n l)) w':=by
    intro b es clock l n h2 h3 hx hi w' hb
    have eG:b<w.heap.size:=(Array.getElem?_eq_some_iff.1 h2).1
    have hb2:w'.heap[b]?=some (.map es clock):=(hb.block b eG).trans h2
    have hu:(Go.underlying t).run P w'=.ok (.map k el) w':=by simp [Go.underlying,Go.program,Sem.run,oG]
    have huk:(Go.underlying k).run P w'=.ok (.int .i64) w':=by simp [Go.underlying,Go.program,Sem.run,zk]
    have hg':(getObj b).run P w'=.ok (.map es clock) w':=by simp [getObj,Sem.run,hb2]
    have hz0:(zeroValue el).run P w'=.ok (.bool false) w':=by simp [zeroValue,typeInfo,hin,hz]
    have hf:(Instr.findKey k (.int .i64 n) es.toList).run P w'=.ok (match Instr.findNow (.int .i64) (.int .i64 n) es.toList 0 with|some r=>r|none=>none) w':=by
     rcases kU n h3 0 with ⟨q1,k',e',q2,q3,q4⟩|⟨q1,q2⟩<;>simp [Instr.findKey,huk,q2]
    unfold Instr.lookup
    simp only [hx,hi,Sem.run_bind,hu,hg',Result.andThen_ok,fq zk,hf,Sem.run_pure]
    rcases kU n h3 0 with ⟨q1,k',e',q2,q3,q4⟩|⟨q1,q2⟩
    all_goals simp_all
   split at e
   .rename_i r n hx hi
    obtain ⟨b,sz,iL,hx⟩:=h.ev hg hx
    have hi:=(h.ev hg hi).1
    split at e
    case h_2=>simp at e
    rename_i l hl
    simp only [au,bs] at e
    obtain ⟨rfl,rfl⟩:=e
    rw [bg] at hl
    obtain ⟨hh,hE⟩:=iL
    obtain ⟨b',es,clock,h1,h2,h3⟩:=h.roots r _ _ hl hE
    have h1:some b=some b':=h1
    simp only [au] at h1
    subst h1
    exact ⟨.bool (ez n l),run h2 h3 hx hi,rfl,rfl⟩
   .rename_i l n hx hi
    obtain ⟨b,es,clock,hx,_,h2,h3⟩:=h.ev hg hx
    have hi:=(h.ev hg hi).1
    simp only [au,bs] at e
    obtain ⟨rfl,rfl⟩:=e
    exact ⟨.bool (ez n l),run h2 h3 hx hi,rfl,rfl⟩
   .simp at e
theorem ig (bC:cZ P T) {t:TypeId} {el:TypeId} {y:Ty} (hy:T.ty el=some y) (oG:P.underlying t=some (.slice el)) (ad:Option Addr) (n cap:Nat) (h:Int) (h0:0<=h) (h1:h<=(cap:Int)) (w':World) :
  (Instr.sliceAt t (.slice ad n cap) none (some (.int .i64 h)) none).run P w'=.ok (.slice ad h.toNat cap) w':=by
 have he:P.elem t=el:=by simp [Program.elem,oG]
 have ht:P.underlying t=some (.slice (P.elem t)):=by rw [he]; exact oG
 rw [run_sliceAt_slice w' t _ _ _ _ ht,run_slice_h w' t ad n cap ht .i64 h h0 h1,he,run_sizeOf (bC.ty _ _ hy).sz,Result.andThen_ok]
 simp only [sliced,Nat.zero_mul,Nat.sub_zero]
 congr 2
 split
 .rfl
 .cases ad<;>simp [Addr.add]
theorem Dy (bC:cZ P T) (h:R T N ax w0 sp s a w E) {g:eF} (hg:bu a g) {t:TypeId} {x hi:Operand} {p:Option Prop} {d:D} (e:aZ T s g (.slice t x none (some hi) none)=some (p,d)) (hp:need p) :
  ∃ v,(∀ w',(Instr.sliceAt t (a.eval x) none (some (a.eval hi)) none).run P w'=.ok v w')/\aQ E (AV ax s.rs E) w d v:=by
 simp only [aZ] at e
 split at e
 case h_2=>simp at e
 rename_i s1 b1 z1 el hyt'
 have oG:=(bC.ty _ _ hyt').slice rfl
 split at e
 case h_2=>simp at e
 rename_i yel hyel
 split at e
 .rename_i sz n get ih hx hi
  obtain ⟨ad,cap,hx,q1,q2,q3⟩:=h.ev hg hx
  have hi:=(h.ev hg hi).1
  simp only [au,bs] at e
  obtain ⟨rfl,rfl⟩:=e
  obtain ⟨p1,p2⟩:=hp
  refine ⟨.slice ad ih.toNat cap,λw'=>?_,ad,cap,rfl,by omega,by omega,λh0=>?_⟩
  .grind [ig]
  .obtain ⟨a1,r1,r2,r3,r4,r5⟩:=q3 (by omega)
   exact ⟨a1,r1,r2,r3,r4,λi gI j hj=>r5 i (by omega) j hj⟩
 .rename_i r m ih hx hi
  obtain ⟨e0,ad,n,cap,hE,hv,hm,hx⟩:=h.ev hg hx
  have hi:=(h.ev hg hi).1
  split at e
  .rename_i qQ cL n' get' hr
   simp only [au,bs] at e
   obtain ⟨rfl,rfl⟩:=e
   obtain ⟨p1,p2⟩:=hp
   rw [bg] at hr
   obtain ⟨_,_,xs,dX,_⟩:=h.roots r _ _ hr hE
   have hcap:n<=cap:=by
    rw [hv] at dX
    rcases dX.2 with ⟨h1,_⟩|⟨g,c,cur,h1,_,_,h2,_⟩
    all_goals grind
   refine ⟨.slice ad ih.toNat cap,λw'=>?_,e0,ad,n,cap,hE,hv,by omega,rfl⟩
   grind [ig]
  .rename_i qQ cL n' l' hr
   simp only [au,bs] at e
   obtain ⟨rfl,rfl⟩:=e
   obtain ⟨p1,p2⟩:=hp
   rw [bg] at hr
   obtain ⟨_,_,xs,dX,_⟩:=h.roots r _ _ hr hE
   have hcap:n<=cap:=by
    rw [hv] at dX
    rcases dX.2 with ⟨h1,_⟩|⟨g,c,cur,h1,_,_,h2,_⟩
    all_goals grind
   refine ⟨.slice ad ih.toNat cap,λw'=>?_,e0,ad,n,cap,hE,hv,by omega,rfl⟩
   grind [ig]
  .rename_i qQ cL n' get' lu hr
   simp only [au,bs] at e
   obtain ⟨rfl,rfl⟩:=e
   obtain ⟨p1,p2⟩:=hp
   rw [bg] at hr
   obtain ⟨_,_,xs,dX,_⟩:=h.roots r _ _ hr hE
   have hcap:n<=cap:=by
    rw [hv] at dX
    rcases dX.2 with ⟨h1,_⟩|⟨g,c,cur,h1,_,_,h2,_⟩
    all_goals grind
   refine ⟨.slice ad ih.toNat cap,λw'=>?_,e0,ad,n,cap,hE,hv,by omega,rfl⟩
   grind [ig]
  .simp at e
 .rename_i ih hx hi
  have hx:=(h.ev hg hx).1
  have hi:=(h.ev hg hi).1
  simp only [au,bs] at e
  obtain ⟨rfl,rfl⟩:=e
  have hp:ih=0:=hp
  subst hp
  refine ⟨.slice none 0 0,λw'=>?_,rfl,rfl⟩
  grind [ig]
 .simp at e
theorem Bz (bC:cZ P T) (h:R T N ax w0 sp s a w E) {g:eF} (hg:bu a g) {o:Oper} {p:Option Prop} {d:D} (e:aZ T s g o.op=some (p,d)) (hp:need p) :
  ∃ v,(∀ w',Below w.heap.size w w'->(execOp a.eval o).run P w'=.ok (.value v) w')/\aQ E (AV ax s.rs E) w d v:=by
 obtain ⟨dst,op,type,pos,after,guard⟩:=o
 simp only at e
 cases op
 case load t x=>
  obtain ⟨v,h1,h2⟩:=qP bC h hg e hp
  exact ⟨v,λw' hb=>bJ (h1 w' hb),h2⟩
 case fieldAddr t x f=>
  obtain ⟨v,h1,h2⟩:=uJ bC h hg e hp
  exact ⟨v,λw' _=>bJ (h1 w'),h2⟩
 case indexAddr t x ix=>
  obtain ⟨v,h1,h2⟩:=uF bC h hg e hp
  exact ⟨v,λw' _=>bJ (h1 w'),h2⟩
 case build t parts=>
  obtain ⟨v,h1,h2⟩:=Dh bC h hg e hp
  exact ⟨v,λw' _=>bJ (h1 w'),h2⟩
 case move x=>
  simp only [aZ] at e
  split at e
  .rename_i d' hx
   simp only [au,bs] at e
   obtain ⟨rfl,rfl⟩:=e
   exact ⟨_,λ_ _=>rfl,h.ev hg hx⟩
  .simp at e
 case assign x=>
  simp only [aZ] at e
  split at e
  .rename_i d' hx
   simp only [au,bs] at e
   obtain ⟨rfl,rfl⟩:=e
   exact ⟨_,λ_ _=>rfl,h.ev hg hx⟩
  .simp at e
 case pick c x y=>
  cases c
  case tmp t=>
   simp only [aZ] at e
   split at e
   case h_2=>simp at e
   rename_i b hb
   have hb:=(h.ev hg hb).1
   split at e
   case h_2=>simp at e
   rename_i bx bY hx hy
   simp only [au,bs] at e
   obtain ⟨rfl,rfl⟩:=e
   cases b with
   | true=>
     have hx:=(h.ev (g:=(t,true)::g) (λq hq=>by
      cases hq with
      | head=>exact hb
      | tail _ hq=>exact hg q hq) hx).1
     refine ⟨.bool bx,λw' _=>?_,rfl,rfl⟩
     have KN:a.eval (.tmp t)=.bool true:=hb
     simp [execOp,KN,asBool,hx]
   | false=>
     have hy:=(h.ev (g:=(t,false)::g) (λq hq=>by
      cases hq with
      | head=>exact hb
      | tail _ hq=>exact hg q hq) hy).1
     refine ⟨.bool bY,λw' _=>?_,rfl,rfl⟩
     have KN:a.eval (.tmp t)=.bool false:=hb
     simp [execOp,KN,asBool,hy]
  all_goals simp [aZ] at e
 case binOp op t x y t2=>
  simp only [aZ] at e
  split at e
  .rename_i bx bY hx hy
   have hx:=(h.ev hg hx).1
   have hy:=(h.ev hg hy).1
   split at e
   case h_2=>simp at e
   rename_i oG
   have oG:=bC.ty _ _ oG
   split at e
   .simp only [au,bs] at e
    obtain ⟨rfl,rfl⟩:=e
    exact ⟨_,λw' _=>by grind [execOp,bJ,wW],rfl,rfl⟩
   .simp only [au,bs] at e
    obtain ⟨rfl,rfl⟩:=e
    exact ⟨_,λw' _=>by simp only [execOp,hx,hy]; exact bJ (wW oG rfl bx bY x y).2,rfl,rfl⟩
   .simp at e
  .rename_i vx vy _ hx hy
   have hx:=(h.ev hg hx).1
   have hy:=(h.ev hg hy).1
   split at e
   .rename_i z hz
    simp only [au,bs] at e
    obtain ⟨rfl,rfl⟩:=e
    exact ⟨_,λw' _=>by grind [execOp,bJ,Pj],rfl,NU hz⟩
   .split at e
    .rename_i q z hz
     simp only [au,bs] at e
     obtain ⟨rfl,rfl⟩:=e
     exact ⟨_,λw' _=>by simp only [execOp,hx,hy]; exact bJ (L1 hz hp t x y),rfl,Nd hz⟩
    .simp at e
  .rename_i l m hx hy
   obtain ⟨cs,hx,hl⟩:=h.ev hg hx
   obtain ⟨ds,hy,hm⟩:=h.ev hg hy
   split at e
   case h_2=>simp at e
   rename_i ks hks
   split at e
   .rename_i b hb
    simp only [au,bs] at e
    obtain ⟨rfl,rfl⟩:=e
    exact ⟨_,λw' KN=>by simp only [execOp,hx,hy]; exact bJ (bC.YC t ks hks l m b hb E _ w' cs ds (hl.mono λ_ _ q=>a7.mono (Env.le_refl E) (aW.lL KN) (λ_ _ q=>q) q) (hm.mono λ_ _ q=>a7.mono (Env.le_refl E) (aW.lL KN) (λ_ _ q=>q) q) x y).1,rfl,rfl⟩
   .rename_i b hb
    simp only [au,bs] at e
    obtain ⟨rfl,rfl⟩:=e
    exact ⟨_,λw' KN=>by simp only [execOp,hx,hy]; exact bJ (bC.YC t ks hks l m b hb E _ w' cs ds (hl.mono λ_ _ q=>a7.mono (Env.le_refl E) (aW.lL KN) (λ_ _ q=>q) q) (hm.mono λ_ _ q=>a7.mono (Env.le_refl E) (aW.lL KN) (λ_ _ q=>q) q) x y).2,rfl,rfl⟩
   .simp at e
  .simp at e
 case slice t x lo hi mx=>
  cases lo with
  | some _=>simp [aZ] at e
  | none=>cases hi with
    | none=>simp [aZ] at e
    | some hi=>cases mx with
      | some _=>simp [aZ] at e
      | none=>
        obtain ⟨v,h1,h2⟩:=Dy bC h hg e hp
        exact ⟨v,λw' _=>bJ (h1 w'),h2⟩
 case lookup t x i ok=>
  obtain ⟨v,h1,h2⟩:=Cv bC h hg e
  exact ⟨v,λw' hb=>bJ (h1 w' hb),h2⟩
 case unOp op t x=>
  cases op
  case not=>
   simp only [aZ] at e
   split at e
   .rename_i b hx
    have hx:=(h.ev hg hx).1
    simp only [au,bs] at e
    obtain ⟨rfl,rfl⟩:=e
    exact ⟨.bool (!b),λw' _=>by simp only [execOp,hx]; simp [Op.unary],rfl,rfl⟩
   .simp at e
  case neg=>
   simp only [aZ] at e
   split at e
   .rename_i n hx
    have hx:=(h.ev hg hx).1
    simp only [au,bs] at e
    obtain ⟨rfl,rfl⟩:=e
    exact ⟨.int .i64 (IntKind.i64.wrap (0-n)),λw' _=>by simp only [execOp,hx]; rfl,rfl,rfl⟩
   .simp at e
  all_goals simp [aZ] at e
 case nilCheck x=>
  simp only [aZ] at e
  split at e
  .rename_i r i j hx
   obtain ⟨b,sz,h1,hv⟩:=h.ev hg hx
   simp only [au,bs] at e
   obtain ⟨rfl,rfl⟩:=e
   exact ⟨_,λw' _=>by simp only [execOp,hv]; rfl,b,sz,h1,rfl⟩
  .rename_i n get hx
   have hx:=h.ev hg hx
   obtain ⟨ad,hv,hr⟩:=hx
   simp only [au,bs] at e
   obtain ⟨rfl,rfl⟩:=e
   exact ⟨_,λw' _=>by simp only [execOp,hv]; rfl,ad,rfl,hr⟩
  .rename_i f dQ hx
   obtain ⟨vs,hv,hr⟩:=h.ev hg hx
   simp only [au,bs] at e
   obtain ⟨rfl,rfl⟩:=e
   exact ⟨_,λw' _=>by simp only [execOp,hv]; rfl,vs,rfl,hr⟩
  .rename_i f n cap hx
   obtain ⟨vs,hv,hr⟩:=h.ev hg hx
   simp only [au,bs] at e
   obtain ⟨rfl,rfl⟩:=e
   exact ⟨_,λw' _=>by simp only [execOp,hv]; rfl,vs,rfl,hr⟩
  .simp at e
 case extract x k=>
  simp only [aZ] at e
  split at e
  case h_2=>simp at e
  rename_i l hx
  obtain ⟨vs,hv,hl⟩:=h.ev hg hx
  split at e
  .rename_i cs hk
   obtain ⟨v,h1,h2⟩:=hl.nth hk
   simp only [au,bs] at e
   obtain ⟨rfl,rfl⟩:=e
   refine ⟨v,λw' _=>?_,h2⟩
   have nA:vs[k]?=some v:=by simpa using h1
   simp [execOp,hv,Instr.extract,nA]
  .rename_i c hk
   obtain ⟨v,h1,c',h2,h3⟩:=hl.nth hk
   simp only [au,bs] at e
   obtain ⟨rfl,rfl⟩:=e
   simp only [List.cons.injEq,and_true] at h2
   subst h2
   refine ⟨v,λw' _=>?_,h3⟩
   have nA:vs[k]?=some v:=by simpa using h1
   simp [execOp,hv,Instr.extract,nA]
  .simp at e
 case makeFunc fn first dQ=>
  simp only [aZ] at e
  have run:∀ f,fn=.func f->first.toList=[]->∀ w',Below w.heap.size w w'->(execOp a.eval { dst:=dst,op:=.makeFunc fn first dQ,type:=type,pos:=pos,after:=after,guard:=guard }).run P w'=.ok (.value (.func (.func f) #[] (dQ.map a.eval))) w':=by
   intro f hf h0 w' _
   have:first = #[]:=by grind
   subst this
   subst hf
   simp [execOp,Instr.makeFunc]
  split at e
  .rename_i f h0 hx
   have hx:=kW h hg hx
   simp only [au,bs] at e
   obtain ⟨rfl,rfl⟩:=e
   refine ⟨_,run _ rfl h0,_,rfl,?_⟩
   have:(dQ.map a.eval).toList=[]:=by rw [Array.toList_map]; cases hc:List.map a.eval dQ.toList with
    | nil=>rfl
    | cons y ys=>rw [hc] at hx; cases hx
   rw [this]
   exact .nil
  .rename_i f r h0 hx
   have hx:=kW h hg hx
   simp only [au,bs] at e
   obtain ⟨rfl,rfl⟩:=e
   refine ⟨_,run _ rfl h0,_,rfl,?_⟩
   rw [Array.toList_map]
   revert hx
   generalize List.map a.eval dQ.toList=vs
   intro hx
   cases hx with
   | cons q1 q2=>
     cases q2
     exact .cons (l0 (av:=AV ax s.rs E) (w:=w) q1) .nil
  .rename_i f r r' h0 hx
   have hx:=kW h hg hx
   simp only [au,bs] at e
   obtain ⟨rfl,rfl⟩:=e
   refine ⟨_,run _ rfl h0,_,rfl,?_⟩
   rw [Array.toList_map]
   revert hx
   generalize List.map a.eval dQ.toList=vs
   intro hx
   cases hx with
   | cons q1 q2=>
     cases q2 with
     | cons q3 q4=>
       cases q4
       exact .cons (l0 (av:=AV ax s.rs E) (w:=w) q1) (.cons (l0 (av:=AV ax s.rs E) (w:=w) q3) .nil)
  .rename_i f r r' r'' h0 hx
   have hx:=kW h hg hx
   simp only [au,bs] at e
   obtain ⟨rfl,rfl⟩:=e
   refine ⟨_,run _ rfl h0,_,rfl,?_⟩
   rw [Array.toList_map]
   revert hx
   generalize List.map a.eval dQ.toList=vs
   intro hx
   cases hx with
   | cons q1 q2=>
     cases q2 with
     | cons q3 q4=>
       cases q4 with
       | cons q5 q6=>
         cases q6
         exact .cons (l0 (av:=AV ax s.rs E) (w:=w) q1) (.cons (l0 (av:=AV ax s.rs E) (w:=w) q3) (.cons (l0 (av:=AV ax s.rs E) (w:=w) q5) .nil))
  .simp at e
 case call c=>
  obtain ⟨callee,args,argTypes⟩:=c
  simp only [aZ] at e
  split at e
  case h_2=>simp at e
  rename_i b
  have run:∀ v w',(builtin b argTypes type (args.map λ|.const _=>true|_=>false) (args.map a.eval)).run P w'=.ok (.value v) w' ->
    (execOp a.eval { dst:=dst,op:=.call { callee:=.builtin b,args:=args,argTypes:=argTypes },type:=type,pos:=pos,after:=after,guard:=guard }).run P w'=.ok (.value v) w':=by
   grind [execOp,resolve,invoke]
  obtain ⟨v,h1,h2⟩:=yy bC h hg type (args.map λ|.const _=>true|_=>false) e hp
  grind
 all_goals simp [aZ] at e
end
open Go.RowKit
section
variable {P:Program} {T:dk} {N:Nat} {ax:Nat->Prop} {w0:Kp} {sp:List (D×Value)} {s:VS} {a:Act} {w:World} {E:Env}
theorem kM:∀ {c:eF} {t:Tmp},gO t c=true->∀ p∈c,p.1≠t
 | [],t,_,p,hp=>by cases hp
 | x::c,t,h,p,hp=>by
   simp only [gO] at h
   split at h
   .simp at h
   .rename_i hx
    cases hp with
    | head=>intro e; simp_all
    | tail _ hp=>exact kM h p hp
theorem yR:∀ {sl:aL} {t:Tmp},free t sl=true->∀ {t' d c},look sl t'=some (d,c)->gO t c=true
 | [],t,_,t',d,c,h=>by simp [look] at h
 | x::sl,t,hf,t',d,c,h=>by
   obtain ⟨k,d',c'⟩:=x
   simp only [free] at hf
   split at hf
   .rename_i h1
    simp only [look] at h
    split at h
    .grind
    .exact yR hf h
   .simp at hf
theorem kj {a:Act} {t t':Tmp} {v:Value} (h:t'≠t):(a.put (some t) v).tmps.getD t' undef=a.tmps.getD t' undef:=by
 simp [Act.put,Array.getElem?_setIfInBounds_ne (Ne.symm h)]
theorem yG {a:Act} {t:Tmp} {v:Value} (h:t<a.tmps.size):(a.put (some t) v).tmps.getD t undef=v:=by
 simp [Act.put,h]
theorem Fj {t:Nat} {g:eF} {sl:aL} (h:DI N t g sl=true):t<N/\free t sl=true/\gO t g=true:=by
 unfold DI at h
 split at h
 .rename_i h1
  split at h
  all_goals simp_all
 .simp at h
theorem oL {a:Act} {t:Tmp} {v:Value} {c:eF} (h:gO t c=true):bu (a.put (some t) v) c↔bu a c:=by
 have:=kM h
 constructor<;>intro q p hp
 .have:=q p hp; rwa [kj (kM h p hp)] at this
 .rw [kj (kM h p hp)]; exact q p hp
theorem R.put (h:R T N ax w0 sp s a w E) {t:Nat} {d:D} {g:eF} {v:Value} (yo:DI N t g s.sl=true)
  (h1:bu a g->aQ E (AV ax s.rs E) w d v) (h2:¬ bu a g->v=undef):R T N ax w0 sp { s with sl:=(t,d,g)::s.sl } (a.put (some t) v) w E:=by
 obtain ⟨hN,hf,hg⟩:=Fj yo
 refine ⟨by simp [Act.put,h.size],h.defers,h.spec,h.below,h.len,h.outer,h.roots,h.cJ,h.dz,?_,h.fS⟩
 intro t' d' c' hl
 simp only [look] at hl
 split at hl
 .rename_i he
  have he:=cg he
  simp only [au,bs] at hl
  obtain ⟨rfl,rfl⟩:=hl
  subst he
  have gA:t<a.tmps.size:=by rw [h.size]; exact hN
  rw [yG gA]
  refine ⟨hN,λq=>h1 ((oL hg).1 q),λq=>h2 λq'=>q ((oL hg).2 q')⟩
 .rename_i he
  have wc:t'≠t:=by intro e; simp_all
  obtain ⟨q1,q2,q3⟩:=h.slots t' d' c' hl
  rw [kj wc]
  have hc:=yR hf hl
  exact ⟨q1,λq=>q2 ((oL hc).1 q),λq=>q3 λq'=>q ((oL hc).2 q')⟩
theorem kJ {rs aG:List ae} {E E':Env} {ax:Nat->Prop} {n:Nat} (h:∀ r x b sz,aG[r]?=some x->x.live->cM E' r b sz->b<n->AV ax rs E b):∀ b,b<n->AV ax aG E' b->AV ax rs E b:=by
 rintro b hb (q|⟨r,x,sz,h1,h2,h3⟩)
 .exact .inl q
 grind
theorem R.zP (h:R T N ax w0 sp s a w E) {aG:List ae} {E':Env} {w':World} (hE:Env.le E E') (hk:aW (AV ax s.rs E) w w') (hb:w0.Holds w')
  (eT:∀ b,b<w.heap.size->AV ax aG E' b->AV ax s.rs E b) (hlen:E'.length=aG.length)
  (hr:∀ (r:Nat) (x:ae) (e:fJ),aG[r]?=some x->E'[r]?=some e->aO E' (AV ax aG E') w0.base w' e x)
  (jg:∀ (r:Nat) (x:ae) (b sz:Nat),aG[r]?=some x->x.live->cM E' r b sz->w0.In b/\b<w'.heap.size)
  (aq6:∀ (r r':Nat) (x x':ae) (b sz cL:Nat),aG[r]?=some x->aG[r']?=some x'->x.live->x'.live->cM E' r b sz->cM E' r' b cL->r=r') :
  R T N ax w0 sp { s with rs:=aG } a w' E' :=
 ⟨h.size,h.defers.mono λ_ _ ⟨b,sz,q,e⟩=>⟨b,sz,hE.at_ q,e⟩,λx hx=>aQ.mono hE hk eT (h.spec x hx),hb,hlen,h.outer,hr,jg,aq6,λt d c hl=>by
  obtain ⟨q1,q2,q3⟩:=h.slots t d c hl
  exact ⟨q1,λq=>aQ.mono hE hk eT (q2 q),q3⟩,h.fS.mono hk eT⟩
theorem R.size_le (h:R T N ax w0 sp s a w E):w0.base<=w.heap.size:=h.below.base
theorem R.jr (h:R T N ax w0 sp s a w E) {b:Nat} (q:ax b):b<w.heap.size:=Nat.lt_of_lt_of_le (h.outer b q).1 h.below.size
theorem aO.mono {E E':Env} {av cG:Nat->Prop} {base:Nat} {w w':World} {e:fJ} {x:ae} (hE:Env.le E E') (hk:aW av w w') (ha:∀ b,b<w.heap.size->cG b->av b)
  (hs:x.live->∀ b,e.has b->w'.heap[b]?=w.heap[b]?) (h:aO E av base w e x):aO E' cG base w' e x:=by
 cases x with
 | dead=>trivial
 | box l=>
   obtain ⟨b,cs,Tc,q1,q2,q3,q4⟩:=h
   exact ⟨b,cs,Tc,q1,q2,by rw [hs trivial b (.inl q1)]; exact q3,q4.mono λ_ _ q=>a7.mono hE hk ha q⟩
 | arr el sz n get=>
   obtain ⟨q1,q2,xs,q3,q4⟩:=h
   refine ⟨q1,q2,xs,?_,λi hi j hj=>?_⟩
   .obtain ⟨h1,h2⟩:=q3
    refine ⟨h1,?_⟩
    rcases h2 with h2|⟨g,cap,cur,h3,h4,h5,h6⟩
    .exact .inl h2
    .refine .inr ⟨g,cap,cur,h3,h4,?_,h6⟩
     rw [hs trivial g (.inl (by rw [q2,h3]; rfl))]
     exact h5
   grind [cF.mono]
 | row el sz n l=>
   obtain ⟨q1,q2,xs,q3,q4⟩:=h
   refine ⟨q1,q2,xs,?_,q4.mono λ_ _ q=>a7.mono hE hk ha q⟩
   obtain ⟨h1,h2⟩:=q3
   refine ⟨h1,?_⟩
   rcases h2 with h2|⟨g,cap,cur,h3,h4,h5,h6⟩
   .exact .inl h2
   .refine .inr ⟨g,cap,cur,h3,h4,?_,h6⟩
    rw [hs trivial g (.inl (by rw [q2,h3]; rfl))]
    exact h5
 | bL el sz n get dJ=>
   obtain ⟨q1,q2,xs,q3,Ks,hp,hf,q4⟩:=h
   refine ⟨q1,q2,xs,mN (λb q=>hs trivial b (.inl (q2.trans q))) q3,Ks,hp,hf,λi hi j hj=>?_⟩
   obtain ⟨x,c,h1,h2,h3⟩:=q4 i hi j hj
   exact ⟨x,c,h1,h2,iX.mono hE hk ha (λb q=>hs trivial b (.inr (hp.sub i j b q))) h3⟩
 | own l=>
   obtain ⟨q1,q2,vs,q3,q4,Ks,q5,q6,q7⟩:=h
   refine ⟨q1,q2,vs,q3,q4,Ks,q5,q6,λi o ho=>?_⟩
   obtain ⟨v,h1,h2⟩:=q7 i o ho
   exact ⟨v,h1,fO.mono hk ha (λb q=>hs trivial b (.inr (q5 i b q))) h2⟩
 | set l=>
   obtain ⟨b,es,clock,q1,q2,q3⟩:=h
   exact ⟨b,es,clock,q1,by rw [hs trivial b (.inl q1)]; exact q2,q3⟩
 | kF=>
   obtain ⟨b,q1,q2⟩:=h
   exact ⟨b,q1,by rw [hs trivial b (.inl q1)]; exact q2⟩
 | loop f N sl ps as bd st fi=>
   obtain ⟨b,db,tm,q1,q2,q3,q4,q5⟩:=h
   exact ⟨b,db,tm,q1,by rw [hs trivial b (.inl q1)]; exact q2,q3,q4.mono hE hk ha,q5⟩
theorem kS {E:Env} {e:fJ} {r b sz:Nat} (h:cM (E++[e]) r b sz):cM E r b sz∨(r=E.length/\e.has b/\e.2.2=sz):=by
 obtain ⟨hh,h,h2,h3⟩:=h
 rcases Nat.lt_trichotomy r E.length with hr|hr|hr
 .rw [iU hr] at h; exact .inl ⟨hh,h,h2,h3⟩
 all_goals grind
theorem R.new (h:R T N ax w0 sp s a w E) {x:ae} {e:fJ} {w':World} (hs:w'.heap.size=w.heap.size+1) (hold:∀ b,b<w.heap.size->w'.heap[b]?=w.heap[b]?)
  (hb:Below w.heap.size w w') (he:e.1=some w.heap.size) (hx:aO (E++[e]) (AV ax (s.rs++[x]) (E++[e])) w0.base w' e x) (sZ:∀ b,¬ e.2.1.2 b:=by intro b hb; exact hb) :
  R T N ax w0 sp { s with rs:=s.rs++[x] } a w' (E++[e]):=by
 have hle:=h.size_le
 have key:∀ r y b sz,(s.rs++[x])[r]?=some y->y.live->cM (E++[e]) r b sz->(s.rs[r]?=some y/\cM E r b sz)∨(r=E.length/\b=w.heap.size):=by
  intro r y b sz h1 h2 h3
  rcases kS h3 with h4|⟨h4,h5,_⟩
  .refine .inl ⟨?_,h4⟩
   obtain ⟨hh,h4,_⟩:=h4
   have:=(List.getElem?_eq_some_iff.1 h4).1
   rw [h.len] at this
   grind
  .refine .inr ⟨h4,?_⟩
   rcases h5 with h5|h5
   all_goals grind
 refine h.zP (Env.et _ _) ⟨by omega,λb q _=>hold b q⟩ (h.below.grown hb.os hb.tape hb.output (by omega) λk hk _=>hold k hk)
  (kJ λr y b sz h1 h2 h3 h4=>?_) (by simp [h.len]) ?_ ?_ ?_
 .rcases key r y b sz h1 h2 h3 with ⟨h5,h6⟩|⟨_,h6⟩
  .exact .inr ⟨r,y,sz,h5,h2,h6⟩
  .omega
 .intro r y e' h1 h2
  rcases Nat.lt_trichotomy r E.length with hr|hr|hr
  .rw [iU (by rw [<- h.len]; exact hr)] at h1
   rw [iU hr] at h2
   refine aO.mono (av:=AV ax s.rs E) (Env.et _ _) ⟨by omega,λb q _=>hold b q⟩ (kJ λr y b sz h1 h2 h3 h4=>?_) (λhl b q=>?_) (h.roots r y e' h1 h2)
   .rcases key r y b sz h1 h2 h3 with ⟨h5,h6⟩|⟨_,h6⟩
    .exact .inr ⟨r,y,sz,h5,h2,h6⟩
    .omega
   .exact hold b (h.cJ r y b e'.2.2 h1 hl ⟨e',h2,rfl,q⟩).2
  .subst hr
   rw [h.len,nD (bl _)] at h1
   grind
  grind
 .intro r y b sz h1 h2 h3
  rcases key r y b sz h1 h2 h3 with ⟨h5,h6⟩|⟨_,h6⟩
  .have q:=h.cJ r y b sz h5 h2 h6; exact ⟨q.1,by omega⟩
  .subst h6; exact ⟨h.below.fresh (bl _),by omega⟩
 .intro r r' y y' b sz cL h1 nA h2 ic h3 ld
  rcases key r y b sz h1 h2 h3 with ⟨h5,h6⟩|⟨h6,h7⟩<;>rcases key r' y' b cL nA ic ld with ⟨h5',h6'⟩|⟨h6',h7'⟩
  .exact h.dz r r' y y' b sz cL h5 h5' h2 ic h6 h6'
  .have:=h.cJ r y b sz h5 h2 h6; omega
  .have:=h.cJ r' y' b cL h5' ic h6'; omega
  .omega
end
open Go.RowKit
section
variable {P:Program} {T:dk} {N:Nat} {ax:Nat->Prop} {w0:Kp} {sp:List (D×Value)} {s:VS} {a:Act} {w:World} {E:Env}
theorem az.xh {α β:Type} {Rr:α->β->Prop}:∀ {l:List α} {m:List β},l.length=m.length->(∀ (i:Nat) (x:α) (y:β),l[i]?=some x->m[i]?=some y->Rr x y)->az Rr l m
 | [],[],_,_=>.nil
 | [],_::_,h,_=>by simp at h
 | _::_,[],h,_=>by simp at h
 | x::l,y::m,h,k=>.cons (k 0 x y rfl rfl) (az.xh (by simpa using h) λi x y h1 h2=>k (i+1) x y (by simpa using h1) (by simpa using h2))
theorem az.get {α β:Type} {Rr:α->β->Prop} {l:List α} {m:List β} (h:az Rr l m) {i:Nat} {x:α} {y:β} (h1:l[i]?=some x) (h2:m[i]?=some y):Rr x y:=by
 obtain ⟨y',h3,h4⟩:=h.nth (by rw [bg]; exact h1)
 grind
theorem az.rR {E:Env} {av:Nat->Prop} {w:World} {l:List C} {m:List Value} (h:az (a7 E av w) l m):∀ v∈m,v.oneCell'=true:=by
 induction h with
 | nil=>intro v hv; cases hv
 | cons q _ ih=>
   grind [a7.one]
theorem ia (w:World) (o:Obj):Below w.heap.size w (w.alloc o):=(Below.refl _ _).alloc (bl _) o
theorem R.WB (h:R T N ax w0 sp s a w E) {x:ae} {hd:Hd} {sz:Nat} (sZ:∀ b,¬ hd.2 b:=by intro b hb; exact hb):∀ b,b<w.heap.size->AV ax (s.rs++[x]) (E++[(some w.heap.size,hd,sz)]) b->AV ax s.rs E b:=by
 refine kJ λr y b cL h1 h2 h3 h4=>?_
 rcases kS h3 with h5|⟨h5,h6,_⟩
 .have h5':=h5
  obtain ⟨hh,h5,_⟩:=h5
  have hr:=(List.getElem?_eq_some_iff.1 h5).1
  rw [h.len] at hr
  rw [iU hr] at h1
  exact .inr ⟨r,y,cL,h1,h2,h5'⟩
 .rcases h6 with h6|h6
  all_goals grind
theorem R.box (h:R T N ax w0 sp s a w E) {l:List C} {cs:Array Value} (hl:az (a7 E (AV ax s.rs E) w) l cs.toList) (t:TypeId) :
  R T N ax w0 sp { s with rs:=s.rs++[.box l] } a (w.alloc (.cells cs t)) (E++[(some w.heap.size,lh,l.length)]):=by
 have eT:∀ b,b<w.heap.size->AV ax (s.rs++[.box l]) (E++[(some w.heap.size,lh,l.length)]) b->AV ax s.rs E b:=by
  refine kJ λr y b sz h1 h2 h3 h4=>?_
  rcases kS h3 with h5|⟨h5,h6,_⟩
  .have h5':=h5
   obtain ⟨hh,h5,_⟩:=h5
   have hr:=(List.getElem?_eq_some_iff.1 h5).1
   rw [h.len] at hr
   rw [iU hr] at h1
   exact .inr ⟨r,y,sz,h1,h2,h5'⟩
  .rcases h6 with h6|h6
   all_goals grind
 refine h.new (by simp) (λb hb=>Below.heap_alloc w _ b hb) (ia w _) rfl ⟨w.heap.size,cs,t,rfl,rfl,heap_alloc_new w _,?_⟩
 exact hl.mono λ_ _ q=>a7.mono (Env.et _ _) ⟨by simp,λb hb _=>Below.heap_alloc w _ b hb⟩ eT q
theorem R.turn (h:R T N ax w0 sp s a w E) {r b sz:Nat} {x x':ae} {hd:Hd} (hr:s.rs[r]?=some x) (hx:x.live) (hE:E[r]?=some (some b,hd,sz)) {w':World} (hs:w'.heap.size=w.heap.size) (hold:∀ k,k≠b->w'.heap[k]?=w.heap[k]?)
  (hos:w'.os=w.os/\w'.tape=w.tape/\w'.output=w.output) (hx':aO E (AV ax s.rs E) w0.base w' (some b,hd,sz) x') :
  R T N ax w0 sp { s with rs:=s.rs.set r x' } a w' E:=by
 have hb:=h.blk r x b sz hr hx ⟨hd,hE⟩
 have hlen:r<s.rs.length:=(List.getElem?_eq_some_iff.1 hr).1
 have key:∀ (q:Nat) (y:ae),(s.rs.set r x')[q]?=some y->y.live->∃ z:ae,s.rs[q]?=some z/\z.live:=by
  grind
 have hk:aW (AV ax s.rs E) w w':=⟨by omega,λk hk hn=>hold k λe=>by subst e; exact hn (.inr ⟨r,x,sz,hr,hx,bh.own ⟨hd,hE⟩⟩)⟩
 have eT:∀ k,k<w.heap.size->AV ax (s.rs.set r x') E k->AV ax s.rs E k:=by
  refine kJ λq y b sz h1 h2 h3 h4=>?_
  obtain ⟨z,h5,h6⟩:=key q y h1 h2
  exact .inr ⟨q,z,sz,h5,h6,h3⟩
 refine h.zP (Env.le_refl E) hk (h.below.grown hos.1 hos.2.1 hos.2.2 (by omega) λk hk hn=>hold k (λe=>hn (by rw [e]; exact hb.1))) eT (by simp [h.len]) ?_ ?_ ?_
 .intro q y e h1 h2
  rw [jE] at h1
  split at h1
  .rename_i hq
   subst hq
   simp only [au] at h1
   subst h1
   rw [hE] at h2
   simp only [au] at h2
   subst h2
   exact aO.mono (Env.le_refl E) (aW.refl _ w') (λk hk q=>eT k (by omega) q) (λ_ _ _=>rfl) hx'
  .rename_i hq
   refine aO.mono (av:=AV ax s.rs E) (Env.le_refl E) hk eT (λhl k nG=>hold k λe=>?_) (h.roots q y e h1 h2)
   subst e
   exact hq (h.dz r q x y k sz e.2.2 hr h1 hx hl (bh.own ⟨hd,hE⟩) ⟨e,h2,rfl,nG⟩)
 .intro q y k cL h1 h2 h3
  obtain ⟨z,h5,h6⟩:=key q y h1 h2
  have q:=h.cJ q z k cL h5 h6 h3
  exact ⟨q.1,by omega⟩
 .intro q q' y y' k sz1 Ti h1 nA h2 ic h3 ld
  obtain ⟨z,h5,h6⟩:=key q y h1 h2
  obtain ⟨z',h5',h6'⟩:=key q' y' nA ic
  exact h.dz q q' z z' k sz1 Ti h5 h5' h6 h6' h3 ld
theorem gR {t:TypeId} {y:Ty} (hy:b6 P t y) {b o:Nat} {cur:Array Value} {Tc:TypeId} (hg:w.heap[b]?=some (.cells cur Tc (0,0))) {v:Value} (hv:v.cells.size=y.size) (SI:o+y.size<=cur.size) (h1:∀ u∈v.cells.toList,u.oneCell'=true) :
  (Instr.storeAt t (.pointer (some ⟨b,o,none⟩)) v).run P w=.ok () (w.setRow b (cur.toList.take o++v.cells.toList++cur.toList.drop (o+y.size)).toArray):=by
 have lC:=run_storeCells_at (P:=P) b o Tc v.cells.toList 0 cur w hg (by simp; omega) h1
 simp only [Nat.add_zero] at lC
 have hl:v.cells.toList.length=y.size:=by simpa using hv
 rw [hl] at lC
 simp [Instr.storeAt,Instr.sureAddr,storeVar,run_sizeOf hy.sz,hv,lC]
theorem QJ {α:Type} (l:List α) (o:Nat) (y:α) (ho:o<l.length):(l.set o y).take (o+1)=l.take o++[y]:=by
 induction l generalizing o with
 | nil=>simp at ho
 | cons x l ih=>
   cases o with
   | zero=>simp
   | succ o=>grind
theorem set_drop {α:Type} (l:List α) (o k:Nat) (y:α) (hk:o<k):(l.set o y).drop k=l.drop k:=by
 rw [List.drop_set]
 split
 .rfl
 .omega
theorem put_eq:∀ {ys l:List C} {o:Nat} {r:List C},put l o ys=some r->r=l.take o++ys++l.drop (o+ys.length)
 | [],l,o,r,h=>by
   simp only [put,au] at h
   subst h
   simp
 | y::ys,l,o,r,h=>by
   simp only [put] at h
   split at h
   .rename_i z hz
    rw [bg] at hz
    have ho:o<l.length:=(List.getElem?_eq_some_iff.1 hz).1
    rw [ba] at h
    rw [put_eq h,QJ l o y ho,set_drop l o _ y (by omega)]
    grind
   .simp at h
theorem ZN {Ro:C->Value->Prop} {ys l:List C} {o:Nat} {r:List C} {vs cs:List Value} (h:put l o ys=some r) (h1:az Ro l cs) (h2:az Ro ys vs):az Ro r (cs.take o++vs++cs.drop (o+vs.length)):=by
 rw [put_eq h,<- h2.length]
 exact ((h1.take o).append h2).append (h1.drop _)
theorem qu:∀ {cs:List C} {ys:List I},CR cs=some ys->cs=lift ys
 | [],ys,h=>by simp [CR] at h; subst h; rfl
 | c::cs,ys,h=>by
   cases c with
   | im x=>
     simp only [CR] at h
     split at h
     .rename_i r hr
      simp only [au] at h
      subst h
      simp only [lift]
      rw [qu hr]
     .simp at h
   | _=>simp [CR] at h
theorem uX {E:Env} {av:Nat->Prop} {w:World}:∀ {ys:List I} {vs:List Value},az (a7 E av w) (lift ys) vs->az (cF av w) ys vs
 | [],vs,h=>by cases h; exact .nil
 | y::ys,vs,h=>by cases h with|cons q1 q2=>exact .cons q1 (uX q2)
theorem Bk {E:Env} {av:Nat->Prop} {w:World}:∀ {ys:List I} {vs:List Value},az (cF av w) ys vs->az (a7 E av w) (lift ys) vs
 | [],vs,h=>by cases h; exact .nil
 | y::ys,vs,h=>by cases h with|cons q1 q2=>exact .cons q1 (Bk q2)
theorem oi {av:Nat->Prop} {w:World} {ys:List I} {vs:List Value} (h:az (cF av w) ys vs) {q:Nat} (hq:q<ys.length):∃ x,vs[q]?=some x/\cF av w (iA ys q) x:=by
 have:ys[q]?=some ys[q]:=ka hq
 have h1:nth ys q=some ys[q]:=by rw [bg]; exact this
 obtain ⟨x,h2,h3⟩:=h.nth h1
 exact ⟨x,h2,by simp only [iA,h1]; exact h3⟩
theorem tU (bC:cZ P T) (h:R T N ax w0 sp s a w E) {t:TypeId} {x v:D} {px pv:Value} (hx:aQ E (AV ax s.rs E) w x px) (hv:aQ E (AV ax s.rs E) w v pv) {K:VS->Prop} (e:AL T s t x v K) :
  ∃ s' w',(Instr.storeAt t px pv).run P w=.ok () w'/\R T N ax w0 sp s' a w' E/\K s':=by
 unfold AL at e
 split at e
 case h_2=>exact e.elim
 rename_i y hy
 have hy:=bC.ty _ _ hy
 split at e
 case h_2=>exact e.elim
 rename_i cs hcs
 have hcv:=l9 hv hcs
 split at e
 case h_2=>exact e.elim
 rename_i gA
 simp only [di] at gA
 obtain ⟨gA,fw⟩:=gA
 have gA:=cg gA
 have fw:=aM fw
 have uV:pv.cells.size=y.size:=by have:=hcv.length; grind
 split at e
 case h_2=>exact e.elim
 rename_i r i j
 obtain ⟨b,sz,⟨hd,hE⟩,rfl⟩:=hx
 split at e
 .rename_i l hl
  rw [bg] at hl
  obtain ⟨b',cur,Tc,q1,q2,q3,q4⟩:=h.roots r _ _ hl hE
  simp only [au] at q1
  subst q1
  split at e
  case h_2=>exact e.elim
  rename_i l' uR
  simp only [Nat.zero_mul,Nat.zero_add]
  have SI:j+y.size<=cur.size:=by
   have hlen:=q4.length
   rcases sr uR with h1|h1
   all_goals grind
  have hp:=ZN uR q4 hcv
  have hrun:=gR hy q3 uV SI (hcv.rR)
  refine ⟨_,_,hrun,?_,e⟩
  rw [ba]
  have hl2:pv.cells.toList.length=y.size:=by simpa using uV
  rw [hl2] at hp
  refine h.turn hl trivial hE (by simp) (λk hk=>setRow_other w _ k _ hk) ⟨rfl,rfl,rfl⟩ ⟨b,_,Tc,rfl,?_,setRow_heap w b cur _ Tc (0,0) q3,?_⟩
  .have q2:sz=l.length:=q2
   show sz=l'.length
   rw [q2,q4.length,hp.length]
   simp [hl2]
   omega
  .have hk:aW (AV ax s.rs E) w (w.setRow b (cur.toList.take j++pv.cells.toList++cur.toList.drop (j+y.size)).toArray):=
    ⟨by simp,λk hk hn=>setRow_other w _ k _ λe=>by subst e; exact hn (.inr ⟨r,_,sz,hl,trivial,bh.own ⟨hd,hE⟩⟩)⟩
   exact hp.mono λ_ _ q=>a7.mono (Env.le_refl E) hk (λ_ _ q=>q) q
 .rename_i el asz n get hl
  rw [bg] at hl
  split at e
  case h_2=>exact e.elim
  rename_i ys hys hle
  have hle:=dR hle
  obtain ⟨hi,e⟩:=e
  obtain ⟨q1,q2,xs,q3,q4⟩:=h.roots r _ _ hl hE
  have q1:sz=asz:=q1
  have q2:some b=hd.1.ownBlock:=q2
  subst q1
  obtain ⟨q5,q6⟩:=q3
  have q6:(hd.1=.slice none 0 0/\n=0)∨∃ g cap cur,hd.1=.slice (some ⟨g,0,none⟩) n cap/\w0.base<=g/\w.heap[g]?=some (.cells cur el (0,0))/\n<=cap/\cap<=maxLen/\cur.size=cap*sz/\cur.toList.take (n*sz)=xs:=q6
  rcases q6 with ⟨_,q6⟩|⟨g',cap,cur,q6,q7,q8,q9,q10,q11,q12⟩
  .omega
  rw [q6] at q2
  simp only [Value.ownBlock,au] at q2
  subst q2
  have hfit0:i*sz+(j+y.size)<=n*sz:=by
   have:=gP sz (show i+1<=n by omega)
   grind
  have hcap:n*sz<=cap*sz:=gP _ q9
  have hrun:=gR (w:=w) hy (o:=i*sz+j) q8 uV (by omega) (hcv.rR)
  refine ⟨_,_,hrun,?_,e⟩
  rw [ba]
  have hl2:pv.cells.toList.length=y.size:=by simpa using uV
  have hk:aW (AV ax s.rs E) w (w.setRow b (cur.toList.take (i*sz+j)++pv.cells.toList++cur.toList.drop (i*sz+j+y.size)).toArray):=
    ⟨by simp,λk hk hn=>setRow_other w _ k _ λe=>by subst e; exact hn (.inr ⟨r,_,sz,hl,trivial,bh.own ⟨hd,hE⟩⟩)⟩
  refine h.turn hl trivial hE (by simp) (λk hk=>setRow_other w _ k _ hk) ⟨rfl,rfl,rfl⟩ ⟨rfl,by rw [q6]; rfl,_,⟨?_,.inr ⟨b,cap,_,q6,q7,setRow_heap w b cur _ el (0,0) q8,q9,q10,?_,rfl⟩⟩,?_⟩
  .simp [hl2]
   omega
  .simp [hl2]
   omega
  .have hys':=qu hys
   subst hys'
   have hyv:=uX hcv
   have hyl:ys.length=y.size:=by have:=hyv.length; grind
   intro i' gI j' hj'
   obtain ⟨u,h1,h2⟩:=q4 i' gI j' hj'
   have hfit':i'*sz+j'<n*sz:=by
    grind
   have hcur:cur.toList[i'*sz+j']?=some u:=by
    grind
   by_cases hin:i'=i/\j<=j'/\j'<j+ys.length
   .obtain ⟨rfl,h3,h4⟩:=hin
    obtain ⟨u',h5,h6⟩:=oi hyv (q:=j'-j) (by omega)
    refine ⟨u',?_,?_⟩
    .rw [me,if_pos hfit',List.append_assoc,nD (by simp; omega),iU (by simp [hl2]; omega)]
     grind
    grind [zP,cF.mono]
   .refine ⟨u,?_,?_⟩
    .have wc:i'*sz+j'<i*sz+j∨i*sz+j+y.size<=i'*sz+j':=by
      rcases Nat.lt_trichotomy i' i with h3|h3|h3
      .left
       have:=gP sz (show i'+1<=i by omega)
       grind
      .grind
      .right
       have:=gP sz (show i+1<=i' by omega)
       grind
     rw [me,if_pos hfit']
     rcases wc with h3|h3
     .grind
     .rw [nD (by simp [hl2]; omega),List.getElem?_drop]
      simp only [List.length_append,List.length_take,Array.length_toList,hl2]
      rw [show i*sz+j+y.size+(i'*sz+j'-(min (i*sz+j) cur.size+y.size))=i'*sz+j' by omega]
      exact hcur
    grind [zP,cF.mono]
 .exact e.elim
end
open Go.RowKit
section
variable {P:Program} {T:dk} {N:Nat} {ax:Nat->Prop} {w0:Kp} {sp:List (D×Value)} {s:VS} {a:Act} {w:World} {E:Env}
theorem kh (l:List C):∀ n,(Qp l n).length=n*l.length
 | 0=>by simp [Qp]
 | n+1=>by simp only [Qp,List.length_append,kh l n,Nat.add_mul,Nat.one_mul]; omega
theorem vB (l:List C):∀ n i,i<n*l.length->(Qp l n)[i]?=l[i%l.length]?
 | 0,i,h=>by simp at h
 | n+1,i,h=>by
   simp only [Qp]
   rcases Nat.lt_or_ge i l.length with h1|h1
   .rw [iU h1,Nat.mod_eq_of_lt h1]
   .rw [nD h1,vB l n (i-l.length) (by grind)]
    congr 1
    exact (Nat.mod_eq_sub_mod h1).symm
theorem zH (h:R T N ax w0 sp s a w E) {g:eF} (hg:bu a g) {sz:Nat} :
  ∀ {parts:List (Nat×Operand)} {l r:List C} {cs:Array Value},xz sz s g parts l=some r->az (a7 E (AV ax s.rs E) w) l cs.toList->
  ∃ qR,Instr.fill (λi=>some (i*sz,sz)) cs (parts.map λx=>(x.1,a.eval x.2))=some qR/\az (a7 E (AV ax s.rs E) w) r qR.toList/\r.length=l.length
 | [],l,r,cs,e,hl=>by
   simp only [xz,au] at e
   subst e
   exact ⟨cs,rfl,hl,rfl⟩
 | (k,x)::parts,l,r,cs,e,hl=>by
   simp only [xz] at e
   split at e
   case h_2=>simp at e
   rename_i d hx
   split at e
   case h_2=>simp at e
   rename_i ks hks
   split at e
   case h_2=>simp at e
   rename_i gA
   simp only [di] at gA
   obtain ⟨gA,fw⟩:=gA
   have gA:=cg gA
   have fw:=aM fw
   split at e
   case h_2=>simp at e
   rename_i l' uR
   have hv:=l9 (h.ev hg hx) hks
   have hlen:=hv.length
   have SI:=sr uR
   have hcl:=hl.length
   have hp:=Br (av:=AV ax s.rs E) uR hl hv
   obtain ⟨qR,h1,h2,h3⟩:=zH h hg (cs:=((a.eval x).cells.zipIdx.foldl (λcs (y:Value×Nat)=>cs.setIfInBounds (k*sz+y.2) y.1) cs)) e (by
    have:=sH (k*sz) (a.eval x).cells.toList 0 cs
    grind [Array.toList_zipIdx])
   have hll:l'.length=l.length:=by
    rw [put_eq uR]
    grind
   grind [Instr.fill]
theorem wu (bC:cZ P T) (h:R T N ax w0 sp s a w E) {g:eF} (hg:bu a g) {t el n:Nat} {parts:Array (Nat×Operand)} {y0 y:Ty} (sf:b6 P t y0) (hk:y0.kd=.slice el) (hy:b6 P el y)
  {z l:List C} (hz:vY y=some z) (hl:xz y.size s g parts.toList (Qp z n)=some l) (CS:z.length=y.size) (fw:0<y.size) (Gf:n*y.size<=1000000) :
  ∃ cs:Array Value,(Instr.buildSlice t n (parts.map λ(i,x)=>(i,a.eval x))).run P w=.ok (.slice (some ⟨w.heap.size,0,none⟩) n n) (w.alloc (.cells cs el))/\az (a7 E (AV ax s.rs E) w) l cs.toList/\l.length=n*y.size:=by
 obtain ⟨inf,hi,hisz,_,hzero⟩:=hy.full
 have hzr:=kE (E:=E) (av:=AV ax s.rs E) (w:=w) hz
 have hzs:y.zero.cells.size=y.size:=by have:=hzr.length; grind
 have hrep:az (a7 E (AV ax s.rs E) w) (Qp z n) ((Array.range (n*y.size)).map (y.zero.cells[·%y.zero.cells.size]!)).toList:=by
  refine az.xh (by rw [kh,CS]; simp) λi x v h1 h2=>?_
  have hi:i<n*y.size:=by
   grind
  rw [vB z n i (by rw [CS]; exact hi),CS] at h1
  have hm:i%y.size<y.size:=Nat.mod_lt _ fw
  have ic:y.zero.cells.toList[i%y.size]?=some v:=by
   grind
  exact hzr.get h1 ic
 obtain ⟨qR,h1,h2,h3⟩:=zH h hg hl hrep
 rw [kh,CS] at h3
 refine ⟨qR,?_,h2,h3⟩
 have hparts:(parts.map λ(i,x)=>(i,a.eval x)).toList=parts.toList.map λx=>(x.1,a.eval x.2):=by simp
 rw [<- hparts] at h1
 have hz0:(zeroValue el).run P w=.ok y.zero w:=by simp [zeroValue,typeInfo,hi,hzero]
 have hbig':¬ (n*y.size>2 ^ 24):=by omega
 simp only [Instr.buildSlice,Sem.run_bind,Result.andThen_ok,run_underlying (sf.slice hk),run_sizeOf hy.sz,hbig']
 have nA:Instr.fill (λi=>some (i*y.size,y.size)) ((Array.range (n*y.size)).map (y.zero.cells[·%y.zero.cells.size]!)) (Array.map (λ(x:Nat×Operand)=>(x.fst,a.eval x.snd)) parts).toList=some qR:=h1
 have hnew:((do let d <- newRow el qR; pure (Value.slice (some d) n n)):Sem Value).run P w=.ok (.slice (some ⟨w.heap.size,0,none⟩) n n) (w.alloc (.cells qR el)):=by
  rfl
 grind [Sem.run_bind,Result.andThen_ok]
def kill:Option Nat->List ae->List ae
 | some r,rs=>rs.set r .dead
 | none,rs=>rs
theorem R.row (h:R T N ax w0 sp s a w E) {el sz n:Nat} {get:Nat->Nat->I} {w':World} {hd:Value} {xs:List Value} {row:Option Nat} {dead:Option Nat}
  (hg:w.grownBy w' row) (dX:w'.ownsRow w0.base el sz hd n xs)
  (mA:∀ k,row=some k->w0.In k/\∃ r x q,dead=some r/\s.rs[r]?=some x/\x.live/\bh E r k q)
  (jg:∀ k,hd.ownBlock=some k->some k=row∨w.heap.size<=k)
  (MR:∀ i,i<n->∀ j,j<sz->∃ x,xs[i*sz+j]?=some x/\cF (AV ax s.rs E) w (get i j) x) :
  R T N ax w0 sp { s with rs:=kill dead s.rs++[.arr el sz n get] } a w' (E++[(hd.ownBlock,mS hd,sz)]):=by
 have hle:=h.size_le
 let fQ:=kill dead s.rs
 have hlen1:fQ.length=s.rs.length:=by
  simp only [fQ]; cases dead<;>simp [kill]
 have old:∀ (q:Nat) (y:ae),fQ[q]?=some y->y.live->s.rs[q]?=some y/\dead≠some q:=by
  intro q y h1 h2
  simp only [fQ] at h1
  cases dead with
  | some r=>
    simp only [kill] at h1
    rw [jE] at h1
    split at h1
    .rename_i hq
     subst hq
     split at h1
     .cases h1; exact h2.elim
     .simp at h1
    grind
  | none=>exact ⟨h1,by simp⟩
 have hk:aW (AV ax s.rs E) w w':=⟨hg.size,λk hk hn=>hg.block k hk λe=>by
  obtain ⟨_,r,x,q,_,h2,h3,h4⟩:=mA k e.symm
  exact hn (.inr ⟨r,x,q,h2,h3,h4.own⟩)⟩
 have hE:=Env.et E [(hd.ownBlock,mS hd,sz)]
 have hownlt:∀ k,hd.ownBlock=some k->w0.In k/\k<w'.heap.size:=by
  intro k hk
  have hIn:w0.In k:=by
   rcases jg k hk with h1|h1
   .exact (mA k h1.symm).1
   .exact h.below.fresh h1
  rcases dX.2 with ⟨h1,_⟩|⟨g,cap,cur,h1,h2,h3,_⟩
  all_goals grind [Value.ownBlock]
 have key:∀ (q:Nat) (y:ae) (b z:Nat),(fQ++[.arr el sz n get])[q]?=some y->y.live->cM (E++[(hd.ownBlock,mS hd,sz)]) q b z->
   (s.rs[q]?=some y/\dead≠some q/\cM E q b z)∨(q=E.length/\hd.ownBlock=some b):=by
  intro q y b z h1 h2 h3
  rcases kS h3 with h4|⟨h4,h5,_⟩
  .have h4':=h4
   obtain ⟨hh,h4,_⟩:=h4
   have:=(List.getElem?_eq_some_iff.1 h4).1
   rw [h.len,<- hlen1] at this
   grind
  .exact .inr ⟨h4,h5.resolve_right λq=>q⟩
 have eT:∀ b,b<w.heap.size->AV ax (fQ++[.arr el sz n get]) (E++[(hd.ownBlock,mS hd,sz)]) b->AV ax s.rs E b:=by
  refine kJ λq y b z h1 h2 h3 h4=>?_
  rcases key q y b z h1 h2 h3 with ⟨h5,_,h6⟩|⟨_,h6⟩
  .exact .inr ⟨q,y,z,h5,h2,h6⟩
  .rcases jg b h6 with h7|h7
   .obtain ⟨_,r,x,q,_,h8,h9,KW⟩:=mA b h7.symm
    exact .inr ⟨r,x,q,h8,h9,KW.own⟩
   .omega
 have apart:∀ (q:Nat) (y:ae) (b z:Nat),s.rs[q]?=some y->y.live->dead≠some q->cM E q b z->hd.ownBlock≠some b/\row≠some b:=by
  intro q y b z h1 h2 h3 h4
  have hb:=h.cJ q y b z h1 h2 h4
  have hr:row≠some b:=by
   intro e
   obtain ⟨_,r,x,q',h5,h6,h7,h8⟩:=mA b e
   have:=h.dz q r y x b z q' h1 h6 h2 h7 h4 h8.own
   grind
  grind
 refine h.zP (aG:=fQ++[.arr el sz n get]) hE hk (h.below.grown hg.os hg.tape hg.output hg.size λk nG hn=>hg.block k nG λe=>hn (mA k e.symm).1) eT (by simp [hlen1,h.len]) ?_ ?_ ?_
 .intro q y e h1 h2
  rcases Nat.lt_trichotomy q E.length with hr|hr|hr
  .rw [iU (by rw [hlen1,<- h.len]; exact hr)] at h1
   rw [iU hr] at h2
   by_cases hl:y.live
   .obtain ⟨h3,h4⟩:=old q y h1 hl
    refine aO.mono (av:=AV ax s.rs E) hE hk eT (λhl b hb=>?_) (h.roots q y e h3 h2)
    have iL:cM E q b e.2.2:=⟨e,h2,rfl,hb⟩
    exact hg.block b (h.cJ q y b _ h3 hl iL).2 λe=>(apart q y b _ h3 hl h4 iL).2 e.symm
   .cases y with
    | dead=>trivial
    | _=>exact (hl trivial).elim
  .subst hr
   rw [h.len,<- hlen1,nD (bl _)] at h1
   rw [nD (bl _)] at h2
   simp at h1 h2
   subst h1 h2
   refine ⟨rfl,rfl,xs,dX,λi hi j hj=>?_⟩
   grind [cF.mono]
  grind
 .intro q y b z h1 h2 h3
  rcases key q y b z h1 h2 h3 with ⟨h5,_,h6⟩|⟨_,h6⟩
  .have q7:=h.cJ q y b z h5 h2 h6; have:=hg.size; grind
  .exact hownlt b h6
 .intro q q' y y' b z z' h1 nA h2 ic h3 ld
  rcases key q y b z h1 h2 h3 with ⟨h5,h6,h7⟩|⟨h6,h7⟩<;>rcases key q' y' b z' nA ic ld with ⟨h5',h6',h7'⟩|⟨h6',h7'⟩
  .exact h.dz q q' y y' b z z' h5 h5' h2 ic h7 h7'
  all_goals grind
theorem Kt (h:R T N ax w0 sp s a w E) {src:D} {vs:Value} {sz k:Nat} {get':Nat->Nat->I} (hs:WW s.rs src=some (sz,k,get')) (hr:aQ E (AV ax s.rs E) w src vs) :
  ∃ ao cap,vs=.slice ao k cap/\(ao=none->k=0)/\∃ news:List Value,news.length=k*sz/\(∀ ad,ao=some ad->∀ j u,news[j]?=some u->w.cell? (ad.add j)=some u)/\(∀ u∈news,u.oneCell'=true)/\
   ∀ i,i<k->∀ j,j<sz->∃ x,news[i*sz+j]?=some x/\cF (AV ax s.rs E) w (get' i j) x:=by
 unfold WW at hs
 split at hs
 .rename_i cL k' g'
  simp only [au,bs] at hs
  obtain ⟨rfl,rfl,rfl⟩:=hs
  obtain ⟨ao,cap,rfl,hn,hm,hc⟩:=hr
  rcases Nat.eq_zero_or_pos k' with h0|h0
  .simp_all
  .obtain ⟨ad,rfl,hsp,h1,h2,hc⟩:=hc h0
   rcases Nat.eq_zero_or_pos cL with hz|hz
   .simp_all
   .obtain ⟨f,hf⟩:=kq (n:=k'*cL) (Q:=λq x=>w.cell? (ad.add q)=some x/\cF (AV ax s.rs E) w (g' (q/cL) (q%cL)) x) (λq hq=>by
     obtain ⟨x,h3,h4⟩:=hc (q/cL) (Nat.div_lt_of_lt_mul (by grind)) (q%cL) (Nat.mod_lt _ hz)
     grind [Nat.div_add_mod])
    have hget:∀ j u,((List.range (k'*cL)).map f)[j]?=some u->j<k'*cL/\u=f j:=by
     grind
    refine ⟨some ad,cap,rfl,λe=>(by simp at e),(List.range (k'*cL)).map f,by simp,?_,?_,?_⟩
    .grind
    .grind [cF.one]
    .intro i hi j hj
     have eG:i*cL+j<k'*cL:=by
      have:=gP cL (show i+1<=k' by omega)
      grind
     grind
 .rename_i q k'
  split at hs
  case h_2=>simp at hs
  rename_i el cL n g' hl
  rw [bg] at hl
  simp only [au,bs] at hs
  obtain ⟨rfl,rfl,rfl⟩:=hs
  obtain ⟨e,ao,n',cap,h1,h2,h3,rfl⟩:=hr
  obtain ⟨q1,q2,xs,q3,q4⟩:=h.roots q _ _ hl h1
  have hxl:=q3.1
  rcases q3.2 with ⟨q5,q6⟩|⟨g,cap',cur,q5,q6,q7,q8,q9,q10,q11⟩
  .rw [h2] at q5
   simp_all
  .rw [h2] at q5
   simp only [iP] at q5
   obtain ⟨rfl,rfl,rfl⟩:=q5
   have XO:k'*cL<=n'*cL:=gP _ h3
   refine ⟨_,cap,rfl,λe=>(by simp at e),xs.take (k'*cL),by grind,?_,?_,?_⟩
   .grind [Addr.add_mid,cC]
   .intro u hu
    obtain ⟨j,hj⟩:=List.mem_iff_getElem?.1 hu
    have hj':j<k'*cL:=by
     grind
    have hz:0<cL:=by
     grind
    rw [me,if_pos hj'] at hj
    obtain ⟨x,h5,h6⟩:=q4 (j/cL) (by have:=Nat.div_lt_of_lt_mul (show j<cL*k' by grind); omega) (j%cL) (Nat.mod_lt _ hz)
    grind [Nat.div_add_mod,cF.one]
   .intro i hi j hj
    obtain ⟨x,h5,h6⟩:=q4 i (by omega) j hj
    have eG:i*cL+j<k'*cL:=by
     have:=gP cL (show i+1<=k' by omega)
     grind
    grind
 .simp at hs
theorem fC {t el:TypeId} {y0 y:Ty} (sf:b6 P t y0) (hk:y0.kd=.slice el) (hy:b6 P el y) (fw:0<y.size) {base n m:Nat} {v:Value} {xs news:List Value} (dX:w.ownsRow base el y.size v n xs) (ZY:base<=w.heap.size)
  {ao:Option Addr} {cap:Nat} (sZ:ao=none->m=0) (hl:news.length=m*y.size) (hc:∀ ad,ao=some ad->∀ j u,news[j]?=some u->w.cell? (ad.add j)=some u) (h1:∀ u∈news,u.oneCell'=true) (hr:room (n+m) y.bytes) (ty:TypeId) :
  ∃ v' w',(Builtin.append_ #[t,t] ty #[v,.slice ao m cap]).run P w=.ok v' w'/\w'.ownsRow base el y.size v' (n+m) (xs++news)/\w.grownBy w' v.ownBlock/\(∀ k,v'.ownBlock=some k->some k=v.ownBlock∨w.heap.size<=k):=by
 obtain ⟨i,hi,hisz,hib,hiz⟩:=hy.full
 cases ao with
 | none=>
   have hm:=sZ rfl
   subst hm
   have hn:news=[]:=List.eq_nil_of_length_eq_zero (by simpa using hl)
   subst hn
   refine ⟨v,w,?_,by simpa using dX,⟨rfl,rfl,rfl,bl _,λ_ _ _=>rfl⟩,λk hk=>.inl hk.symm⟩
   rcases dX.2 with ⟨rfl,rfl⟩|⟨g,cap',cur,rfl,_,_,UM,_⟩
   .simp [Builtin.append_,run_underlying (sf.slice hk),sizeOf,typeInfo,hi,Builtin.lenOf,Builtin.firstCells]
   .simp [Builtin.append_,run_underlying (sf.slice hk),sizeOf,typeInfo,hi,Builtin.lenOf,Builtin.firstCells,UM,storeCells]
 | some ad=>
   obtain ⟨v',w',h2,h3,h4,_,h5⟩:=run_append_own_at (P:=P) (w:=w) base t ty el i y.zero y.size y.bytes (sf.slice hk) hi hiz hisz hib hy.zs fw v n xs dX ad m cap news hl (hc ad rfl) h1 hr.1 hr.2 ZY
   grind
end
open Go.RowKit
section
variable {P:Program} {T:dk} {N:Nat} {ax:Nat->Prop} {w0:Kp} {sp:List (D×Value)} {s:VS} {a:Act} {w:World} {E:Env}
structure jM (cG:Nat->Prop) (ax:Nat->Prop) (s:VS) (E:Env):Prop where
 le:∀ b,cG b->AV ax s.rs E b
 ZB:∀ (r:Nat) (x:ae) (b sz:Nat),s.rs[r]?=some x->x.live->cM E r b sz->¬ cG b
theorem jM.no {cG ax:Nat->Prop} {s:VS} {E:Env} (h:jM cG ax s E) (r:Nat) (x:ae) (b sz:Nat) (h1:s.rs[r]?=some x) (h2:x.live) (h3:bh E r b sz):¬ cG b:=h.ZB r x b sz h1 h2 h3.own
theorem HL {cG:Nat->Prop} {base:Nat} {w:World} {el sz n m:Nat} {ao:Option Addr} {n' cap:Nat} {xs:List Value} {get:Nat->Nat->I} (h:w.ownsRow base el sz (.slice ao n' cap) n xs) (hm:m<=n') (sZ:∀ b,(Value.slice ao n' cap).ownBlock=some b->¬ cG b)
  (hc:∀ i,i<m->∀ j,j<sz->∃ x,xs[i*sz+j]?=some x/\cF cG w (get i j) x):cF cG w (.sl sz m get) (.slice ao m cap):=by
 rcases h.2 with ⟨q5,q6⟩|⟨g,cap',cur,q5,q6,q7,q8,q9,q10,q11⟩
 .simp only [iP] at q5
  obtain ⟨rfl,rfl,rfl⟩:=q5
  have:m=0:=by omega
  subst this
  exact ⟨none,0,rfl,by omega,by omega,λh0=>by omega⟩
 .simp only [iP] at q5
  obtain ⟨rfl,rfl,rfl⟩:=q5
  refine ⟨_,cap,rfl,by omega,by omega,λ_=>⟨_,rfl,rfl,sZ g rfl,(Array.getElem?_eq_some_iff.1 q7).1,λi hi j hj=>?_⟩⟩
  grind [Addr.add_mid,cC]
theorem cS {base el sz n:Nat} {v:Value} {w:World} {xs:List Value} (h:w.ownsRow base el sz v n xs):∃ ao cap,v=.slice ao n cap:=by
 rcases h.2 with ⟨q5,q6⟩|⟨g,cap',cur,q5,_⟩
 all_goals grind
theorem XX {av cG:Nat->Prop} {base:Nat} {w:World} (ha:∀ b,cG b->av b):∀ {x:O} {K:Nat->Prop} {v:Value},(∀ b,K b->¬ cG b)->fO av base w x K v->cF cG w (oI x) v:=by
 intro x
 induction x with
 | im x=>intro K v _ h; exact cF.mono (aW.refl _ w) (λb _ q=>ha b q) h
 | ar el sz n get=>
   rintro K v hK ⟨h0,xs,h1,h2⟩
   obtain ⟨ao,cap,rfl⟩:=cS h1
   exact HL h1 (bl _) (λb q=>hK b (h0 b q)) λi hi j hj=>by
    obtain ⟨x,q1,q2⟩:=h2 i hi j hj
    exact ⟨x,q1,cF.mono (aW.refl _ w) (λb _ q=>ha b q) q2⟩
 | ns el sz n get ih=>
   rintro K v hK ⟨h0,xs,h1,Ks,hp,h2⟩
   obtain ⟨ao,cap,rfl⟩:=cS h1
   exact HL (get:=λi j=>oI (get i j)) h1 (bl _) (λb q=>hK b (h0 b q)) λi hi j hj=>by
    obtain ⟨x,q1,q2⟩:=h2 i hi j hj
    exact ⟨x,q1,ih i j (λb q=>hK b (hp.sub i j b q)) q2⟩
theorem QF {E:Env} {av cG:Nat->Prop} {base:Nat} {w:World} {e:fJ} {el sz n m:Nat} {get:Nat->Nat->O} (hr:aO E av base w e (.bL el sz n get none)) (ha:∀ b,cG b->av b) (sZ:∀ b,e.has b->¬ cG b) {ao:Option Addr} {n' cap:Nat} (h2:e.2.1.1=.slice ao n' cap) (hm:m<=n') :
  cF cG w (.sl sz m λi j=>oI (get i j)) (.slice ao m cap):=by
 obtain ⟨q1,q2,xs,q3,Ks,hp,_,q4⟩:=hr
 rw [h2] at q3 q2
 have hn:n'=n:=by
  grind [cS]
 subst hn
 refine HL q3 hm (λb q=>sZ b (.inl (q2.trans q))) λi hi j hj=>?_
 obtain ⟨x,c,h3,h4,h5⟩:=q4 i (by omega) j hj
 simp only [fR,au] at h4
 subst h4
 exact ⟨x,h3,XX ha (λb q=>sZ b (.inr (hp.sub i j b q))) h5⟩
theorem jM.none (ax:Nat->Prop) (s:VS) (E:Env):jM (λ_=>False) ax s E:=⟨λ_ h=>h.elim,λ_ _ _ _ _ _ _ h=>h⟩
theorem jM.outer (h:R T N ax w0 sp s a w E):jM ax ax s E:=⟨λ_ h=>.inl h,λr x b sz h1 h2 h3 h4=>by
 have q:=(h.cJ r x b sz h1 h2 h3).1
 have:=h.outer b h4
 exact this.2 (q.own this.1)⟩
theorem rJ {α β γ:Type} {f:α->Option β} {Ra:α->γ->Prop} {Rb:β->γ->Prop} (h:∀ x y v,f x=some y->Ra x v->Rb y v):∀ {l:List α} {r:List β} {vs:List γ},qe f l=some r->az Ra l vs->az Rb r vs
 | [],r,vs,e,hv=>by cases hv; simp [qe] at e; subst e; exact .nil
 | x::l,r,vs,e,hv=>by
   cases hv with
   | cons q1 q2=>
     simp only [qe] at e
     split at e
     .rename_i y r' h1 h2
      simp only [au] at e
      subst e
      exact .cons (h _ _ _ h1 q1) (rJ h h2 q2)
     .simp at e
theorem gY (h:R T N ax w0 sp s a w E) {cG:Nat->Prop} (ha:jM cG ax s E) {rec:List C->Option (List I)} (rG:∀ l r vs,rec l=some r->az (a7 E (AV ax s.rs E) w) l vs->az (cF cG w) r vs)
  {q:Nat} {x:I} (e:jG s.rs q rec=some x) {b sz:Nat} (hq:bh E q b sz):cF cG w x (.pointer (some ⟨b,0,none⟩)):=by
 unfold jG at e
 split at e
 case h_2=>simp at e
 rename_i l hl
 rw [bg] at hl
 split at e
 case h_2=>simp at e
 rename_i is his
 simp only [au] at e
 subst e
 obtain ⟨hh,hE⟩:=hq
 obtain ⟨b',cs,Tc,q1,q2,q3,q4⟩:=h.roots q _ _ hl hE
 simp only [au] at q1
 subst q1
 have hi:=rG l is _ his q4
 refine ⟨⟨b,0,none⟩,rfl,rfl,ha.no q _ b sz hl trivial ⟨hh,hE⟩,(Array.getElem?_eq_some_iff.1 q3).1,λj hj=>?_⟩
 grind [oi,Addr.add_mid,cC]
theorem wN (h:R T N ax w0 sp s a w E) {cG:Nat->Prop} (ha:jM cG ax s E) {rec:List C->Option (List I)} (rG:∀ l r vs,rec l=some r->az (a7 E (AV ax s.rs E) w) l vs->az (cF cG w) r vs)
  (c:C) (x:I) (v:Value) (e:mG s.rs rec c=some x) (hv:a7 E (AV ax s.rs E) w c v):cF cG w x v:=by
 have hk:∀ {x:I} {v:Value},cF (AV ax s.rs E) w x v->cF cG w x v:=λq=>cF.mono (aW.refl _ w) (λb _ hb=>ha.le b hb) q
 unfold mG at e
 split at e
 .simp only [au] at e
  subst e
  exact hk hv
 .obtain ⟨b,sz,h1,rfl⟩:=hv
  have:=gY h ha rG e h1
  simpa using this
 .rename_i q m
  split at e
  .rename_i el sz n get hl
   rw [bg] at hl
   simp only [au] at e
   subst e
   obtain ⟨e',ao,n',cap,h1,h2,h3,rfl⟩:=hv
   obtain ⟨q1,q2,xs,q3,q4⟩:=h.roots q _ _ hl h1
   rcases q3.2 with ⟨q5,q6⟩|⟨g,cap',cur,q5,q6,q7,q8,q9,q10,q11⟩
   .rw [h2] at q5
    simp only [iP] at q5
    obtain ⟨rfl,rfl,rfl⟩:=q5
    exact ⟨none,0,rfl,by omega,by omega,λh0=>by omega⟩
   .rw [h2] at q5
    simp only [iP] at q5
    obtain ⟨rfl,rfl,rfl⟩:=q5
    have iL:bh E q g e'.2.2:=by
     obtain ⟨e1,e2,e3⟩:=e'
     have h2:e2.1=_:=h2
     have q2:e1=e2.1.ownBlock:=q2
     rw [h2] at q2
     exact ⟨e2,by rw [h1,q2]; rfl⟩
    refine ⟨_,cap,rfl,by omega,by omega,λ_=>⟨_,rfl,rfl,ha.no q _ g _ hl trivial iL,(Array.getElem?_eq_some_iff.1 q7).1,λi hi j hj=>?_⟩⟩
    obtain ⟨x,h5,h6⟩:=q4 i (by omega) j hj
    grind [Addr.add_mid,cC]
  .rename_i el sz n l hl
   rw [bg] at hl
   split at e
   case h_2=>simp at e
   rename_i l' uR
   obtain ⟨rfl,hlen⟩:=l7 _ _ _ uR
   split at e
   case h_2=>simp at e
   rename_i is his
   simp only [au] at e
   subst e
   obtain ⟨e',ao,n',cap,h1,h2,h3,rfl⟩:=hv
   obtain ⟨q1,q2,xs,q3,q4⟩:=h.roots q _ _ hl h1
   have hi:=rG _ _ _ his (q4.take (m*sz))
   have hil:=hi.length
   have hxs:is.length=m*sz:=by rw [hil,List.length_take,<- q4.length]; omega
   rcases q3.2 with ⟨q5,q6⟩|⟨g,cap',cur,q5,q6,q7,q8,q9,q10,q11⟩
   .rw [h2] at q5
    simp only [iP] at q5
    obtain ⟨rfl,rfl,rfl⟩:=q5
    exact ⟨none,0,rfl,by omega,by omega,λh0=>by omega⟩
   .rw [h2] at q5
    simp only [iP] at q5
    obtain ⟨rfl,rfl,rfl⟩:=q5
    have iL:bh E q g e'.2.2:=by
     obtain ⟨e1,e2,e3⟩:=e'
     have h2:e2.1=_:=h2
     have q2:e1=e2.1.ownBlock:=q2
     rw [h2] at q2
     exact ⟨e2,by rw [h1,q2]; rfl⟩
    refine ⟨_,cap,rfl,by omega,by omega,λ_=>⟨_,rfl,rfl,ha.no q _ g _ hl trivial iL,(Array.getElem?_eq_some_iff.1 q7).1,λi gI j hj=>?_⟩⟩
    have eG:i*sz+j<m*sz:=by
     have:=gP sz (show i+1<=m by omega)
     grind
    obtain ⟨x,h5,h6⟩:=oi hi (q:=i*sz+j) (by omega)
    refine ⟨x,?_,h6⟩
    grind [Addr.add_mid,cC]
  .rename_i el sz n get hl
   rw [bg] at hl
   simp only [au] at e
   subst e
   obtain ⟨e',ao,n',cap,h1,h2,h3,rfl⟩:=hv
   exact QF (h.roots q _ _ hl h1) ha.le (λb hb=>ha.ZB q _ b e'.2.2 hl trivial ⟨e',h1,rfl,hb⟩) h2 h3
  .simp at e
 .rename_i q
  split at e
  case h_2=>simp at e
  rename_i l hl
  rw [bg] at hl
  simp only [au] at e
  subst e
  obtain ⟨b,sz,⟨hh,h1⟩,rfl⟩:=hv
  obtain ⟨b',es,clock,q1,q2,q3⟩:=h.roots q _ _ hl h1
  have q1:some b=some b':=q1
  simp only [au] at q1
  subst q1
  exact ⟨b,es,clock,rfl,ha.no q _ b sz hl trivial ⟨hh,h1⟩,q2,q3⟩
 .simp only [au] at e
  subst e
  obtain ⟨vs,rfl,h1⟩:=hv
  refine ⟨vs,rfl,?_,λj hj=>by omega⟩
  have:=h1.length
  simpa using this.symm
 .rename_i f q
  split at e
  case h_2=>simp at e
  rename_i x hx
  simp only [au] at e
  subst e
  obtain ⟨vs,rfl,h1⟩:=hv
  have hlen:=h1.length
  obtain ⟨u,hu,b,sz,h2,rfl⟩:=h1.nth (i:=0) (x:=q) rfl
  refine ⟨vs,rfl,by simpa using hlen.symm,λj hj=>?_⟩
  have:j=0:=by omega
  subst this
  exact ⟨_,by simpa using hu,gY h ha rG hx h2⟩
 .rename_i f q q'
  split at e
  case h_2=>simp at e
  rename_i x y hx hy
  simp only [au] at e
  subst e
  obtain ⟨vs,rfl,h1⟩:=hv
  have hlen:=h1.length
  obtain ⟨u,hu,b,sz,h2,rfl⟩:=h1.nth (i:=0) (x:=q) rfl
  obtain ⟨u',hu',b',cL,ic,rfl⟩:=h1.nth (i:=1) (x:=q') rfl
  refine ⟨vs,rfl,by simpa using hlen.symm,λj hj=>?_⟩
  rcases (show j=0∨j=1 by omega) with rfl|rfl
  .exact ⟨_,by simpa using hu,gY h ha rG hx h2⟩
  .exact ⟨_,by simpa using hu',gY h ha rG hy ic⟩
 .rename_i f q q' q''
  split at e
  case h_2=>simp at e
  rename_i x y z hx hy hz
  simp only [au] at e
  subst e
  obtain ⟨vs,rfl,h1⟩:=hv
  have hlen:=h1.length
  obtain ⟨u,hu,b,sz,h2,rfl⟩:=h1.nth (i:=0) (x:=q) rfl
  obtain ⟨u',hu',b',cL,ic,rfl⟩:=h1.nth (i:=1) (x:=q') rfl
  obtain ⟨u'',hu'',b'',sz'',h2'',rfl⟩:=h1.nth (i:=2) (x:=q'') rfl
  refine ⟨vs,rfl,by simpa using hlen.symm,λj hj=>?_⟩
  rcases (show j=0∨j=1∨j=2 by omega) with rfl|rfl|rfl
  .exact ⟨_,by simpa using hu,gY h ha rG hx h2⟩
  .exact ⟨_,by simpa using hu',gY h ha rG hy ic⟩
  .exact ⟨_,by simpa using hu'',gY h ha rG hz h2''⟩
 .simp at e
theorem lQ (h:R T N ax w0 sp s a w E) {cG:Nat->Prop} (ha:jM cG ax s E):∀ (k:Nat) (l:List C) (r:List I) (vs:List Value),reify k s.rs l=some r->az (a7 E (AV ax s.rs E) w) l vs->az (cF cG w) r vs
 | 0,l,r,vs,e,hv=>rJ (λc x v=>wN h ha (λ_ _ _ q=>by simp at q) c x v) e hv
 | k+1,l,r,vs,e,hv=>rJ (λc x v=>wN h ha (λl r vs=>lQ h ha k l r vs) c x v) e hv
theorem w5 (h:R T N ax w0 sp s a w E) {cG:Nat->Prop} (ha:jM cG ax s E) {E':Env}:∀ {l r:List (Bool×List C)} {vs:List Value},dg.reifyT s.rs l=some r->
  az (λ(x:Bool×List C) y=>match x with
   | (true,l)=>∃ cs:Array Value,y=.agg cs/\az (a7 E (AV ax s.rs E) w) l cs.toList
   | (false,l)=>∃ c,l=[c]/\a7 E (AV ax s.rs E) w c y) l vs->
  az (λ(x:Bool×List C) y=>match x with
   | (true,l)=>∃ cs:Array Value,y=.agg cs/\az (a7 E' cG w) l cs.toList
   | (false,l)=>∃ c,l=[c]/\a7 E' cG w c y) r vs
 | [],r,vs,e,hv=>by cases hv; simp [dg.reifyT] at e; subst e; exact .nil
 | (b,l)::m,r,vs,e,hv=>by
   cases hv with
   | cons q1 q2=>
     simp only [dg.reifyT] at e
     split at e
     .rename_i x y h1 h2
      simp only [au] at e
      subst e
      refine .cons ?_ (w5 h ha h2 q2)
      cases b with
      | true=>
        grind [Bk,lQ]
      | false=>
        obtain ⟨c,rfl,q3⟩:=q1
        have:=lQ h ha 6 [c] x _ h1 (.cons q3 .nil)
        cases this with
        | cons q4 q5=>cases q5; exact ⟨_,rfl,q4⟩
     .simp at e
theorem qb (h:R T N ax w0 sp s a w E) {cG:Nat->Prop} (ha:jM cG ax s E) {E':Env} {d d':D} {v:Value} (e:dg s.rs d=some d') (hv:aQ E (AV ax s.rs E) w d v):aQ E' cG w d' v:=by
 cases d with
 | c x=>
   simp only [dg] at e
   split at e
   .rename_i y hy
    simp only [au] at e
    subst e
    have:=lQ h ha 6 [x] [y] _ hy (.cons hv .nil)
    cases this with
    | cons q1 q2=>exact q1
   .simp at e
 | a l=>
   simp only [dg] at e
   split at e
   .rename_i r hr
    simp only [au] at e
    subst e
    obtain ⟨cs,rfl,h1⟩:=hv
    exact ⟨cs,rfl,Bk (lQ h ha 6 l r _ hr h1)⟩
   .simp at e
 | t l=>
   simp only [dg] at e
   split at e
   .rename_i r hr
    simp only [au] at e
    subst e
    obtain ⟨vs,rfl,h1⟩:=hv
    exact ⟨vs,rfl,w5 h ha hr h1⟩
   .simp at e
theorem oc (h:R T N ax w0 sp s a w E) {cG:Nat->Prop} (ha:jM cG ax s E) {E':Env}:∀ {ds is:List D} {vs:List Value},cQ s.rs ds=some is->az (aQ E (AV ax s.rs E) w) ds vs->az (aQ E' cG w) is vs
 | [],is,vs,e,hv=>by cases hv; simp [cQ] at e; subst e; exact .nil
 | d::ds,is,vs,e,hv=>by
   cases hv with
   | cons q1 q2=>
     simp only [cQ] at e
     split at e
     .rename_i x r h1 h2
      simp only [au] at e
      subst e
      exact .cons (qb h ha h1 q1) (oc h ha h2 q2)
     .simp at e
theorem lS {E E':Env} {av:Nat->Prop} {w:World}:∀ {l:List C} {vs:List Value},fj l=true->az (a7 E av w) l vs->az (a7 E' av w) l vs
 | [],vs,_,hv=>by cases hv; exact .nil
 | c::l,vs,hp,hv=>by
   cases hv with
   | cons q1 q2=>
     cases c with
     | im x=>exact .cons q1 (lS (by simpa [fj] using hp) q2)
     | _=>simp [fj] at hp
theorem yX {E E':Env} {av:Nat->Prop} {w:World} {d:D} {v:Value} (hp:l3 d=true) (hv:aQ E av w d v):aQ E' av w d v:=by
 cases d with
 | c x=>
   have:=lS (E':=E') (l:=[x]) hp (.cons (hv:a7 E av w x v) .nil)
   cases this with|cons q _=>exact q
 | a l=>obtain ⟨cs,rfl,h⟩:=hv; exact ⟨cs,rfl,lS hp h⟩
 | t l=>
   obtain ⟨vs,rfl,h⟩:=hv
   refine ⟨vs,rfl,?_⟩
   simp only [l3,List.all_eq_true] at hp
   have:∀ {l:List (Bool×List C)} {ws:List Value},(∀ x∈l,fj x.2=true)->az (λ(x:Bool×List C) y=>match x with
    | (true,l)=>∃ cs:Array Value,y=.agg cs/\az (a7 E av w) l cs.toList
    | (false,l)=>∃ c,l=[c]/\a7 E av w c y) l ws->az (λ(x:Bool×List C) y=>match x with
    | (true,l)=>∃ cs:Array Value,y=.agg cs/\az (a7 E' av w) l cs.toList
    | (false,l)=>∃ c,l=[c]/\a7 E' av w c y) l ws:=by
    intro l ws hl hw
    induction hw with
    | nil=>exact .nil
    | cons q _ ih=>
      refine .cons ?_ (ih λx hx=>hl x (fL _ hx))
      rename_i x y l' m' _
      have hx:=hl x (jl ..)
      obtain ⟨b,k⟩:=x
      cases b with
      | true=>grind [lS]
      | false=>
        obtain ⟨c,hc,q⟩:=q
        have hc:k=[c]:=hc
        subst hc
        have:=lS (E':=E') (l:=[c]) hx (.cons q .nil)
        cases this with|cons q _=>exact ⟨c,rfl,q⟩
   exact this hp h
theorem ja {E E':Env} {av cG:Nat->Prop} {w w':World}:∀ {l:List C} {vs:List Value},eI l=true->az (a7 E av w) l vs->az (a7 E' cG w') l vs
 | [],vs,_,hv=>by cases hv; exact .nil
 | c::l,vs,hp,hv=>by
   cases hv with
   | cons q1 q2=>
     cases c with
     | im x=>
       cases x with
       | v x=>exact .cons q1 (ja (by simpa [eI] using hp) q2)
       | _=>simp [eI] at hp
     | _=>simp [eI] at hp
theorem He {E E':Env} {av cG:Nat->Prop} {w w':World} {d:D} {v:Value} (hp:gT d=true) (hv:aQ E av w d v):aQ E' cG w' d v:=by
 cases d with
 | c x=>
   have:=ja (E':=E') (cG:=cG) (w':=w') (l:=[x]) hp (.cons (hv:a7 E av w x v) .nil)
   cases this with|cons q _=>exact q
 | a l=>obtain ⟨cs,rfl,h⟩:=hv; exact ⟨cs,rfl,ja hp h⟩
 | t l=>
   obtain ⟨vs,rfl,h⟩:=hv
   refine ⟨vs,rfl,?_⟩
   simp only [gT,List.all_eq_true] at hp
   have:∀ {l:List (Bool×List C)} {ws:List Value},(∀ x∈l,eI x.2=true)->az (λ(x:Bool×List C) y=>match x with
    | (true,l)=>∃ cs:Array Value,y=.agg cs/\az (a7 E av w) l cs.toList
    | (false,l)=>∃ c,l=[c]/\a7 E av w c y) l ws->az (λ(x:Bool×List C) y=>match x with
    | (true,l)=>∃ cs:Array Value,y=.agg cs/\az (a7 E' cG w') l cs.toList
    | (false,l)=>∃ c,l=[c]/\a7 E' cG w' c y) l ws:=by
    intro l ws hl hw
    induction hw with
    | nil=>exact .nil
    | cons q _ ih=>
      refine .cons ?_ (ih λx hx=>hl x (fL _ hx))
      rename_i x y l' m' _
      have hx:=hl x (jl ..)
      obtain ⟨b,k⟩:=x
      cases b with
      | true=>grind [ja]
      | false=>
        obtain ⟨c,hc,q⟩:=q
        have hc:k=[c]:=hc
        subst hc
        have:=ja (E':=E') (cG:=cG) (w':=w') (l:=[c]) hx (.cons q .nil)
        cases this with|cons q _=>exact ⟨c,rfl,q⟩
   exact this hp h
theorem xO {rs:List ae} {rec:List C->Option (List I)}:∀ {l:List C} {is:List I},fj l=true->qe (mG rs rec) l=some is->l=lift is
 | [],is,_,e=>by simp [qe] at e; subst e; rfl
 | c::l,is,hp,e=>by
   cases c with
   | im x=>
     simp only [qe,mG] at e
     split at e
     .rename_i y r h1 h2
      simp only [au] at h1 e
      subst h1 e
      rw [xO (by simpa [fj] using hp) h2]
      rfl
     .simp at e
   | _=>simp [fj] at hp
theorem oz {rs:List ae} {l:List C} {is:List I} (hp:fj l=true) (e:reify 6 rs l=some is):l=lift is:=xO hp e
theorem uA {rs:List ae}:∀ {l r:List (Bool×List C)},(∀ x∈l,fj x.2=true)->dg.reifyT rs l=some r->r=l
 | [],r,_,e=>by simp [dg.reifyT] at e; exact e
 | (b,l)::m,r,hp,e=>by
   simp only [dg.reifyT] at e
   split at e
   .rename_i x y h1 h2
    simp only [au] at e
    subst e
    rw [uA (λx hx=>hp x (fL _ hx)) h2,<- oz (hp (b,l) (jl ..)) h1]
   .simp at e
theorem ES {rs:List ae} {d d':D} (hp:l3 d=true) (e:dg rs d=some d'):d'=d:=by
 cases d with
 | c x=>
   simp only [dg] at e
   split at e
   .rename_i y hy
    simp only [au] at e
    subst e
    have:=oz hp hy
    grind [lift]
   .simp at e
 | a l=>
   simp only [dg] at e
   split at e
   .rename_i r hr
    simp only [au] at e
    subst e
    rw [<- oz hp hr]
   .simp at e
 | t l=>
   grind [dg,uA,l3]
theorem iq {rs:List ae} {E E':Env} {av:Nat->Prop} {w:World}:∀ {ds is:List D} {vs:List Value},eU ds=true->cQ rs ds=some is->az (aQ E av w) ds vs->az (aQ E' av w) is vs
 | [],is,vs,_,e,hv=>by cases hv; simp [cQ] at e; subst e; exact .nil
 | d::ds,is,vs,hp,e,hv=>by
   simp only [eU] at hp
   split at hp
   .rename_i h0
    cases hv with
    | cons q1 q2=>
      simp only [cQ] at e
      split at e
      .rename_i x r h1 h2
       simp only [au] at e
       subst e
       rw [ES h0 h1]
       exact .cons (yX h0 q1) (iq hp h2 q2)
      .simp at e
   .simp at hp
end
open Go.RowKit
def Enters (P:Program) (f:FuncId):Prop:=∃ fn,P.funcs[f]?=some fn/\(fn.name == "runtime.NumGoroutine")=false/\fn.body.isNone=false
def EN (T:dk) (P:Program) (f:FuncId) (ds:List D) (d:D):Prop:=∀ (av:Nat->Prop) (w:World) (vs:List Value),(∀ b,av b->b<w.heap.size)->pG T av w->az (aQ [] av w) ds vs->
 Go.Calls P f vs.toArray w λe w'=>∃ v,e=.returned v/\aQ [] av w' d v/\Below w.heap.size w w'
def xi (P:Program) (l:Nat) (f:FuncId) (tm:Array Value) (as bd:Code) (w:World) (Rr:Value->World->Prop):Prop:=
 ∀ (c:Frame) (cs:List Frame),∃ v w',Rr v w'/\Steps P (lone (Frame.round l f tm as bd .normal) (c::cs) w) (lone (c.finish v) cs w')
inductive Yt (P:Program) (Y:Bool) (o:Oper) (a:Act) (w:World) (next:Act->World->Prop):Prop
 | value (v:Value) (w':World) (hd:∀ c,o.op ≠ .defer c) (hr:(execOp a.eval o).run P w=.ok (.value v) w') (hn:next (a.put o.dst v) w')
 | skip (w':World) (hd:∀ c,o.op ≠ .defer c) (hr:(execOp a.eval o).run P w=.ok .skip w') (hn:next (a.put o.dst undef) w')
 | enter (f:FuncId) (args:Array Value) (w':World) (hd:∀ c,o.op ≠ .defer c) (hr:(execOp a.eval o).run P w=.ok (.enter f args) w')
   (hc:Go.Calls P f args w' λe w''=>∃ v,e=.returned v/\next (a.put o.dst v) w'')
 | round (hY:Y=true) (l:Nat) (f:FuncId) (tm:Array Value) (as bd:Code) (w':World) (hd:∀ c,o.op ≠ .defer c) (hr:(execOp a.eval o).run P w=.ok (.round l f tm as bd) w')
   (hc:xi P l f tm as bd w' λv w''=>next (a.put o.dst v) w'')
structure T6 (T:dk) (P:Program) (X3:Cal):Prop where
 YF:∀ f ds p d,X3.YF f ds=some (p,d)->Enters P f/\(need p->EN T P f ds d)
 eff:∀ f ds rs p d aG,X3.eff f ds rs=some (p,d,aG)->Enters P f/\(need p->∀ (N:Nat) (ax:Nat->Prop) (w0:Kp) (sp:List (D×Value)) (sl:aL) (df:List Nat) (a:Act) (w:World) (E:Env) (vs:List Value),R T N ax w0 sp ⟨sl,rs,df⟩ a w E->az (aQ E (AV ax rs E) w) ds vs->
  Go.Calls P f vs.toArray w λe w'=>∃ v E',e=.returned v/\R T N ax w0 sp ⟨sl,aG,df⟩ a w' E'/\aQ E' (AV ax aG E') w' d v)
 PD:∀ r ds rs p d aG,X3.PD r ds rs=some (p,d,aG)->need p->∀ (N:Nat) (ax:Nat->Prop) (w0:Kp) (sp:List (D×Value)) (sl:aL) (df:List Nat) (a:Act) (w:World) (E:Env) (vs:List Value),R T N ax w0 sp ⟨sl,rs,df⟩ a w E->az (aQ E (AV ax rs E) w) ds vs->
  ∃ b sz f tm as bd,bh E r b sz/\(Instr.yield b vs.toArray).run P w=.ok (.round b f tm as bd) w/\
   xi P b f tm as bd w λv w'=>∃ E',R T N ax w0 sp ⟨sl,aG,df⟩ a w' E'/\aQ E' (AV ax aG E') w' d v
section
variable {P:Program} {T:dk} {X3:Cal} {N:Nat} {ax:Nat->Prop} {w0:Kp} {sp:List (D×Value)} {s:VS} {a:Act} {w:World} {E:Env}
theorem yZ {f:FuncId} (h:Enters P f) (args:Array Value) (w:World):(callFunc f args).run P w=.ok (.enter f args) w:=by
 obtain ⟨fn,h1,h2,h3⟩:=h
 have ic:¬ fn.name = "runtime.NumGoroutine" := by simpa using h2
 have ld:¬ fn.body=none:=by intro q; simp [q] at h3
 simp [callFunc,program,Sem.run,h1,ic,ld]
theorem QL (hc:T6 T P X3) (h:R T N ax w0 sp s a w E) {f:FuncId} {ds is:List D} {p:Option Prop} {d:D} (hi:cQ s.rs ds=some is) (hp:X3.YF f is=some (p,d)) (yo:need p)
  (hs:(eU ds||gT d)=true) (hd:l3 d=true) {vs:List Value} (hv:az (aQ E (AV ax s.rs E) w) ds vs) :
  Go.Calls P f vs.toArray w λe w'=>∃ v,e=.returned v/\Below w.heap.size w w'/\aQ E (AV ax s.rs E) w' d v:=by
 have avlt:∀ b,AV ax s.rs E b->b<w.heap.size:=by
  rintro b (q|⟨r,x,sz,h1,h2,h3⟩)
  .exact h.jr q
  .exact (h.cJ r x b sz h1 h2 h3).2
 by_cases hpd:gT d=true
 .refine ((hc.YF f is p d hp).2 yo (λ_=>False) w vs (λ_ q=>q.elim) (h.fS.mono (aW.refl _ w) (λ_ _ q=>q.elim)) (oc h (jM.none ax s E) hi hv)).mono ?_
  grind [He]
 .have hpu:eU ds=true:=by simpa [hpd] using hs
  refine ((hc.YF f is p d hp).2 yo (AV ax s.rs E) w vs avlt h.fS (iq hpu hi hv)).mono ?_
  grind [yX]
theorem R.grown (h:R T N ax w0 sp s a w E) {w':World} (hb:Below w.heap.size w w'):R T N ax w0 sp s a w' E:=by
 have hk:aW (AV ax s.rs E) w w':=aW.lL hb
 have:=h.zP (aG:=s.rs) (E':=E) (w':=w') (Env.le_refl E) hk (h.below.grown hb.os hb.tape hb.output hb.size λk nG _=>hb.block k nG) (λ_ _ q=>q) h.len
  (λr x e h1 h2=>aO.mono (Env.le_refl E) hk (λ_ _ q=>q) (λhl b KN=>hb.block b (h.cJ r x b e.2.2 h1 hl ⟨e,h2,rfl,KN⟩).2) (h.roots r x e h1 h2))
  (λr x b sz h1 h2 h3=>by have q:=h.cJ r x b sz h1 h2 h3; have:=hb.size; exact ⟨q.1,by omega⟩) h.dz
 exact this
theorem D7 (h:R T N ax w0 sp s a w E) {fd:D} {f:FuncId} {dQ:List D} (e:Jc fd=some (f,dQ)) {fv:Value} (hf:aQ E (AV ax s.rs E) w fd fv) :
  ∃ cs:Array Value,fv=.func (.func f) #[] cs/\az (aQ E (AV ax s.rs E) w) dQ cs.toList:=by
 unfold Jc at e
 split at e
 .rename_i f' caps'
  simp only [au,bs] at e
  obtain ⟨rfl,rfl⟩:=e
  obtain ⟨vs,rfl,h1⟩:=hf
  refine ⟨vs,rfl,?_⟩
  revert h1
  generalize vs.toList=ws
  intro h1
  induction h1 with
  | nil=>exact .nil
  | cons q _ ih=>
    obtain ⟨b,sz,h2,h3⟩:=q
    exact .cons ⟨b,sz,h2,by simpa using h3⟩ ih
 .rename_i f' n cap
  simp only [au,bs] at e
  obtain ⟨rfl,rfl⟩:=e
  obtain ⟨vs,rfl,h1,h2⟩:=hf
  refine ⟨vs,rfl,?_⟩
  obtain ⟨g,hg⟩:=kq h2
  have:=jh (E:=E) (av:=AV ax s.rs E) (w:=w) (get:=cap) (f:=g) (n:=n) (o:=0) (λj _ hj=>(hg j (by omega)).2)
  have uV:vs.toList=(List.range n).map λj=>g (0+j):=by
   apply List.ext_getElem?
   grind
  rw [uV]
  have conv:∀ {l:List C} {ws:List Value},az (a7 E (AV ax s.rs E) w) l ws->az (aQ E (AV ax s.rs E) w) (l.map .c) ws:=by
   intro l ws hl
   induction hl with
   | nil=>exact .nil
   | cons q _ ih=>exact .cons q ih
  exact conv this
 .simp at e
theorem FL {o:Oper} {c:Call} {f:Operand} (ho:o.op=.call c) (hc:c.callee=.value f) {Vt:FuncId} {cs:Array Value} (hf:a.eval f=.func (.func Vt) #[] cs) (he:Enters P Vt) :
  (execOp a.eval o).run P w=.ok (.enter Vt (c.args.map a.eval++cs)) w:=by
 grind [execOp,resolve,Deferred.ofValue,invoke,yZ]
theorem JW (h:R T N ax w0 sp s a w E) {r b sz:Nat} {hd:Hd} {l:List Int} (hl:s.rs[r]?=some (.set l)) (hE:E[r]?=some (some b,hd,sz)) {t kt el:TypeId} (oG:P.underlying t=some (.map kt el)) (zk:P.underlying kt=some (.int .i64)) {n:Int} :
  ∃ w',(Instr.mapUpdate t (.map (some b)) (.int .i64 n) (.bool true)).run P w=.ok () w'/\R T N ax w0 sp { s with rs:=s.rs.set r (.set (rP n l)) } a w' E:=by
 obtain ⟨b',es,clock,h1,h2,h3⟩:=h.roots r _ _ hl hE
 have h1:some b=some b':=h1
 simp only [au] at h1
 subst h1
 have eG:b<w.heap.size:=(Array.getElem?_eq_some_iff.1 h2).1
 have hu:(Go.underlying t).run P w=.ok (.map kt el) w:=by simp [Go.underlying,Go.program,Sem.run,oG]
 have huk:(Go.underlying kt).run P w=.ok (.int .i64) w:=by simp [Go.underlying,Go.program,Sem.run,zk]
 have hg':(getObj b).run P w=.ok (.map es clock) w:=by simp [getObj,Sem.run,h2]
 rcases kU n h3 0 with ⟨q1,k',e',q2,q3,q4⟩|⟨q1,q2⟩
 .refine ⟨w.putObj b (.map (es.modify k' λe=>{ e with key:=.int .i64 n,val:=.bool true }) clock),?_,?_⟩
  .unfold Instr.mapUpdate
   simp only [Sem.run_bind,hu,hg',Result.andThen_ok,fq zk,Instr.findKey,huk,q2,Nat.zero_add,Sem.run_pure]
   have nG:((es[k']?).map (·.key)).getD (.int .i64 n)=.int .i64 n:=by
    grind
   simp only [nG,Instr.keyThatStays]
   simp [Instr.sameBits,MapKept.run_setObj_map _ h2]
   rfl
  .refine h.turn hl trivial hE (by simp) (λk hk=>World.putObj_heap_other hk) ⟨rfl,rfl,rfl⟩ ⟨b,_,clock,rfl,World.putObj_heap_same eG,?_⟩
   rw [rP,q1]
   simp only [Array.toList_modify]
   clear q2 h2 hg' eG
   generalize es.toList=l2 at h3 q3
   clear q1 hl h hu huk
   induction h3 generalizing k' with
   | nil=>simp at q3
   | cons p1 p2 ih=>
     cases k' with
     | zero=>simp at q3; subst q3; refine .cons ⟨?_,rfl⟩ p2; rw [<- q4]; exact p1.1
     | succ k'=>exact .cons p1 (ih k' (by simpa using q3))
 .refine ⟨w.putObj b (.map (es.push { key:=.int .i64 n,val:=.bool true,born:=clock }) (clock+1)),?_,?_⟩
  .unfold Instr.mapUpdate
   simp only [Sem.run_bind,hu,hg',Result.andThen_ok,fq zk,Instr.findKey,huk,q2,Sem.run_pure]
   rw [MapKept.run_setObj_map _ h2]
   rfl
  .refine h.turn hl trivial hE (by simp) (λk hk=>World.putObj_heap_other hk) ⟨rfl,rfl,rfl⟩ ⟨b,_,clock+1,rfl,World.putObj_heap_same eG,?_⟩
   rw [rP,q1]
   simp only [Array.toList_push]
   exact h3.append (.cons ⟨rfl,rfl⟩ .nil)
end
open Go.RowKit
section
variable {P:Program} {T:dk} {N:Nat} {ax:Nat->Prop} {w0:Kp} {sp:List (D×Value)} {s:VS} {a:Act} {w:World} {E:Env}
theorem Pg {E:Env} {b r k z:Nat} {e:fJ} (h:cM (E.set b e) r k z):(r≠b/\cM E r k z)∨(r=b/\e.has k):=by
 obtain ⟨hh,h,h2,h3⟩:=h
 rw [jE] at h
 split at h
 .grind
 .rename_i hq; exact .inl ⟨λe=>hq e.symm,hh,h,h2,h3⟩
theorem R.UN (h:R T N ax w0 sp s a w E) (n:Nat):R T N ax w0 sp { s with rs:=s.rs++List.replicate n .dead } a w (E++List.replicate n hole):=by
 have hE:=Env.et E (List.replicate n hole)
 have key:∀ (r:Nat) (y:ae),(s.rs++List.replicate n .dead)[r]?=some y->y.live->s.rs[r]?=some y:=by
  intro r y h1 h2
  rcases Nat.lt_or_ge r s.rs.length with hr|hr
  .grind
  .rw [nD hr,List.getElem?_replicate] at h1
   split at h1
   .simp only [au] at h1; subst h1; exact h2.elim
   .simp at h1
 have keyE:∀ (r b sz:Nat),cM (E++List.replicate n hole) r b sz->cM E r b sz:=by
  rintro r b sz ⟨hh,h1,h2⟩
  rcases Nat.lt_or_ge r E.length with hr|hr
  .rw [iU hr] at h1; exact ⟨hh,h1,h2⟩
  grind [Jj]
 have eT:∀ b,b<w.heap.size->AV ax (s.rs++List.replicate n .dead) (E++List.replicate n hole) b->AV ax s.rs E b:=
  kJ λr y b sz h1 h2 h3 _=>.inr ⟨r,y,sz,key r y h1 h2,h2,keyE _ _ _ h3⟩
 refine h.zP hE (aW.refl _ w) h.below eT (by simp [h.len]) ?_ ?_ ?_
 .intro r x e h1 h2
  rcases Nat.lt_or_ge r s.rs.length with hr|hr
  .rw [iU hr] at h1
   rw [iU (by rw [h.len]; exact hr)] at h2
   exact aO.mono hE (aW.refl _ w) eT (λ_ _ _=>rfl) (h.roots r x e h1 h2)
  .rw [nD hr,List.getElem?_replicate] at h1
   split at h1
   .simp only [au] at h1; subst h1; trivial
   .simp at h1
 .intro r x b sz h1 h2 h3
  exact h.cJ r x b sz (key r x h1 h2) h2 (keyE _ _ _ h3)
 .intro r r' x x' b sz cL h1 nA h2 ic h3 ld
  exact h.dz r r' x x' b sz cL (key r x h1 h2) (key r' x' nA ic) h2 ic (keyE _ _ _ h3) (keyE _ _ _ ld)
theorem R.at (h:R T N ax w0 sp s a w E) {b:Nat} {dead:Option Nat} {x:ae} {e:fJ} {w':World} {row:Option Nat}
  (hb:s.rs[b]?=some .dead) (hE:E[b]?=some hole) (hg:w.grownBy w' row)
  (mA:∀ k,row=some k->∃ r y q,dead=some r/\s.rs[r]?=some y/\y.live/\bh E r k q)
  (jg:∀ k,e.1=some k->some k=row∨w.heap.size<=k) (eG:∀ k,e.1=some k->k<w'.heap.size)
  (hx:(∀ k,k<w.heap.size->AV ax ((kill dead s.rs).set b x) (E.set b e) k->AV ax s.rs E k)->(∀ k,AV ax ((kill dead s.rs).set b x) (E.set b e) k->AV ax s.rs E k∨e.has k)->aW (AV ax s.rs E) w w'->aO (E.set b e) (AV ax ((kill dead s.rs).set b x) (E.set b e)) w0.base w' e x)
  (sZ:∀ k,e.2.1.2 k->(∃ r y q,dead=some r/\s.rs[r]?=some y/\y.live/\cM E r k q)∨(w.heap.size<=k/\k<w'.heap.size):=by intro k hk; exact hk.elim) :
  R T N ax w0 sp { s with rs:=(kill dead s.rs).set b x } a w' (E.set b e)/\(∀ k,k<w.heap.size->AV ax ((kill dead s.rs).set b x) (E.set b e) k->AV ax s.rs E k)/\∀ k,AV ax ((kill dead s.rs).set b x) (E.set b e) k->AV ax s.rs E k∨e.has k:=by
 have hle:=h.size_le
 have hEle:=Env.wy e hE
 let fQ:=kill dead s.rs
 have hlen1:fQ.length=s.rs.length:=by
  simp only [fQ]; cases dead<;>simp [kill]
 have hrow':∀ k,row=some k->w0.In k:=by
  intro k hk
  obtain ⟨r,y,q,_,h2,h3,h4⟩:=mA k hk
  exact (h.blk r y k q h2 h3 h4).1
 have old:∀ (q:Nat) (y:ae),fQ[q]?=some y->y.live->s.rs[q]?=some y/\dead≠some q:=by
  intro q y h1 h2
  simp only [fQ] at h1
  cases dead with
  | some r=>
    simp only [kill] at h1
    rw [jE] at h1
    split at h1
    .rename_i hq
     subst hq
     split at h1
     .cases h1; exact h2.elim
     .simp at h1
    grind
  | none=>exact ⟨h1,by simp⟩
 have hk:aW (AV ax s.rs E) w w':=⟨hg.size,λk hk hn=>hg.block k hk λe=>by
  obtain ⟨r,x,q,_,h2,h3,h4⟩:=mA k e.symm
  exact hn (.inr ⟨r,x,q,h2,h3,h4.own⟩)⟩
 have key:∀ (q:Nat) (y:ae) (k z:Nat),(fQ.set b x)[q]?=some y->y.live->cM (E.set b e) q k z->
   (s.rs[q]?=some y/\dead≠some q/\q≠b/\cM E q k z)∨(q=b/\e.has k):=by
  grind [Pg]
 have eT:∀ k,k<w.heap.size->AV ax (fQ.set b x) (E.set b e) k->AV ax s.rs E k:=by
  refine kJ λq y k z h1 h2 h3 h4=>?_
  rcases key q y k z h1 h2 h3 with ⟨h5,_,_,h6⟩|⟨_,h6⟩
  .exact .inr ⟨q,y,z,h5,h2,h6⟩
  .rcases h6 with h6|h6
   .rcases jg k h6 with h7|h7
    .obtain ⟨r,x,q,_,h8,h9,KW⟩:=mA k h7.symm
     exact .inr ⟨r,x,q,h8,h9,KW.own⟩
    .omega
   .rcases sZ k h6 with ⟨r,x,q,_,h8,h9,KW⟩|h7
    .exact .inr ⟨r,x,q,h8,h9,KW⟩
    .omega
 have si:∀ k,AV ax (fQ.set b x) (E.set b e) k->AV ax s.rs E k∨e.has k:=by
  rintro k (q|⟨q,y,z,h1,h2,h3⟩)
  .exact .inl (.inl q)
  .rcases key q y k z h1 h2 h3 with ⟨h5,_,_,h6⟩|⟨_,h6⟩
   .exact .inl (.inr ⟨q,y,z,h5,h2,h6⟩)
   .exact .inr h6
 have hx:=hx eT si hk
 have apart:∀ (q:Nat) (y:ae) (k z:Nat),s.rs[q]?=some y->y.live->dead≠some q->cM E q k z->¬ e.has k/\row≠some k:=by
  intro q y k z h1 h2 h3 h4
  have hb:=h.cJ q y k z h1 h2 h4
  have hr:row≠some k:=by
   intro e
   obtain ⟨r,x,q',h5,h6,h7,h8⟩:=mA k e
   have:=h.dz q r y x k z q' h1 h6 h2 h7 h4 h8.own
   grind
  refine ⟨λe=>?_,hr⟩
  rcases e with e|e
  .grind
  .rcases sZ k e with ⟨r,x,q',h5,h6,h7,h8⟩|h7
   .have:=h.dz q r y x k z q' h1 h6 h2 h7 h4 h8
    grind
   .omega
 refine ⟨h.zP (aG:=fQ.set b x) hEle hk (h.below.grown hg.os hg.tape hg.output hg.size λk nG hn=>hg.block k nG λe=>hn (hrow' k e.symm)) eT (by simp [hlen1,h.len]) ?_ ?_ ?_,eT,si⟩
 .intro q y e' h1 h2
  by_cases hq:q=b
  .grind
  .rw [jE,if_neg (λe=>hq e.symm)] at h1 h2
   by_cases hl:y.live
   .obtain ⟨h3,h4⟩:=old q y h1 hl
    refine aO.mono (av:=AV ax s.rs E) hEle hk eT (λhl k nG=>?_) (h.roots q y e' h3 h2)
    have iL:cM E q k e'.2.2:=⟨e',h2,rfl,nG⟩
    exact hg.block k (h.cJ q y k _ h3 hl iL).2 λe=>(apart q y k _ h3 hl h4 iL).2 e.symm
   .cases y with
    | dead=>trivial
    | _=>exact (hl trivial).elim
 .intro q y k z h1 h2 h3
  rcases key q y k z h1 h2 h3 with ⟨h5,_,_,h6⟩|⟨_,h6⟩
  .have q7:=h.cJ q y k z h5 h2 h6; have:=hg.size; grind
  .rcases h6 with h6|h6
   .have:=eG k h6
    rcases jg k h6 with h7|h7
    .grind
    .exact ⟨h.below.fresh h7,this⟩
   .rcases sZ k h6 with ⟨r,x,q',_,h8,h9,KW⟩|h7
    .have q7:=h.cJ r x k q' h8 h9 KW; have:=hg.size; grind
    .exact ⟨h.below.fresh h7.1,h7.2⟩
 .intro q q' y y' k z z' h1 nA h2 ic h3 ld
  rcases key q y k z h1 h2 h3 with ⟨h5,h6,_,h7⟩|⟨h6,h7⟩<;>rcases key q' y' k z' nA ic ld with ⟨h5',h6',_,h7'⟩|⟨h6',h7'⟩
  .exact h.dz q q' y y' k z z' h5 h5' h2 ic h7 h7'
  all_goals grind
end
end Go.V
