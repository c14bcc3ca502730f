/- The abstract machine V: cells, states, what an operation does to a state, and the conditions that a run of code leaves to be shown. -/
import Derived.WalkKit
import Derived.StillTail
import Derived.Deep.Quiet
import Derived.Deep.MidRow
import Derived.Maps.AppendAt
import Derived.RangeFuncNested
import Derived.MapKept
set_option linter.unusedVariables false
set_option linter.defProp false
set_option linter.unusedSimpArgs false
namespace Go
def ak := @Option.some.injEq
def cX := @Nat.blt_eq
def dQ := @List.getElem?_append_left
def a8 := @Prod.mk.injEq
def cB := @Nat.beq_refl
def gj := @List.getElem?_eq_getElem
def fb := @List.getElem?_set
def gG := @List.getElem?_append_right
def bf := @Nat.le_refl
def bB := @Nat.zero_le
def cN := @List.getElem?_take
def cG := @Bool.and_eq_true
def dz := @Value.slice.injEq
def er := @List.mem_cons_of_mem
def bU := @Nat.le_trans
def dZ := @List.mem_cons_self
def fA := @Nat.mul_le_mul_right
def eh := @Bool.eq_iff_iff
end Go
namespace Go.V
inductive I where
 | v (x:Value)
 | sl (sz n:Nat) (get:Nat→Nat→I)
 | pt (sz:Nat) (get:Nat→I)
 | fn (f:FuncId) (n:Nat) (cap:Nat→I)
 | st (l:List Int)
 | gp (g:Nat)
 | fm (l:List (Int×FuncId))
 | tx (s:ByteArray)
inductive C where
 | im (x:I)
 | rt (r i j:Nat)
 | sa (r m:Nat)
 | mp (r:Nat)
 | ky (f:FuncId) (dR:List Nat)
 | yl (r:Nat)
 | ow (r j:Nat)
inductive D where
 | c (x:C)
 | a (l:List C)
 | t (l:List (Bool×List C))
abbrev eE:=List (Tmp×Bool)
abbrev aG:=List (Tmp×D×eE)
inductive O where
 | im (x:I)
 | ar (e sz n:Nat) (get:Nat→Nat→I)
 | ns (e sz n:Nat) (get:Nat→Nat→O)
inductive Fc where
 | c (x:C)
 | o (x:O)
inductive ae where
 | dead
 | box (l:List C)
 | arr (e sz n:Nat) (get:Nat→Nat→I)
 | row (e sz n:Nat) (l:List C)
 | gy (e sz n:Nat) (get:Nat→Nat→O) (dK:Option (Nat×List Fc))
 | own (l:List O)
 | set (l:List Int)
 | loop (f N:Nat) (sl:aG) (ps:List Tmp) (as bd:Code) (st:LoopState) (fe:Option Code)
 | l7
structure VS where
 sl:aG
 rs:List ae
 df:List Nat:=[]
def look:aG→Tmp→Option (D×eE)
 | [],_=>none
 | (k,d)::r,t=>match Nat.beq k t with
   | true=>some d
   | false=>look r t
abbrev D.v (x:Value):D:=.c (.im (.v x))
abbrev int (n:Int):D:=.v (.int .i64 n)
abbrev bool (b:Bool):D:=.v (.bool b)
def GR:List Value→Option (List C)
 | []=>some []
 | x::l=>match x.oneCell',GR l with
   | true,some r=>some (.im (.v x)::r)
   | _,_=>none
def yi (v:Value):Option D:=match v with
 | .agg cs=>match GR cs.toList with
   | some l=>some (.a l)
   | none=>none
 | v=>match v.oneCell' with
   | true=>some (.c (.im (.v v)))
   | false=>none
def G0:Bool→Bool→Bool
 | true,b=>b
 | false,true=>false
 | false,false=>true
def nG (x:Tmp×Bool):eE→Bool
 | []=>false
 | y::m=>match Nat.beq x.1 y.1 with
   | true=>match G0 x.2 y.2 with
     | true=>true
     | false=>nG x m
   | false=>nG x m
def sub:eE→eE→Bool
 | [],_=>true
 | x::l,m=>match nG x m with
   | true=>sub l m
   | false=>false
def VS.ev (s:VS) (g:eE):Operand→Option D
 | .tmp t=>match look s.sl t with
   | some (d,c)=>match sub c g with
     | true=>some d
     | false=>none
   | none=>none
 | .const v=>yi v
 | .func f=>some (.c (.im (.fn f 0 fun _=>.v (.bool false))))
 | .global g=>some (.c (.im (.gp g)))
def gq (t:Tmp):eE→Bool
 | []=>true
 | x::m=>match Nat.beq x.1 t with
   | true=>false
   | false=>gq t m
def free (t:Tmp):aG→Bool
 | []=>true
 | x::r=>match gq t x.2.2 with
   | true=>free t r
   | false=>false
inductive Kd where
 | struct (fields:List (Nat×Nat))
 | slice (e:Nat)
 | array (n e:Nat)
 | str|bool|int|map (k e:Nat)|ptr (e:Nat)|func
 | other
structure Ty where
 size:Nat
 bytes:Nat
 zero:Value
 kd:Kd
def Kd.agg:Kd→Bool
 | .struct _=>true
 | .array _ _=>true
 | _=>false
def dx (n:Int):List Int→Bool
 | []=>false
 | x::l=>match n==x with
   | true=>true
   | false=>dx n l
def xC (op:BinOp):Value→Value→Option Value
 | .int .i64 a,.int .i64 b=>match op with
   | .add=>some (.int .i64 (IntKind.i64.wrap (a+b)))
   | .sub=>some (.int .i64 (IntKind.i64.wrap (a-b)))
   | .mul=>some (.int .i64 (IntKind.i64.wrap (a*b)))
   | .eql=>some (.bool (a==b))
   | .neq=>some (.bool (a != b))
   | .lss=>some (.bool (decide (a<b)))
   | .leq=>some (.bool (decide (a≤b)))
   | .gtr=>some (.bool (decide (a>b)))
   | .geq=>some (.bool (decide (a≥b)))
   | .and=>some (.int .i64 (IntKind.i64.wrap (BitVec.ofInt 64 a &&& BitVec.ofInt 64 b).toNat))
   | .andNot=>some (.int .i64 (IntKind.i64.wrap (BitVec.ofInt 64 a &&& ~~~(BitVec.ofInt 64 b)).toNat))
   | _=>none
 | .int .u8 a,.int .u8 b=>match op with
   | .eql=>some (.bool (a==b))
   | .neq=>some (.bool (a != b))
   | .lss=>some (.bool (decide (a<b)))
   | .leq=>some (.bool (decide (a≤b)))
   | .gtr=>some (.bool (decide (a>b)))
   | .geq=>some (.bool (decide (a≥b)))
   | _=>none
 | .string a,.string b=>match op with
   | .eql=>some (.bool (a.toList==b.toList))
   | .neq=>some (.bool (!(a.toList==b.toList)))
   | _=>none
 | _,_=>none
def need:Option Prop→Prop
 | none=>True
 | some p=>p
def wg (op:BinOp):Value→Value→Option (Prop×Value)
 | .int .i64 a,.int .i64 b=>match op with
   | .quo=>some (b≠0,.int .i64 (IntKind.i64.wrap (a.tdiv b)))
   | .rem=>some (b≠0,.int .i64 (a.tmod b))
   | .shl=>some (0≤b,.int .i64 (IntKind.i64.wrap (a*2 ^ (min b.toNat 64))))
   | .shr=>some (0≤b,.int .i64 (a.fdiv (2 ^ (min b.toNat 64))))
   | _=>none
 | _,_=>none
inductive EK where
 | int|str|bool
def Ek:List EK→List C→List C→Option Bool
 | [],[],[]=>some true
 | .int::k,.im (.v (.int .i64 x))::l,.im (.v (.int .i64 y))::m=>match Ek k l m with
   | some c=>some ((x==y)&&c)
   | none=>none
 | .str::k,.im (.v (.string x))::l,.im (.v (.string y))::m=>match Ek k l m with
   | some c=>some ((x==y)&&c)
   | none=>none
 | .bool::k,.im (.v (.bool x))::l,.im (.v (.bool y))::m=>match Ek k l m with
   | some c=>some ((x==y)&&c)
   | none=>none
 | _,_,_=>none
structure dn where
 ty:Nat→Option Ty
 eqs:Nat→Option (List EK)
 gl:Nat→Option I:=fun _=>none
 ga:Nat→Option (Nat×(Nat→I)):=fun _=>none
def dn.gv (T:dn) (g:Nat):Option (Nat×(Nat→I)):=match T.gl g with
 | some x=>some (1,fun _=>x)
 | none=>T.ga g
def w5 (n:Int) (l:List (Int×FuncId)):Option FuncId:=match l with
 | []=>none
 | x::l=>match n==x.1 with
   | true=>some x.2
   | false=>w5 n l
def dr (get:Nat→I) (o:Nat):Nat→List C
 | 0=>[]
 | n+1=>.im (get o)::dr get (o+1) n
def takeN:Nat→List C→Option (List C)
 | 0,_=>some []
 | _+1,[]=>none
 | n+1,x::l=>match takeN n l with
   | some r=>some (x::r)
   | none=>none
def tw:Nat→List C→List C
 | 0,l=>l
 | _+1,[]=>[]
 | n+1,_::l=>tw n l
def nth {α:Type}:List α→Nat→Option α
 | [],_=>none
 | x::_,0=>some x
 | _::l,n+1=>nth l n
def setAt {α:Type}:List α→Nat→α→List α
 | [],_,_=>[]
 | _::l,0,y=>y::l
 | x::l,n+1,y=>x::setAt l n y
def put (l:List C) (o:Nat):List C→Option (List C)
 | []=>some l
 | y::ys=>match nth l o with
   | some _=>put (setAt l o y) (o+1) ys
   | none=>none
def D.cells:D→Option (List C)
 | .c x=>some [x]
 | .a l=>some l
 | .t _=>none
def zo:List C→Option (List I)
 | []=>some []
 | .im x::l=>match zo l with
   | some r=>some (x::r)
   | none=>none
 | _::_=>none
def CM (s:VS) (g:eE):List Operand→Option (List D)
 | []=>some []
 | x::l=>match s.ev g x,CM s g l with
   | some d,some r=>some (d::r)
   | _,_=>none
def vK (oN:List (Nat×Nat)) (s:VS) (g:eE):List (Nat×Operand)→List C→Option (List C)
 | [],l=>some l
 | (k,x)::r,l=>match nth oN k,s.ev g x with
   | some (o,sz),some d=>match d.cells with
     | some cs=>match Nat.beq cs.length sz&&Nat.blt 0 sz with
       | true=>match put l o cs with
         | some l'=>vK oN s g r l'
         | none=>none
       | false=>none
     | none=>none
   | _,_=>none
def uJ (y:Ty):Option (List C):=GR y.zero.cells.toList
noncomputable def oI:O→I:=O.rec (fun x=>x) (fun _ sz n get=>.sl sz n get) (fun _ sz n _ ih=>.sl sz n ih)
noncomputable def aY {α:Type} (l:List α):Nat→Option α:=List.rec (fun _=>none) (fun x _ ih n=>Nat.rec (some x) (fun m _=>ih m) n) l
def H8 (x:O):Option C:=match x with
 | .im x=>some (.im x)
 | _=>none
noncomputable def Hu (x:Option Fc):Option C:=match x with
 | some (.c x)=>some x
 | some (.o x)=>H8 x
 | none=>none
noncomputable def wc (get:Nat→Nat→O) (dK:Option (Nat×List Fc)) (i j:Nat):Option C:=match dK with
 | none=>H8 (get i j)
 | some x=>Bool.rec (H8 (get i j)) (Hu (aY x.2 j)) (Nat.beq i x.1)
noncomputable def nu (f:Nat→Option C) (j:Nat) (n:Nat):Option (List C):=Nat.rec (fun _=>some []) (fun _ ih j=>match f j with
 | some c=>match ih (j+1) with
   | some l=>some (c::l)
   | none=>none
 | none=>none) n j
section
variable (T:dn)
def fS (b:Builtin) (ts:List TypeId) (ds:Option (List D)):Option (Option Prop×D):=match b with
 | .len=>match ts,ds with
   | [t],some [d]=>match T.ty t with
     | some y=>match y.kd,d with
       | .slice _,.c (.im (.sl _ n _))=>some (none,int n)
       | .slice _,.c (.sa _ m)=>some (none,int m)
       | .slice _,.c (.im (.v (.slice _ n _)))=>some (none,int n)
       | .str,.c (.im (.v (.string b)))=>some (none,int b.size)
       | _,_=>none
     | none=>none
   | _,_=>none
 | .max=>match ds with
   | some [.c (.im (.v (.int .i64 a))),.c (.im (.v (.int .i64 b)))]=>some (none,int (if b>a then b else a))
   | _=>none
 | .min=>match ds with
   | some [.c (.im (.v (.int .i64 a))),.c (.im (.v (.int .i64 b)))]=>some (none,int (if b<a then b else a))
   | _=>none
 | _=>none
noncomputable def aV (s:VS) (g:eE):Op→Option (Option Prop×D)
 | .move x=>match s.ev g x with
   | some d=>some (none,d)
   | none=>none
 | .assign x=>match s.ev g x with
   | some d=>some (none,d)
   | none=>none
 | .pick (.tmp t) a b=>match s.ev g (.tmp t) with
   | some (.c (.im (.v (.bool p))))=>match s.ev ((t,true)::g) a,s.ev ((t,false)::g) b with
     | some (.c (.im (.v (.bool x)))),some (.c (.im (.v (.bool y))))=>some (none,bool (bif p then x else y))
     | _,_=>none
   | _=>none
 | .binOp op t x y _=>match s.ev g x,s.ev g y with
   | some (.c (.im (.v (.bool x)))),some (.c (.im (.v (.bool y))))=>match T.ty t with
     | some { kd:=.bool,.. }=>match op with
       | .eql=>some (none,bool (x==y))
       | .neq=>some (none,bool (!(x==y)))
       | _=>none
     | _=>none
   | some (.c (.im (.v x))),some (.c (.im (.v y)))=>match xC op x y with
     | some z=>some (none,.v z)
     | none=>match wg op x y with
       | some (p,z)=>some (some p,.v z)
       | none=>none
   | some (.a l),some (.a m)=>match T.eqs t with
     | some ks=>match op,Ek ks l m with
       | .eql,some b=>some (none,bool b)
       | .neq,some b=>some (none,bool (!b))
       | _,_=>none
     | _=>none
   | _,_=>none
 | .unOp .not _ x=>match s.ev g x with
   | some (.c (.im (.v (.bool b))))=>some (none,bool (!b))
   | _=>none
 | .unOp .neg _ x=>match s.ev g x with
   | some (.c (.im (.v (.int .i64 n))))=>some (none,int (IntKind.i64.wrap (0-n)))
   | _=>none
 | .nilCheck x=>match s.ev g x with
   | some (.c (.rt r i j))=>some (none,.c (.rt r i j))
   | some (.c (.im (.pt sz get)))=>some (none,.c (.im (.pt sz get)))
   | some (.c (.ky f dR))=>some (none,.c (.ky f dR))
   | some (.c (.im (.fn f n cap)))=>some (none,.c (.im (.fn f n cap)))
   | _=>none
 | .fieldAddr t x f=>match T.ty t with
   | some { kd:=.struct fs,.. }=>match nth fs f with
     | some (o,sz)=>match Nat.blt 0 sz with
       | true=>match s.ev g x with
         | some (.c (.rt r i j))=>some (none,.c (.rt r i (j+o)))
         | some (.c (.im (.pt n get)))=>match Nat.ble (o+sz) n with
           | true=>some (none,.c (.im (.pt (n-o) fun j=>get (o+j))))
           | false=>none
         | _=>none
       | false=>none
     | none=>none
   | _=>none
 | .indexAddr t x ix=>match T.ty t with
   | some { kd:=.slice e,.. }=>match T.ty e with
     | some y=>match s.ev g ix with
       | some (.c (.im (.v (.int .i64 i))))=>match s.ev g x with
         | some (.c (.im (.sl sz n get)))=>match Nat.beq sz y.size with
           | true=>some (some (0≤i∧i<(n:Int)),.c (.im (.pt sz (get i.toNat))))
           | false=>none
         | some (.c (.sa r m))=>match nth s.rs r with
           | some (.arr e' sz n get)=>match Nat.beq sz y.size with
             | true=>some (some (0≤i∧i<(m:Int)),.c (.rt r i.toNat 0))
             | false=>none
           | some (.row e' sz n l)=>match Nat.beq sz y.size with
             | true=>some (some (0≤i∧i<(m:Int)),.c (.rt r i.toNat 0))
             | false=>none
           | some (.gy e' sz n get dK)=>match Nat.beq sz y.size with
             | true=>some (some (0≤i∧i<(m:Int)),.c (.rt r i.toNat 0))
             | false=>none
           | _=>none
         | _=>none
       | _=>none
     | none=>none
   | _=>none
 | .load t x=>match T.ty t with
   | some y=>match s.ev g x with
     | some (.c (.rt r i j))=>match nth s.rs r with
       | some (.box l)=>match i with
         | 0=>match y.kd.agg with
           | true=>match takeN y.size (tw j l) with
             | some cs=>some (none,.a cs)
             | none=>none
           | false=>match nth l j with
             | some c=>some (none,.c c)
             | none=>none
         | _=>none
       | some (.arr _ sz n get)=>match y.kd.agg with
         | true=>match Nat.ble (j+y.size) sz with
           | true=>some (some (i<n),.a (dr (get i) j y.size))
           | false=>none
         | false=>match Nat.blt j sz with
           | true=>some (some (i<n),.c (.im (get i j)))
           | false=>none
       | some (.row _ sz n l)=>match y.kd.agg with
         | true=>match takeN y.size (tw (i*sz+j) l) with
           | some cs=>some (none,.a cs)
           | none=>none
         | false=>match nth l (i*sz+j) with
           | some c=>some (none,.c c)
           | none=>none
       | some (.gy _ sz n get dK)=>match y.kd.agg with
         | true=>match Nat.ble (j+y.size) sz with
           | true=>match nu (wc get dK i) j y.size with
             | some l=>some (some (i<n),.a l)
             | none=>none
           | false=>none
         | false=>match Nat.blt j sz with
           | true=>match wc get dK i j with
             | some c=>some (some (i<n),.c c)
             | none=>none
           | false=>none
       | _=>none
     | some (.c (.im (.pt n get)))=>match y.kd.agg with
       | true=>match Nat.ble y.size n with
         | true=>some (none,.a (dr get 0 y.size))
         | false=>none
       | false=>match Nat.blt 0 n with
         | true=>some (none,.c (.im (get 0)))
         | false=>none
     | some (.c (.im (.gp q)))=>match T.gl q with
       | some z=>match y.kd.agg with
         | true=>none
         | false=>some (none,.c (.im z))
       | none=>none
     | _=>none
   | none=>none
 | .extract x k=>match s.ev g x with
   | some (.t l)=>match nth l k with
     | some (true,cs)=>some (none,.a cs)
     | some (false,[c])=>some (none,.c c)
     | _=>none
   | _=>none
 | .build t parts=>match T.ty t with
   | some y=>match y.kd with
     | .struct fs=>match uJ y with
       | some z=>match vK fs s g parts.toList z with
         | some l=>some (none,.a l)
         | none=>none
       | none=>none
     | _=>none
   | none=>none
 | .makeFunc fn first dR=>match fn,first.toList,CM s g dR.toList with
   | .func f,[],some []=>some (none,.c (.ky f []))
   | .func f,[],some [.c (.rt r 0 0)]=>some (none,.c (.ky f [r]))
   | .func f,[],some [.c (.rt r 0 0),.c (.rt r' 0 0)]=>some (none,.c (.ky f [r,r']))
   | .func f,[],some [.c (.rt r 0 0),.c (.rt r' 0 0),.c (.rt r'' 0 0)]=>some (none,.c (.ky f [r,r',r'']))
   | _,_,_=>none
 | .call c=>match c.callee with
   | .builtin b=>fS T b c.argTypes.toList (CM s g c.args.toList)
   | _=>none
 | .lookup t x i false=>match T.ty t with
   | some { kd:=.map k e,.. }=>match T.ty k,T.ty e with
     | some { kd:=.int,.. },some { zero:=.bool false,.. }=>match s.ev g x,s.ev g i with
       | some (.c (.mp r)),some (.c (.im (.v (.int .i64 n))))=>match nth s.rs r with
         | some (.set l)=>some (none,bool (dx n l))
         | _=>none
       | some (.c (.im (.st l))),some (.c (.im (.v (.int .i64 n))))=>some (none,bool (dx n l))
       | _,_=>none
     | _,_=>none
   | _=>none
 | .slice t x none (some hi) none=>match T.ty t with
   | some { kd:=.slice e,.. }=>match T.ty e with
     | some _=>match s.ev g x,s.ev g hi with
       | some (.c (.im (.sl sz n get))),some (.c (.im (.v (.int .i64 h))))=>some (some (0≤h∧h≤(n:Int)),.c (.im (.sl sz h.toNat get)))
       | some (.c (.sa r m)),some (.c (.im (.v (.int .i64 h))))=>match nth s.rs r with
         | some (.arr _ _ _ _)=>some (some (0≤h∧h≤(m:Int)),.c (.sa r h.toNat))
         | some (.row _ _ _ _)=>some (some (0≤h∧h≤(m:Int)),.c (.sa r h.toNat))
         | some (.gy _ _ _ _ _)=>some (some (0≤h∧h≤(m:Int)),.c (.sa r h.toNat))
         | _=>none
       | some (.c (.im (.v (.slice none 0 0)))),some (.c (.im (.v (.int .i64 h))))=>some (some (h=0),.c (.im (.v (.slice none 0 0))))
       | _,_=>none
     | none=>none
   | _=>none
 | _=>none
end
def bu (l:List I) (q:Nat):I:=match nth l q with
 | some x=>x
 | none=>.v (.tuple #[])
def flat (sz:Nat) (l:List I) (i j:Nat):I:=bu l (i*sz+j)
def jd (rs:List ae) (r:Nat) (rec:List C→Option (List I)):Option I:=match nth rs r with
 | some (.box l)=>match rec l with
   | some is=>some (.pt is.length (bu is))
   | none=>none
 | _=>none
noncomputable def lP (rs:List ae) (rec:List C→Option (List I)):C→Option I
 | .im x=>some x
 | .rt q 0 0=>jd rs q rec
 | .sa q m=>match nth rs q with
   | some (.arr _ sz _ get)=>some (.sl sz m get)
   | some (.row _ sz _ l)=>match takeN (m*sz) l with
     | some l=>match rec l with
       | some is=>some (.sl sz m (flat sz is))
       | none=>none
     | none=>none
   | some (.gy _ sz _ get none)=>some (.sl sz m fun i j=>oI (get i j))
   | _=>none
 | .mp q=>match nth rs q with
   | some (.set l)=>some (.st l)
   | _=>none
 | .ky f []=>some (.fn f 0 (bu []))
 | .ky f [q]=>match jd rs q rec with
   | some x=>some (.fn f 1 (bu [x]))
   | none=>none
 | .ky f [q,q']=>match jd rs q rec,jd rs q' rec with
   | some x,some y=>some (.fn f 2 (bu [x,y]))
   | _,_=>none
 | .ky f [q,q',q'']=>match jd rs q rec,jd rs q' rec,jd rs q'' rec with
   | some x,some y,some z=>some (.fn f 3 (bu [x,y,z]))
   | _,_,_=>none
 | _=>none
def pH {α β:Type} (f:α→Option β):List α→Option (List β)
 | []=>some []
 | x::l=>match f x,pH f l with
   | some y,some r=>some (y::r)
   | _,_=>none
noncomputable def reify:Nat→List ae→List C→Option (List I)
 | 0,rs,l=>pH (lP rs fun _=>none) l
 | k+1,rs,l=>pH (lP rs (reify k rs)) l
def lift:List I→List C
 | []=>[]
 | x::l=>.im x::lift l
noncomputable def aQ (rs:List ae):D→Option D
 | .c x=>match reify 6 rs [x] with
   | some [y]=>some (.c (.im y))
   | _=>none
 | .a l=>match reify 6 rs l with
   | some r=>some (.a (lift r))
   | none=>none
 | .t l=>match reifyT rs l with
   | some r=>some (.t r)
   | none=>none
where reifyT (rs:List ae):List (Bool×List C)→Option (List (Bool×List C))
 | []=>some []
 | (b,l)::m=>match reify 6 rs l,reifyT rs m with
   | some r,some q=>some ((b,lift r)::q)
   | _,_=>none
noncomputable def cP (rs:List ae):List D→Option (List D)
 | []=>some []
 | d::l=>match aQ rs d,cP rs l with
   | some x,some r=>some (x::r)
   | _,_=>none
def fh:List C→Bool
 | []=>true
 | .im _::l=>fh l
 | _::_=>false
def jl:D→Bool
 | .c x=>fh [x]
 | .a l=>fh l
 | .t l=>l.all fun x=>fh x.2
def eQ:List D→Bool
 | []=>true
 | d::l=>match jl d with
   | true=>eQ l
   | false=>false
def eJ:List C→Bool
 | []=>true
 | .im (.v _)::l=>eJ l
 | _::_=>false
def gK:D→Bool
 | .c x=>eJ [x]
 | .a l=>eJ l
 | .t l=>l.all fun x=>eJ x.2
structure WV where
 Tw:FuncId→List D→Option (Option Prop×D)
 Yx:FuncId→List D→List ae→Option (Option Prop×D×List ae)
 Jc:Nat→List D→List ae→Option (Option Prop×D×List ae)
def Sz (s:VS) (g0:eE) (p:Prop):eE→Prop
 | []=>p
 | (t,b)::g=>match look s.sl t with
   | some (.c (.im (.v (.bool x))),c)=>match sub c g0 with
     | true=>x=b→Sz s g0 p g
     | false=>False
   | _=>False
def AQ (N t:Nat) (g:eE) (sl:aG):Bool:=match Nat.blt t N with
 | true=>match free t sl with
   | true=>gq t g
   | false=>false
 | false=>false
def T5 (N:Nat) (s:VS) (dst:Option Tmp) (d:D) (g:eE) (K:VS→Prop):Prop:=match dst with
 | none=>K s
 | some t=>match AQ N t g s.sl with
   | true=>K { s with sl:=(t,d,g)::s.sl }
   | false=>False
def zz (get:Nat→Nat→I) (i j:Nat) (ys:List I):Nat→Nat→I:=fun i' j'=>if i'=i∧j≤j'∧j'<j+ys.length then bu ys (j'-j) else get i' j'
def app (n:Nat) (get get':Nat→Nat→I):Nat→Nat→I:=fun i j=>if i<n then get i j else get' (i-n) j
def vn (sz:Nat) (s:VS) (g:eE):List (Nat×Operand)→List C→Option (List C)
 | [],l=>some l
 | (k,x)::r,l=>match s.ev g x with
   | some d=>match d.cells with
     | some cs=>match Nat.beq cs.length sz&&Nat.blt 0 sz with
       | true=>match put l (k*sz) cs with
         | some l'=>vn sz s g r l'
         | none=>none
       | false=>none
     | none=>none
   | none=>none
def LJ (l:List C):Nat→List C
 | 0=>[]
 | n+1=>l++LJ l n
def room (n bytes:Nat):Prop:=n≤maxLen∧n*bytes≤140737488355328
def qA (n:Int) (l:List Int):List Int:=match dx n l with
 | true=>l
 | false=>l++[n]
section
variable (T:dn) (Rz:WV) (N:Nat)
def Q8 (rs:List ae):D→Option (Nat×Nat×(Nat→Nat→I))
 | .c (.im (.sl sz k get))=>some (sz,k,get)
 | .c (.sa q k)=>match nth rs q with
   | some (.arr _ sz _ get)=>some (sz,k,get)
   | _=>none
 | _=>none
def Wg (s:VS) (t:TypeId) (d src:D) (dst:Option Tmp) (K:VS→Prop):Prop:=match T.ty t with
 | some { kd:=.slice el,.. }=>match T.ty el with
   | some y=>match Q8 s.rs src with
     | some (sz,k,get')=>match Nat.beq sz y.size&&Nat.blt 0 sz with
       | true=>match d with
         | .c (.im (.v (.slice none 0 0)))=>room k y.bytes∧
           T5 N { s with rs:=s.rs++[.arr el sz k get'] } dst (.c (.sa s.rs.length k)) [] K
         | .c (.sa r m)=>match nth s.rs r with
           | some (.arr nL cj n get)=>match Nat.beq el nL&&Nat.beq sz cj with
             | true=>m=n∧room (n+k) y.bytes∧
               T5 N { s with rs:=setAt s.rs r .dead++[.arr el sz (n+k) (app n get get')] } dst (.c (.sa s.rs.length (n+k))) [] K
             | false=>False
           | _=>False
         | _=>False
       | false=>False
     | none=>False
   | none=>False
 | _=>False
def FZ:D→Option (FuncId×List D)
 | .c (.ky f dR)=>some (f,dR.map fun r=>.c (.rt r 0 0))
 | .c (.im (.fn f n cap))=>some (f,(dr cap 0 n).map .c)
 | _=>none
def yc (s:VS) (t:TypeId) (x v:D) (K:VS→Prop):Prop:=match T.ty t with
 | some y=>match v.cells with
   | some cs=>match Nat.beq cs.length y.size&&Nat.blt 0 y.size with
     | true=>match x with
       | .c (.rt r i j)=>match nth s.rs r with
         | some (.box l)=>match i,put l j cs with
           | 0,some l'=>K { s with rs:=setAt s.rs r (.box l') }
           | _,_=>False
         | some (.arr el sz n get)=>match zo cs,Nat.ble (j+y.size) sz with
           | some ys,true=>i<n∧K { s with rs:=setAt s.rs r (.arr el sz n (zz get i j ys)) }
           | _,_=>False
         | _=>False
       | _=>False
     | false=>False
   | none=>False
 | none=>False
def su (sl:aG):List Tmp→aG
 | []=>[]
 | t::r=>match look sl t with
   | some (d,[])=>(t,d,[])::su sl r
   | _=>su sl r
structure Yn where
 VD:Nat→List Tmp
 Y8:Nat→Bool
 heads:Nat→Nat
variable (pl:Yn) (X:List Item→VS→Prop) (Q:VS→Prop)
end
section
variable (T:dn)
noncomputable def pL (s:VS):ResultVar→Option (Option Prop×Bool×List C)
 | .tmp t=>match s.ev [] (.tmp t) with
   | some (.c x)=>some (none,false,[x])
   | some (.a l)=>some (none,true,l)
   | _=>none
 | .cell ad t=>match aV T s [] (.load t (.tmp ad)) with
   | some (p,.c x)=>some (p,false,[x])
   | some (p,.a l)=>some (p,true,l)
   | _=>none
def Ff:Option Prop→Option Prop→Option Prop
 | none,p=>p
 | p,none=>p
 | some p,some q=>some (p∧q)
noncomputable def oW (s:VS):List ResultVar→Option (Option Prop×List (Bool×List C))
 | []=>some (none,[])
 | x::r=>match pL T s x,oW s r with
   | some (p,q),some (p',l)=>some (Ff p p',q::l)
   | _,_=>none
noncomputable def Pd (s:VS) (rs:List ResultVar):Option (Option Prop×D):=match oW T s rs with
 | some (p,[(false,[x])])=>some (p,.c x)
 | some (p,[(true,l)])=>some (p,.a l)
 | some (p,l)=>some (p,.t l)
 | none=>none
def cH:Nat→List D→aG
 | _,[]=>[]
 | k,d::l=>(k,d,[])::cH (k+1) l
end
noncomputable section
def eb (l:aG) (t:Tmp):Option D:=List.rec none (fun x _ ih=>Bool.rec ih (some x.2.1) (Nat.beq x.1 t)) l
def findF {α:Type} (t:Nat) (l:List (Nat×α)):Option α:=List.rec none (fun x _ ih=>Bool.rec ih (some x.2) (Nat.beq x.1 t)) l
def bO (sl:aG) (x:Operand):Option D:=match x with
 | .tmp t=>eb sl t
 | .const v=>yi v
 | .func f=>some (.c (.im (.fn f 0 fun _=>.v (.bool false))))
 | .global g=>some (.c (.im (.gp g)))
def vV (sl:aG) (l:List Operand):Option (List D):=List.rec (some []) (fun x _ ih=>match bO sl x with
 | some d=>match ih with
   | some r=>some (d::r)
   | none=>none
 | none=>none) l
def P2 (x:I):Option Value:=match x with
 | .v x=>some x
 | _=>none
def QG (x:C):Option Value:=match x with
 | .im x=>P2 x
 | _=>none
def B5 (d:Option D):Option Value:=match d with
 | some (.c x)=>QG x
 | _=>none
def Du (v:Value):Option Int:=match v with
 | .int .i64 n=>some n
 | _=>none
def wJ (v:Value):Option Bool:=match v with
 | .bool b=>some b
 | _=>none
def gO (d:Option D):Option Int:=match B5 d with
 | some v=>Du v
 | none=>none
def iz (d:Option D):Option Bool:=match B5 d with
 | some v=>wJ v
 | none=>none
def cO (d:Option D):Option C:=match d with
 | some (.c x)=>some x
 | _=>none
def Wp (b:Int):Bool:=match b with
 | .ofNat _=>true
 | .negSucc _=>false
def sJ (op:BinOp) (a b:Int):Option Value:=match op with
 | .add=>some (.int .i64 (IntKind.i64.wrap (a+b)))
 | .sub=>some (.int .i64 (IntKind.i64.wrap (a-b)))
 | .mul=>some (.int .i64 (IntKind.i64.wrap (a*b)))
 | .eql=>some (.bool (a==b))
 | .neq=>some (.bool (a != b))
 | .lss=>some (.bool (decide (a<b)))
 | .leq=>some (.bool (decide (a≤b)))
 | .gtr=>some (.bool (decide (a>b)))
 | .geq=>some (.bool (decide (a≥b)))
 | .quo=>Bool.rec (some (.int .i64 (IntKind.i64.wrap (a.tdiv b)))) none (b==0)
 | .rem=>Bool.rec (some (.int .i64 (a.tmod b))) none (b==0)
 | .and=>some (.int .i64 (IntKind.i64.wrap (BitVec.ofInt 64 a &&& BitVec.ofInt 64 b).toNat))
 | .andNot=>some (.int .i64 (IntKind.i64.wrap (BitVec.ofInt 64 a &&& ~~~(BitVec.ofInt 64 b)).toNat))
 | .shl=>Bool.rec none (some (.int .i64 (IntKind.i64.wrap (a*2 ^ (min b.toNat 64))))) (Wp b)
 | .shr=>Bool.rec none (some (.int .i64 (a.fdiv (2 ^ (min b.toNat 64))))) (Wp b)
 | _=>none
def TV (T:dn) (t:Nat) (op:BinOp) (a b:Bool):Option Value:=match T.ty t with
 | some { kd:=.bool,.. }=>match op with
   | .eql=>some (.bool (a==b))
   | .neq=>some (.bool (!(a==b)))
   | _=>none
 | _=>none
def Db (T:dn) (t:Nat) (op:BinOp) (u v:Value):Option Value:=match Du u,Du v with
 | some a,some b=>sJ op a b
 | _,_=>match wJ u,wJ v with
   | some a,some b=>TV T t op a b
   | _,_=>xC op u v
def YT (T:dn) (t:Nat) (op:BinOp) (l m:List C):Option D:=match T.eqs t with
 | some ks=>match Ek ks l m with
   | some b=>match op with
     | .eql=>some (bool b)
     | .neq=>some (bool (!b))
     | _=>none
   | none=>none
 | none=>none
def Oy (d:Option D):Option (List C):=match d with
 | some (.a l)=>some l
 | _=>none
def gX (x:I):Option Bool:=match x with
 | .v (.slice none _ _)=>some true
 | .v (.slice (some _) _ _)=>some false
 | .sl _ (_+1) _=>some false
 | _=>none
def GS (rs:List ae) (x:C):Option Bool:=match x with
 | .im x=>gX x
 | .sa r (_+1)=>match aY rs r with
   | some (.row _ _ _ _)=>some false
   | some (.arr _ _ _ _)=>some false
   | some (.gy _ _ _ _ _)=>some false
   | _=>none
 | _=>none
def isNil (y:Operand):Bool:=match y with
 | .const (.slice none 0 0)=>true
 | _=>false
def sE (T:dn) (s:VS) (op:BinOp) (t:Nat) (x:Operand):Option D:=match T.ty t with
 | some { kd:=.slice _,.. }=>match cO (bO s.sl x) with
   | some c=>match GS s.rs c with
     | some b=>match op with
       | .eql=>some (bool b)
       | .neq=>some (bool (!b))
       | _=>none
     | none=>none
   | none=>none
 | _=>none
def Va (c:C):Option Bool:=match c with
 | .rt _ _ _=>some false
 | .im (.pt _ _)=>some false
 | .im (.v (.pointer none))=>some true
 | _=>none
def PM (c:C):Option Bool:=match c with
 | .im (.fn _ _ _)=>some false
 | .ky _ _=>some false
 | .im (.v .nilFunc)=>some true
 | _=>none
def DC (y:Operand):Bool:=match y with
 | .const (.pointer none)=>true
 | .const .nilFunc=>true
 | _=>false
def VT (y:Operand) (k:Kd) (c:C):Option Bool:=match y with
 | .const (.pointer none)=>match k with
   | .ptr _=>Va c
   | _=>none
 | .const .nilFunc=>match k with
   | .func=>PM c
   | _=>none
 | _=>none
def Gv (T:dn) (s:VS) (op:BinOp) (t:Nat) (x y:Operand):Option D:=match T.ty t with
 | some ty=>match cO (bO s.sl x) with
   | some c=>match VT y ty.kd c with
     | some b=>match op with
       | .eql=>some (bool b)
       | .neq=>some (bool (!b))
       | _=>none
     | none=>none
   | none=>none
 | none=>none
def vP (T:dn) (s:VS) (op:BinOp) (t:Nat) (x y:Operand):Option D:=match isNil y with
 | true=>sE T s op t x
 | false=>match DC y with
  | true=>Gv T s op t x y
  | false=>match B5 (bO s.sl x),B5 (bO s.sl y) with
   | some u,some v=>match Db T t op u v with
     | some z=>some (.v z)
     | none=>none
   | _,_=>match Oy (bO s.sl x),Oy (bO s.sl y) with
     | some l,some m=>YT T t op l m
     | _,_=>none
def Wm (s:VS) (op:UnOp) (x:Operand):Option D:=match op with
 | .not=>match iz (bO s.sl x) with
   | some b=>some (bool (!b))
   | none=>none
 | .neg=>match gO (bO s.sl x) with
   | some n=>some (int (IntKind.i64.wrap (0-n)))
   | none=>none
 | _=>none
def xo (s:VS) (c x y:Operand):Option D:=match iz (bO s.sl c) with
 | some b=>match iz (Bool.rec (bO s.sl y) (bO s.sl x) b) with
   | some z=>some (bool z)
   | none=>none
 | none=>none
def sW (s:VS) (x:Operand):Option D:=match cO (bO s.sl x) with
 | some c=>match c with
   | .rt _ _ _=>some (.c c)
   | .ky _ _=>some (.c c)
   | .im (.pt _ _)=>some (.c c)
   | .im (.fn _ _ _)=>some (.c c)
   | _=>none
 | none=>none
def Jz (o sz:Nat) (c:C):Option D:=match c with
 | .rt r i j=>some (.c (.rt r i (j+o)))
 | .im (.pt n get)=>Bool.rec none (some (.c (.im (.pt (n-o) fun j=>get (o+j))))) (Nat.ble (o+sz) n)
 | _=>none
def yS (T:dn) (s:VS) (t:Nat) (x:Operand) (f:Nat):Option D:=match T.ty t with
 | some { kd:=.struct fs,.. }=>match aY fs f with
   | some o=>match cO (bO s.sl x) with
     | some c=>Bool.rec none (Jz o.1 o.2 c) (Nat.blt 0 o.2)
     | none=>none
   | none=>none
 | _=>none
def cC (i:Int) (n:Nat):Bool:=match i with
 | .ofNat k=>Nat.blt k n
 | .negSucc _=>false
def po (rs:List ae) (size:Nat) (i:Int) (c:C):Option D:=match c with
 | .im (.sl sz n get)=>Bool.rec none (Bool.rec none (some (.c (.im (.pt sz (get i.toNat))))) (cC i n)) (Nat.beq sz size)
 | .sa r m=>match aY rs r with
   | some (.row _ sz _ _)=>Bool.rec none (Bool.rec none (some (.c (.rt r i.toNat 0))) (cC i m)) (Nat.beq sz size)
   | some (.arr _ sz _ _)=>Bool.rec none (Bool.rec none (some (.c (.rt r i.toNat 0))) (cC i m)) (Nat.beq sz size)
   | some (.gy _ sz _ _ _)=>Bool.rec none (Bool.rec none (some (.c (.rt r i.toNat 0))) (cC i m)) (Nat.beq sz size)
   | _=>none
 | _=>none
def pW (T:dn) (t:Nat):Option Ty:=match T.ty t with
 | some { kd:=.slice e,.. }=>T.ty e
 | _=>none
def G9 (T:dn) (t:Nat):Option (Nat×Ty):=match T.ty t with
 | some { kd:=.array n e,.. }=>match T.ty e with
   | some y=>some (n,y)
   | none=>none
 | _=>none
def zh (n size:Nat) (i:Int) (c:C):Option D:=match c with
 | .rt r k j=>Bool.rec none (some (.c (.rt r k (j+i.toNat*size)))) (cC i n)
 | _=>none
def Ey (T:dn) (n size:Nat) (i:Int) (q:Nat):Option D:=match T.gv q with
 | some g=>Bool.rec none (Bool.rec none (some (.c (.im (.pt size fun j=>g.2 (i.toNat*size+j))))) (cC i n)) (Nat.beq (n*size) g.1)
 | none=>none
def tl (T:dn) (n size:Nat) (i:Int) (c:C):Option D:=match c with
 | .im (.gp q)=>Ey T n size i q
 | _=>zh n size i c
def lz (T:dn) (s:VS) (t:Nat) (x ix:Operand):Option D:=match G9 T t with
 | some a=>match gO (bO s.sl ix) with
   | some i=>match cO (bO s.sl x) with
     | some c=>tl T a.1 a.2.size i c
     | none=>none
   | none=>none
 | none=>match pW T t with
 | some y=>match gO (bO s.sl ix) with
   | some i=>match cO (bO s.sl x) with
     | some c=>po s.rs y.size i c
     | none=>none
   | none=>none
 | none=>none
def pS (y:Ty) (l:List C) (j:Nat):Option D:=match y.kd.agg with
 | true=>match takeN y.size (tw j l) with
   | some cs=>some (.a cs)
   | none=>none
 | false=>match aY l j with
   | some c=>some (.c c)
   | none=>none
def Lh (y:Ty) (n:Nat) (get:Nat→I):Option D:=match y.kd.agg with
 | true=>Bool.rec none (some (.a (dr get 0 y.size))) (Nat.ble y.size n)
 | false=>Bool.rec none (some (.c (.im (get 0)))) (Nat.blt 0 n)
def Gz (y:Ty) (sz n:Nat) (get:Nat→Nat→I) (i j:Nat):Option D:=match y.kd.agg with
 | true=>Bool.rec none (Bool.rec none (some (.a (dr (get i) j y.size))) (Nat.blt i n)) (Nat.ble (j+y.size) sz)
 | false=>Bool.rec none (Bool.rec none (some (.c (.im (get i j)))) (Nat.blt i n)) (Nat.blt j sz)
def AY (y:Ty) (sz n:Nat) (f:Nat→Option C) (i j:Nat):Option D:=match y.kd.agg with
 | true=>Bool.rec none (Bool.rec none (match nu f j y.size with
   | some l=>some (.a l)
   | none=>none) (Nat.blt i n)) (Nat.ble (j+y.size) sz)
 | false=>Bool.rec none (Bool.rec none (match f j with
   | some c=>some (.c c)
   | none=>none) (Nat.blt i n)) (Nat.blt j sz)
def vu (y:Ty) (x:Option ae) (i j:Nat):Option D:=match x with
 | some (.box l)=>match i with
   | 0=>pS y l j
   | _+1=>none
 | some (.row _ sz _ l)=>pS y l (i*sz+j)
 | some (.arr _ sz n get)=>Gz y sz n get i j
 | some (.gy _ sz n get dK)=>AY y sz n (wc get dK i) i j
 | _=>none
def Qq (T:dn) (y:Ty) (q:Nat):Option D:=match T.gl q with
 | some z=>match y.kd.agg with
   | true=>none
   | false=>some (.c (.im z))
 | none=>none
def qG (T:dn) (rs:List ae) (y:Ty) (c:C):Option D:=match c with
 | .rt r i j=>vu y (aY rs r) i j
 | .im (.gp q)=>Qq T y q
 | .im (.pt n get)=>Lh y n get
 | _=>none
def jS (T:dn) (s:VS) (t:Nat) (x:Operand):Option D:=match T.ty t with
 | some y=>match cO (bO s.sl x) with
   | some c=>qG T s.rs y c
   | none=>none
 | none=>none
def Rw (d:Option D):Option (List (Bool×List C)):=match d with
 | some (.t l)=>some l
 | _=>none
def qJ (s:VS) (x:Operand) (k:Nat):Option D:=match Rw (bO s.sl x) with
 | some l=>match aY l k with
   | some (true,cs)=>some (.a cs)
   | some (false,[c])=>some (.c c)
   | _=>none
 | none=>none
def sc (oN:List (Nat×Nat)) (sl:aG) (parts:List (Nat×Operand)):List C→Option (List C):=List.rec (fun l=>some l) (fun p _ ih l=>
 match aY oN p.1 with
 | some o=>match bO sl p.2 with
   | some d=>match d.cells with
     | some cs=>Bool.rec none (match put l o.1 cs with
       | some l'=>ih l'
       | none=>none) (Nat.beq cs.length o.2&&Nat.blt 0 o.2)
     | none=>none
   | none=>none
 | none=>none) parts
def z8 (T:dn) (s:VS) (t:Nat) (parts:List (Nat×Operand)):Option D:=match T.ty t with
 | some y=>match y.kd with
   | .struct fs=>match uJ y with
     | some z=>match sc fs s.sl parts z with
       | some l=>some (.a l)
       | none=>none
     | none=>none
   | _=>none
 | none=>none
def E4 (s:VS) (fn:Fn) (first:List Operand) (dR:List Operand):Option D:=match fn with
 | .func f=>match first with
   | []=>match vV s.sl dR with
     | some []=>some (.c (.ky f []))
     | some [.c (.rt r 0 0)]=>some (.c (.ky f [r]))
     | some [.c (.rt r 0 0),.c (.rt r' 0 0)]=>some (.c (.ky f [r,r']))
     | some [.c (.rt r 0 0),.c (.rt r' 0 0),.c (.rt r'' 0 0)]=>some (.c (.ky f [r,r',r'']))
     | _=>none
   | _=>none
 | _=>none
def Vl (c:C):Option D:=match c with
 | .im (.sl _ n _)=>some (int n)
 | .sa _ m=>some (int m)
 | .im (.v (.slice _ n _))=>some (int n)
 | _=>none
def K3 (T:dn) (s:VS) (ts:List TypeId) (xs:List Operand):Option D:=match ts,xs with
 | [t],[x]=>match T.ty t with
   | some { kd:=.slice _,.. }=>match cO (bO s.sl x) with
     | some c=>Vl c
     | none=>none
   | some { kd:=.str,.. }=>match B5 (bO s.sl x) with
     | some (.string b)=>some (int b.size)
     | _=>none
   | _=>none
 | _,_=>none
def LM (s:VS) (xs:List Operand):Option D:=match xs with
 | [x,y]=>match gO (bO s.sl x),gO (bO s.sl y) with
   | some a,some b=>some (int (if b>a then b else a))
   | _,_=>none
 | _=>none
def KK (s:VS) (xs:List Operand):Option D:=match xs with
 | [x,y]=>match gO (bO s.sl x),gO (bO s.sl y) with
   | some a,some b=>some (int (if b<a then b else a))
   | _,_=>none
 | _=>none
def DB (T:dn) (s:VS) (b:Builtin) (ts:List TypeId) (xs:List Operand):Option D:=match b with
 | .len=>K3 T s ts xs
 | .max=>LM s xs
 | .min=>KK s xs
 | _=>none
def CR (T:dn) (s:VS) (c:Call):Option D:=match c.callee with
 | .builtin b=>DB T s b c.argTypes.toList c.args.toList
 | _=>none
def H7 (T:dn) (t:Nat):Bool:=match T.ty t with
 | some { kd:=.map k e,.. }=>match T.ty k,T.ty e with
   | some { kd:=.int,.. },some { zero:=.bool false,.. }=>true
   | _,_=>false
 | _=>false
def I7 (rs:List ae) (c:C):Option (List Int):=match c with
 | .mp r=>match aY rs r with
   | some (.set l)=>some l
   | _=>none
 | .im (.st l)=>some l
 | _=>none
def YL (T:dn) (t:Nat):Bool:=match T.ty t with
 | some { kd:=.map k e,.. }=>match T.ty k,T.ty e with
   | some { kd:=.int,.. },some { zero:=.nilFunc,.. }=>true
   | _,_=>false
 | _=>false
def J5 (n:Int) (l:List (Int×FuncId)):Option FuncId:=List.rec none (fun x _ ih=>Bool.rec ih (some x.2) (n==x.1)) l
def YJ (x:Option FuncId):C:=match x with
 | some f=>.im (.fn f 0 fun _=>.v (.bool false))
 | none=>.im (.v .nilFunc)
def ZF (x:Option FuncId):Bool:=match x with
 | some _=>true
 | none=>false
def ZB (ok:Bool) (x:Option FuncId):D:=match ok with
 | true=>.t [(false,[YJ x]),(false,[.im (.v (.bool (ZF x)))])]
 | false=>.c (YJ x)
def V0 (T:dn) (s:VS) (t:Nat) (x i:Operand) (ok:Bool):Option D:=Bool.rec none (match cO (bO s.sl x),gO (bO s.sl i) with
 | some (.im (.fm l)),some n=>some (ZB ok (J5 n l))
 | _,_=>none) (YL T t)
def lT (T:dn) (s:VS) (t:Nat) (x i:Operand) (ok:Bool):Option D:=match ok with
 | true=>V0 T s t x i true
 | false=>Bool.rec (V0 T s t x i false) (match cO (bO s.sl x),gO (bO s.sl i) with
   | some c,some n=>match I7 s.rs c with
     | some l=>some (bool (dx n l))
     | none=>none
   | _,_=>none) (H7 T t)
def Ia (i:Int) (n:Nat):Bool:=match i with
 | .ofNat k=>Nat.ble k n
 | .negSucc _=>false
def lx (rs:List ae) (c:C) (h:Int):Option D:=match c with
 | .im (.sl sz n get)=>Bool.rec none (some (.c (.im (.sl sz h.toNat get)))) (Ia h n)
 | .sa r m=>match aY rs r with
   | some (.row _ _ _ _)=>Bool.rec none (some (.c (.sa r h.toNat))) (Ia h m)
   | some (.arr _ _ _ _)=>Bool.rec none (some (.c (.sa r h.toNat))) (Ia h m)
   | some (.gy _ _ _ _ _)=>Bool.rec none (some (.c (.sa r h.toNat))) (Ia h m)
   | _=>none
 | .im (.v (.slice none 0 0))=>Bool.rec none (some (.c c)) (h==0)
 | _=>none
def uH (sz:Nat) (c:C) (h:Int):Option D:=match c with
 | .im (.sl cj n get)=>Bool.rec none (some (.c (.im (.sl cj (n-h.toNat) fun i j=>get (h.toNat+i) j)))) (Ia h n&&Nat.beq cj sz)
 | _=>none
def jI (T:dn) (s:VS) (t:Nat) (x:Operand) (lo hi mx:Option Operand):Option D:=match lo,hi,mx with
 | none,some h,none=>match pW T t with
   | some _=>match cO (bO s.sl x),gO (bO s.sl h) with
     | some c,some n=>lx s.rs c n
     | _,_=>none
   | none=>none
 | some l,none,none=>match pW T t with
   | some y=>match cO (bO s.sl x),gO (bO s.sl l) with
     | some c,some n=>uH y.size c n
     | _,_=>none
   | none=>none
 | _,_,_=>none
def NK (T:dn) (s:VS) (t t':Nat) (x:Operand):Option D:=match T.ty t,T.ty t' with
 | some _,some { kd:=.int,.. }=>match cO (bO s.sl x) with
   | some (.im (.v (.int .u8 n)))=>some (int (IntKind.i64.wrap n))
   | _=>none
 | _,_=>none
def eK (T:dn) (s:VS) (op:Op):Option D:=match op with
 | .move x=>bO s.sl x
 | .assign x=>bO s.sl x
 | .pick c x y=>xo s c x y
 | .binOp o t x y _=>vP T s o t x y
 | .unOp o _ x=>Wm s o x
 | .nilCheck x=>sW s x
 | .fieldAddr t x f=>yS T s t x f
 | .indexAddr t x i=>lz T s t x i
 | .load t x=>jS T s t x
 | .extract x k=>qJ s x k
 | .build t ps=>z8 T s t ps.toList
 | .makeFunc fn first dR=>E4 s fn first.toList dR.toList
 | .call c=>CR T s c
 | .lookup t x i ok=>lT T s t x i ok
 | .slice t x lo hi mx=>jI T s t x lo hi mx
 | .convert t t' x=>NK T s t t' x
 | _=>none
structure Hint where
 VD:FuncId→Nat→Option (List Tmp)
 mode:FuncId→Nat
 cp:Tmp→Bool:=fun _=>false
structure Lo where
 call:FuncId→List D→List ae→Option (D×List ae)
 Jc:Nat→List D→List ae→Option (D×List ae)
 diff:List ae→List ae→Option (List (Nat×ae))
 wr:FuncId→List D→List ae→Option (D×Nat×ae)
def oR (N:Nat) (s:VS) (dst:Option Tmp) (d:D):Option VS:=match dst with
 | none=>some s
 | some t=>Bool.rec none (some { s with sl:=(t,d,[])::s.sl }) (Nat.blt t N)
def Ez (r:Nat) (sz:Nat) (get:Nat→Nat→I) (x:C):C:=match x with
 | .sa q m=>Bool.rec x (.im (.sl sz m get)) (Nat.beq q r)
 | _=>x
def O8 (r:Nat) (sz:Nat) (get:Nat→Nat→I) (d:D):D:=match d with
 | .c x=>.c (Ez r sz get x)
 | .a l=>.a (l.map (Ez r sz get))
 | .t l=>.t (l.map fun x=>(x.1,x.2.map (Ez r sz get)))
def HX (r:Nat) (sz:Nat) (get:Nat→Nat→I) (x:ae):ae:=match x with
 | .box l=>.box (l.map (Ez r sz get))
 | .row e k n l=>.row e k n (l.map (Ez r sz get))
 | _=>x
def FV (r sz:Nat) (s:VS) (l:Option (List I)):Option VS:=match l with
 | some is=>some { s with sl:=s.sl.map (fun x=>(x.1,O8 r sz (flat sz is) x.2.1,x.2.2)),rs:=setAt (s.rs.map (HX r sz (flat sz is))) r .dead }
 | none=>none
def pQ (r sz:Nat) (get:Nat→Nat→I) (s:VS):VS:={ s with sl:=s.sl.map (fun x=>(x.1,O8 r sz get x.2.1,x.2.2)),rs:=setAt (s.rs.map (HX r sz get)) r .dead }
def freeze (r:Nat) (s:VS):Option VS:=match aY s.rs r with
 | some (.row _ sz _ l)=>FV r sz s (zo l)
 | some (.arr _ sz _ get)=>some (pQ r sz get s)
 | some (.gy _ sz _ get none)=>some (pQ r sz (fun i j=>oI (get i j)) s)
 | some .dead=>some s
 | _=>none
def fV (l:List Nat) (s:VS):Option VS:=List.rec (fun s=>some s) (fun r _ ih s=>match freeze r s with
 | some s'=>ih s'
 | none=>none) l s
def RI (rec:List C→Option (List Nat)) (rs:List ae) (x:C):Option (List Nat):=match x with
 | .im _=>some []
 | .sa r _=>match aY rs r with
   | some (.row _ _ _ l)=>match rec l with
     | some m=>some (m++[r])
     | none=>none
   | some (.arr _ _ _ _)=>some [r]
   | some (.gy _ _ _ _ none)=>some [r]
   | _=>none
 | _=>none
def BU (rec:List C→Option (List Nat)) (rs:List ae) (l:List C):Option (List Nat):=List.rec (some []) (fun x _ ih=>match RI rec rs x with
 | some a=>match ih with
   | some b=>some (a++b)
   | none=>none
 | none=>none) l
def R7 (rs:List ae) (k:Nat):List C→Option (List Nat):=Nat.rec (fun _=>none) (fun _ ih=>BU ih rs) k
def Dk (rs:List ae) (d:D):Option (List Nat):=match d with
 | .c x=>R7 rs 6 [x]
 | .a l=>R7 rs 6 l
 | .t _=>none
def sf (rs:List ae) (l:List D):Option (List Nat):=List.rec (some []) (fun d _ ih=>match Dk rs d,ih with
 | some a,some b=>some (a++b)
 | _,_=>none) l
inductive bP where
 | val (d:D)
 | wr (d:Option D) (ws:List (Nat×ae))
 | all (d:D) (rs:List ae)
 | cp (l:List Nat)
def sQ (b:Nat) (s:VS) (x:Operand):Option bP:=match bO s.sl x with
 | some d=>match d.cells with
   | some l=>some (.wr (some (.c (.rt b 0 0))) [(b,.box l)])
   | none=>none
 | none=>none
def jR (T:dn) (b:Nat) (t:Nat):Option bP:=match T.ty t with
 | some y=>match uJ y with
   | some l=>some (.wr (some (.c (.rt b 0 0))) [(b,.box l)])
   | none=>none
 | none=>none
def fE (get:Nat→Nat→I) (i j:Nat) (ys:List I):Nat→Nat→I:=fun i' j'=>Bool.rec (get i' j') (bu ys (j'-j)) (Nat.beq i' i&&(Nat.ble j j'&&Nat.blt j' (j+ys.length)))
def mB (rs:List ae) (l:List C):Option bP:=match R7 rs 6 l with
 | some (r::m)=>some (.cp (r::m))
 | _=>none
def G3 (get:Nat→Nat→O) (i j:Nat) (ys:List I):Nat→Nat→O:=fun i' j'=>Bool.rec (get i' j') (.im (bu ys (j'-j))) (Nat.beq i' i&&(Nat.ble j j'&&Nat.blt j' (j+ys.length)))
noncomputable def G2 (ys:List C):List Fc→Nat→Option (List Fc):=List.rec (fun l _=>some l) (fun y _ ih l o=>match aY l o with
 | some _=>ih (setAt l o (.c y)) (o+1)
 | none=>none) ys
noncomputable def mr (el sz n:Nat) (get:Nat→Nat→O) (dK:Option (Nat×List Fc)) (size r i j:Nat) (cs:List C):Option bP:=match zo cs with
 | some ys=>Bool.rec none (Bool.rec none (some (.wr none [(r,.gy el sz n (G3 get i j ys) dK)])) (Nat.blt i n)) (Nat.ble (j+size) sz)
 | none=>none
noncomputable def oE (el sz n:Nat) (get:Nat→Nat→O) (dK:Option (Nat×List Fc)) (size r i j:Nat) (cs:List C):Option bP:=match dK with
 | none=>mr el sz n get dK size r i j cs
 | some x=>Bool.rec (mr el sz n get dK size r i j cs) (match G2 cs x.2 j with
   | some l=>Bool.rec none (some (.wr none [(r,.gy el sz n get (some (x.1,l)))])) (Nat.ble (j+size) sz)
   | none=>none) (Nat.beq i x.1)
def kB (rs:List ae) (size r i j:Nat) (cs:List C):Option bP:=match aY rs r with
 | some (.box l)=>match i with
   | 0=>match put l j cs with
     | some l'=>some (.wr none [(r,.box l')])
     | none=>none
   | _+1=>none
 | some (.row el sz n l)=>match put l (i*sz+j) cs with
   | some l'=>some (.wr none [(r,.row el sz n l')])
   | none=>none
 | some (.arr el sz n get)=>match zo cs with
   | some ys=>Bool.rec none (Bool.rec none (some (.wr none [(r,.arr el sz n (fE get i j ys))])) (Nat.blt i n)) (Nat.ble (j+size) sz)
   | none=>mB rs cs
 | some (.gy el sz n get dK)=>oE el sz n get dK size r i j cs
 | _=>none
def gh (T:dn) (s:VS) (dst:Option Tmp) (t:Nat) (x v:Operand):Option bP:=match dst with
 | some _=>none
 | none=>match T.ty t,bO s.sl v with
   | some y,some d=>match d.cells with
     | some cs=>Bool.rec none (match cO (bO s.sl x) with
       | some (.rt r i j)=>kB s.rs y.size r i j cs
       | _=>none) (Nat.beq cs.length y.size&&Nat.blt 0 y.size)
     | none=>none
   | _,_=>none
def mh (sz:Nat) (sl:aG) (parts:List (Nat×Operand)):List C→Option (List C):=List.rec (fun l=>some l) (fun p _ ih l=>
 match bO sl p.2 with
 | some d=>match d.cells with
   | some cs=>Bool.rec none (match put l (p.1*sz) cs with
     | some l'=>ih l'
     | none=>none) (Nat.beq cs.length sz&&Nat.blt 0 sz)
   | none=>none
 | none=>none) parts
def Gd (cp:Bool) (b el sz n:Nat) (l:List C):bP:=match cp with
 | false=>.wr (some (.c (.sa b n))) [(b,.row el sz n l)]
 | true=>match zo l with
   | some is=>.val (.c (.im (.sl sz n (flat sz is))))
   | none=>.wr (some (.c (.sa b n))) [(b,.row el sz n l)]
def lJ:Nat→Nat→I:=fun _ _=>.v (.bool false)
def Gs (cp:Bool) (b el sz n:Nat) (l:List C):bP:=match n with
 | 0=>.wr (some (.c (.sa b 0))) [(b,.arr el sz 0 lJ)]
 | n+1=>Gd cp b el sz (n+1) l
def qf (hi:Hint) (dst:Option Tmp):Bool:=match dst with
 | some t=>hi.cp t
 | none=>false
theorem iV (cp:Bool) (b el sz n:Nat) (l:List C):Gs cp b el sz n l=.wr (some (.c (.sa b n))) [(b,.row el sz n l)]∨(∃ is,zo l=some is∧Gs cp b el sz n l=.val (.c (.im (.sl sz n (flat sz is)))))∨(n=0∧Gs cp b el sz n l=.wr (some (.c (.sa b 0))) [(b,.arr el sz 0 lJ)]):=by
 cases n with
 | zero=>exact .inr (.inr ⟨rfl,rfl⟩)
 | succ n=>
   show Gd cp b el sz (n+1) l=_∨(∃ is,zo l=some is∧Gd cp b el sz (n+1) l=_)∨_
   unfold Gd
   cases cp with
   | false=>exact .inl rfl
   | true=>
     cases h:zo l with
     | none=>exact .inl rfl
     | some is=>exact .inr (.inl ⟨is,rfl,rfl⟩)
def H9 (T:dn) (b:Nat) (s:VS) (cp:Bool) (t n:Nat) (parts:List (Nat×Operand)):Option bP:=match T.ty t with
 | some { kd:=.slice el,.. }=>match T.ty el with
   | some y=>match uJ y with
     | some z=>match mh y.size s.sl parts (LJ z n) with
       | some l=>Bool.rec none (some (Gs cp b el y.size n l)) (Nat.blt 0 y.size&&Nat.ble (n*y.size) 1000000)
       | none=>none
     | none=>none
   | none=>none
 | _=>none
def dX (n bytes:Nat):Bool:=Nat.ble n maxLen&&Nat.ble (n*bytes) 140737488355328
def Am (el sz k:Nat) (l':List C) (bytes b:Nat) (rs:List ae) (c:C):Option bP:=match c with
 | .im (.v (.slice none 0 0))=>match k with
   | 0=>some (.val (.c c))
   | _+1=>Bool.rec none (some (.wr (some (.c (.sa b k))) [(b,.row el sz k l')])) (dX k bytes)
 | .sa r m=>match aY rs r with
   | some (.row nL cj n l)=>Bool.rec none (Bool.rec none (some (.wr (some (.c (.sa b (n+k)))) [(r,.dead),(b,.row el sz (n+k) (l++l'))]))
     (Nat.beq m n&&dX (n+k) bytes)) (Nat.beq el nL&&Nat.beq sz cj)
   | some (.gy nL cj n get none)=>match k with
     | 1=>Bool.rec none (Bool.rec none (some (.wr (some (.c (.sa b (n+1)))) [(r,.dead),(b,.gy el sz (n+1) get (some (n,l'.map Fc.c)))]))
       (Nat.beq m n&&dX (n+1) bytes)) (Nat.beq el nL&&Nat.beq sz cj)
     | _=>none
   | _=>none
 | _=>none
def sN (get:Nat→Nat→I) (sz:Nat) (i:Nat) (n:Nat):List C:=Nat.rec (fun _=>[]) (fun _ ih i=>dr (get i) 0 sz++ih (i+1)) n i
def j0 (n:Nat) (get get':Nat→Nat→I):Nat→Nat→I:=fun i j=>Bool.rec (get' (i-n) j) (get i j) (Nat.blt i n)
def pK (el sz k:Nat) (get':Nat→Nat→I) (bytes b:Nat) (rs:List ae) (c:C):Option bP:=match c with
 | .im (.v (.slice none 0 0))=>Bool.rec none (some (.wr (some (.c (.sa b k))) [(b,.arr el sz k get')])) (dX k bytes)
 | .sa r m=>match aY rs r with
   | some (.arr nL cj n get)=>Bool.rec none (Bool.rec none (Bool.rec none (some (.wr (some (.c (.sa b (n+k)))) [(r,.dead),(b,.arr el sz (n+k) (j0 n get get'))]))
     (Nat.beq m n)) (dX (n+k) bytes)) (Nat.beq el nL&&Nat.beq sz cj)
   | _=>none
 | _=>none
def tF (rs:List ae) (c:C):Option (Nat×Nat×List C):=match c with
 | .im (.sl sz k get)=>some (sz,k,sN get sz 0 k)
 | .im (.v (.slice none 0 0))=>some (0,0,[])
 | .sa q k=>match aY rs q with
   | some (.row _ sz n l)=>Bool.rec none (match takeN (k*sz) l with
     | some l'=>some (sz,k,l')
     | none=>none) (Nat.ble k n)
   | some (.arr _ sz n get)=>Bool.rec none (some (sz,k,sN get sz 0 k)) (Nat.ble k n)
   | _=>none
 | _=>none
def qF (sz:Nat) (rs:List ae) (c:C):Option (Nat×(Nat→Nat→I)):=match c with
 | .im (.sl cj k get)=>Bool.rec none (some (k,get)) (Nat.beq cj sz)
 | .im (.v (.slice none 0 0))=>some (0,fun _ _=>.v (.bool false))
 | .sa q k=>match aY rs q with
   | some (.row _ cj n l)=>Bool.rec none (match takeN (k*sz) l with
     | some l'=>match zo l' with
       | some is=>some (k,flat sz is)
       | none=>none
     | none=>none) (Nat.ble k n&&Nat.beq cj sz)
   | some (.arr _ cj n get)=>Bool.rec none (Bool.rec none (some (k,get)) (Nat.ble k n)) (Nat.beq cj sz)
   | _=>none
 | _=>none
def Ik (rs:List ae) (c src:C):Bool:=match c with
 | .sa r _=>match aY rs r with
   | some (.arr _ _ _ _)=>true
   | _=>false
 | .im (.v (.slice none 0 0))=>match src with
   | .im (.sl _ _ _)=>true
   | .sa q _=>match aY rs q with
     | some (.arr _ _ _ _)=>true
     | _=>false
   | _=>false
 | _=>false
def yY (ty:Ty) (el b:Nat) (rs:List ae) (c src:C):Option bP:=match qF ty.size rs src with
 | some (k,get')=>Bool.rec none (pK el ty.size k get' ty.bytes b rs c) (Nat.blt 0 ty.size)
 | none=>mB rs [src]
def nN (T:dn) (el b:Nat) (rs:List ae) (x src:Option C):Option (Option bP):=match x,src with
 | some c,some src=>match Ik rs c src with
   | true=>match T.ty el with
     | some ty=>some (yY ty el b rs c src)
     | none=>some none
   | false=>none
 | _,_=>none
def ng (T:dn) (el:Nat) (b:Nat) (rs:List ae) (x src:Option C):Option bP:=match T.ty el with
 | some ty=>match src with
   | some src=>match tF rs src with
     | some (sz,k,l')=>match x with
       | some c=>match k with
         | 0=>Bool.rec none (Am el ty.size 0 [] ty.bytes b rs c) (Nat.blt 0 ty.size)
         | _+1=>Bool.rec none (Am el sz k l' ty.bytes b rs c) (Nat.beq sz ty.size&&Nat.blt 0 sz)
       | none=>none
     | none=>none
   | none=>none
 | none=>none
def mH (T:dn) (b:Nat) (s:VS) (ts:List TypeId) (xs:List Operand):Option bP:=match ts,xs with
 | [t,t'],[x,y]=>Bool.rec none (match T.ty t with
   | some { kd:=.slice el,.. }=>match nN T el b s.rs (cO (bO s.sl x)) (cO (bO s.sl y)) with
     | some e=>e
     | none=>ng T el b s.rs (cO (bO s.sl x)) (cO (bO s.sl y))
   | _=>none) (Nat.beq t t')
 | _,_=>none
def wu (lo:Lo) (rs:List ae) (f:FuncId) (ds:List D):Option D:=match cP rs ds with
 | some is=>match lo.call f is [] with
   | some (d,aE)=>aQ aE d
   | none=>none
 | none=>none
def tQ (lo:Lo) (rs:List ae) (f:FuncId) (ds:List D) (b:Nat):Option bP:=match cP rs ds with
 | some is=>match lo.call f is [] with
   | some (.c (.sa q m),aE)=>match aY aE q with
     | some (.row el sz n l)=>Bool.rec none (some (.wr (some (.c (.sa b n))) [(b,.row el sz n l)])) (Nat.beq m n&&fh l)
     | some (.arr el sz n get)=>Bool.rec none (some (.wr (some (.c (.sa b n))) [(b,.arr el sz n get)])) (Nat.beq m n)
     | _=>none
   | some (d,aE)=>match aQ aE d with
     | some d'=>Bool.rec none (some (.val d')) (gK d')
     | none=>none
   | none=>none
 | none=>none
def iy (rs:List ae) (ds:List D) (e:bP):Option bP:=match sf rs ds with
 | some (r::l)=>some (.cp (r::l))
 | some []=>some e
 | none=>none
def rl (lo:Lo) (rs:List ae) (f:FuncId) (ds:List D):Option bP:=match lo.call f ds rs with
 | some (d,aE)=>some (.all d aE)
 | none=>none
def gn (lo:Lo) (rs:List ae) (f:FuncId) (ds:List D):Option bP:=match wu lo rs f ds with
 | some d=>Bool.rec (Bool.rec none (iy rs ds (.val d)) (jl d)) (some (.val d)) (gK d)
 | none=>none
def fH (lo:Lo) (rs:List ae) (f:FuncId) (ds:List D) (b:Nat):Option bP:=match tQ lo rs f ds b with
 | some (.val d)=>some (.val d)
 | some (.wr d [(q,.row el sz n l)])=>Bool.rec (iy rs ds (.wr d [(q,.row el sz n l)])) (some (.wr d [(q,.row el sz n l)])) (eJ l)
 | some (.wr d [(q,.arr el sz n get)])=>iy rs ds (.wr d [(q,.arr el sz n get)])
 | _=>none
def NH (b:Nat) (c:C):Option C:=match c with
 | .im x=>some (.im x)
 | .ow 0 j=>some (.ow b j)
 | _=>none
def wq (lo:Lo) (rs:List ae) (f:FuncId) (ds:List D) (b:Nat):Option bP:=Bool.rec none (match cP rs ds with
 | some is=>match lo.call f is [] with
   | some (.a cs,[.own L])=>match pH (NH b) cs with
     | some mc=>some (.wr (some (.a mc)) [(b,.own L)])
     | none=>none
   | _=>none
 | none=>none) (eQ ds)
def MQ (lo:Lo) (rs:List ae) (f:FuncId) (ds:List D):Option bP:=match lo.wr f ds rs with
 | some (d,q,x)=>Bool.rec none (some (.wr (some d) [(q,x)])) (Nat.blt q rs.length)
 | none=>none
def mL (lo:Lo) (hi:Hint) (rs:List ae) (b:Nat) (f:FuncId) (ds:List D):Option bP:=match hi.mode f with
 | 0=>gn lo rs f ds
 | 1=>rl lo rs f ds
 | 2=>fH lo rs f ds b
 | 4=>MQ lo rs f ds
 | 5=>wq lo rs f ds b
 | _=>Bool.rec (rl lo rs f ds) (gn lo rs f ds) (eQ ds)
def yC (lo:Lo) (rs:List ae) (r:Nat) (ds:List D):Option bP:=match lo.Jc r ds rs with
 | some (d,aE)=>some (.all d aE)
 | none=>none
def nA (c:C):Option (FuncId×List D):=match c with
 | .ky f dR=>some (f,dR.map fun r=>.c (.rt r 0 0))
 | .im (.fn f n cap)=>some (f,(dr cap 0 n).map .c)
 | _=>none
def kG (lo:Lo) (hi:Hint) (b:Nat) (s:VS) (f:Operand) (xs:List Operand):Option bP:=match cO (bO s.sl f),vV s.sl xs with
 | some c,some ds=>match c with
   | .yl r=>yC lo s.rs r ds
   | _=>match nA c with
     | some (g,dR)=>mL lo hi s.rs b g (ds++dR)
     | none=>none
 | _,_=>none
def fQ (T:dn) (lo:Lo) (hi:Hint) (b:Nat) (s:VS) (c:Call):Option bP:=match c.callee with
 | .builtin .append=>mH T b s c.argTypes.toList c.args.toList
 | .value f=>kG lo hi b s f c.args.toList
 | _=>none
def jP (T:dn) (b t:Nat) (r:Option Operand):Option bP:=match r,T.ty t with
 | none,some { kd:=.map _ _,.. }=>some (.wr (some (.c (.mp b))) [(b,.set [])])
 | _,_=>none
def kY (T:dn) (b:Nat) (s:VS) (t:Nat) (l c:Operand):Option bP:=match T.ty t with
 | some { kd:=.slice el,.. }=>match T.ty el with
   | some y=>match uJ y with
     | some z=>match gO (bO s.sl l),gO (bO s.sl c) with
       | some (.ofNat n),some (.ofNat m)=>match zo z with
         | some is=>Bool.rec none (Bool.rec none (Bool.rec none (some (.wr (some (.c (.sa b n))) [(b,.arr el y.size n (fun _=>bu is))])) (Nat.beq n m)) (Nat.ble n maxLen&&Nat.ble (n*y.bytes) 281474976710656)) (Nat.blt 0 y.size)
         | none=>none
       | _,_=>none
     | none=>none
   | none=>none
 | _=>none
def kO (T:dn) (s:VS) (dst:Option Tmp) (t:Nat) (m k v:Operand):Option bP:=match dst with
 | some _=>none
 | none=>Bool.rec none (match cO (bO s.sl m),gO (bO s.sl k),iz (bO s.sl v) with
   | some (.mp r),some n,some true=>match aY s.rs r with
     | some (.set l)=>some (.wr none [(r,.set (qA n l))])
     | _=>none
   | _,_,_=>none) (H7 T t)
def fY (T:dn) (lo:Lo) (hi:Hint) (b:Nat) (s:VS) (dst:Option Tmp) (op:Op):Option bP:=match op with
 | .box _ x=>sQ b s x
 | .alloc t=>jR T b t
 | .store t x v=>gh T s dst t x v
 | .buildSlice t n ps=>H9 T b s (qf hi dst) t n ps.toList
 | .call c=>fQ T lo hi b s c
 | .makeMap t r=>jP T b t r
 | .makeSlice t l c=>kY T b s t l c
 | .mapUpdate t m k v=>kO T s dst t m k v
 | _=>none
def fk (T:dn) (lo:Lo) (hi:Hint) (b:Nat) (s:VS) (dst:Option Tmp) (op:Op):Option bP:=match eK T s op with
 | some d=>some (.val d)
 | none=>fY T lo hi b s dst op
def writes (ws:List (Nat×ae)) (rs:List ae):List ae:=List.rec (fun rs=>rs) (fun p _ ih rs=>ih (setAt rs p.1 p.2)) ws rs
def place (b:Nat) (x:ae) (rs:List ae):List ae:=Bool.rec (setAt rs b x) (rs++[x]) (Nat.beq b rs.length)
def B3 (e:bP) (rs:List ae):List ae:=match e with
 | .wr _ [(q,x)]=>place q x rs
 | .wr _ [(q,x),(b,y)]=>place b y (setAt rs q x)
 | .all _ aE=>aE
 | _=>rs
def FU (N:Nat) (s:VS) (dst:Option Tmp) (d:Option D):Option VS:=match d with
 | some d=>oR N s dst d
 | none=>some s
def oi (N:Nat) (s:VS) (dst:Option Tmp) (e:bP):Option VS:=match e with
 | .val d=>oR N s dst d
 | .wr d ws=>FU N { s with rs:=B3 (.wr d ws) s.rs } dst d
 | .all d rs=>oR N { s with rs:=rs } dst d
 | .cp _=>none
def Mc (T:dn) (lo:Lo) (hi:Hint) (N:Nat) (dst:Option Tmp) (op:Op) (s:Option VS):Option VS:=match s with
 | some s=>match fk T lo hi s.rs.length s dst op with
   | some e=>oi N s dst e
   | none=>none
 | none=>none
def AU (T:dn) (lo:Lo) (hi:Hint) (N:Nat) (s:VS) (dst:Option Tmp) (op:Op):Option VS:=match fk T lo hi s.rs.length s dst op with
 | some (.cp l)=>Mc T lo hi N dst op (fV l s)
 | some e=>oi N s dst e
 | none=>none
def FI (d:Option D) (want:Bool):Option Bool:=match d with
 | some (.t [])=>some false
 | _=>match iz d with
   | some x=>some (G0 x want)
   | none=>none
def kP (ops:List Oper) (sl:aG) (g:Option (Nat×Bool)):Option Bool:=match g with
 | none=>some true
 | some (j,want)=>match aY ops j with
   | some p=>match p.dst with
     | some t=>FI (eb sl t) want
     | none=>none
   | none=>none
def Tv (T:dn) (lo:Lo) (hi:Hint) (N:Nat) (ops:List Oper) (s:VS) (o:Oper):Option VS:=match kP ops s.sl o.guard with
 | some true=>AU T lo hi N s o.dst o.op
 | some false=>oR N s o.dst (.t [])
 | none=>none
def Hs (T:dn) (lo:Lo) (hi:Hint) (N:Nat) (ops l:List Oper):VS→Option VS:=List.rec (fun s=>some s) (fun o _ ih s=>match Tv T lo hi N ops s o with
 | some s'=>ih s'
 | none=>none) l
end
open Go.RowKit
inductive az {α β:Type} (R:α→β→Prop):List α→List β→Prop
 | nil:az R [] []
 | cons {x y l m}:R x y→az R l m→az R (x::l) (y::m)
theorem az.mono {α β:Type} {R S:α→β→Prop} (h:∀ x y,R x y→S x y) {l:List α} {m:List β} (k:az R l m):az S l m:=by
 induction k with
 | nil=>exact .nil
 | cons a _ ih=>exact .cons (h _ _ a) ih
theorem az.length {α β:Type} {R:α→β→Prop} {l:List α} {m:List β} (k:az R l m):l.length=m.length:=by
 induction k with
 | nil=>rfl
 | cons _ _ ih=>simp [ih]
theorem az.nth {α β:Type} {R:α→β→Prop} {l:List α} {m:List β} (k:az R l m):∀ {i x},V.nth l i=some x→∃ y,m[i]?=some y∧R x y:=by
 induction k with
 | nil=>intro i x h; simp [V.nth] at h
 | cons a b ih=>
   intro i x h
   cases i with
   | zero=>simp only [V.nth,ak] at h; subst h; exact ⟨_,rfl,a⟩
   | succ i=>simp only [V.nth] at h; obtain ⟨y,h1,h2⟩:=ih h; exact ⟨y,by simpa using h1,h2⟩
theorem bc {α:Type}:∀ (l:List α) (i:Nat),nth l i=l[i]?
 | [],_=>rfl
 | _::_,0=>rfl
 | _::l,i+1=>by simp only [nth]; rw [bc l i]; simp
theorem bm {α:Type}:∀ (l:List α) (i:Nat) (x:α),setAt l i x=l.set i x
 | [],_,_=>rfl
 | _::_,0,_=>rfl
 | _::l,i+1,x=>by simp only [setAt]; rw [bm l i]; simp
theorem az.set {α β:Type} {R:α→β→Prop} {l:List α} {m:List β} (k:az R l m):∀ (i:Nat) {x:α} {y:β},R x y→az R (l.set i x) (m.set i y):=by
 induction k with
 | nil=>intro i x y _; exact .nil
 | cons a b ih=>
   intro i x y h
   cases i with
   | zero=>exact .cons h b
   | succ i=>exact .cons a (ih i h)
theorem az.append {α β:Type} {R:α→β→Prop} {l l':List α} {m m':List β} (k:az R l m) (k':az R l' m'):az R (l++l') (m++m'):=by
 induction k with
 | nil=>exact k'
 | cons a _ ih=>exact .cons a ih
theorem kL:∀ (n:Nat) (l r:List C),takeN n l=some r→r=l.take n∧n≤l.length
 | 0,l,r,h=>by simp [takeN] at h; simp [h]
 | n+1,[],r,h=>by simp [takeN] at h
 | n+1,x::l,r,h=>by
   simp only [takeN] at h
   split at h
   ·rename_i q hq
    obtain ⟨h1,h2⟩:=kL n l q hq
    simp only [ak] at h
    subst h
    simp [h1]; omega
   ·simp at h
theorem uM:∀ (n:Nat) (l:List C),tw n l=l.drop n
 | 0,_=>rfl
 | _+1,[]=>rfl
 | n+1,_::l=>by simp only [tw]; rw [uM n l]; rfl
theorem az.drop {α β:Type} {R:α→β→Prop} {l:List α} {m:List β} (k:az R l m):∀ n,az R (l.drop n) (m.drop n):=by
 induction k with
 | nil=>intro n; simp; exact .nil
 | cons a b ih=>
   intro n
   cases n with
   | zero=>exact .cons a b
   | succ n=>simpa using ih n
theorem az.take {α β:Type} {R:α→β→Prop} {l:List α} {m:List β} (k:az R l m):∀ n,az R (l.take n) (m.take n):=by
 induction k with
 | nil=>intro n; simp; exact .nil
 | cons a b ih=>
   intro n
   cases n with
   | zero=>simp; exact .nil
   | succ n=>simpa using .cons a (ih n)
def cA (av:Nat→Prop) (w:World):I→Value→Prop
 | .v x,v=>v=x∧x.oneCell'=true
 | .sl sz n get,v=>∃ a cap,v=.slice a n cap∧n≤cap∧n≤maxLen∧(0<n→∃ ad:Addr,a=some ad∧ad.spot=none∧¬ av ad.block∧ad.block<w.heap.size∧
   ∀ i,i<n→∀ j,j<sz→∃ x,w.cell? (ad.add (i*sz+j))=some x∧cA av w (get i j) x)
 | .pt sz get,v=>∃ ad:Addr,v=.pointer (some ad)∧ad.spot=none∧¬ av ad.block∧ad.block<w.heap.size∧∀ j,j<sz→∃ x,w.cell? (ad.add j)=some x∧cA av w (get j) x
 | .fn f n cap,v=>∃ vs:Array Value,v=.func (.func f) #[] vs∧vs.size=n∧∀ j,j<n→∃ x,vs[j]?=some x∧cA av w (cap j) x
 | .st l,v=>∃ b es clock,v=.map (some b)∧¬ av b∧w.heap[b]?=some (.map es clock)∧az (fun n (x:MapEntry)=>x.key=.int .i64 n∧x.val=.bool true) l es.toList
 | .gp g,v=>v=.pointer (some ⟨g,0,none⟩)
 | .fm l,v=>∃ b es clock,v=.map (some b)∧¬ av b∧w.heap[b]?=some (.map es clock)∧∀ n:Int,Instr.findNow (.int .i64) (.int .i64 n) es.toList 0=some none∧w5 n l=none∨∃ k f,Instr.findNow (.int .i64) (.int .i64 n) es.toList 0=some (some (k,.func (.func f) #[] #[]))∧w5 n l=some f
 | .tx s,v=>v=.string s∧s.size≤maxLen
theorem cA.one {av:Nat→Prop} {w:World} {x:I} {v:Value} (h:cA av w x v):v.oneCell'=true:=by
 cases x with
 | v x=>obtain ⟨rfl,h⟩:=h; exact h
 | sl sz n get=>obtain ⟨a,cap,rfl,_⟩:=h; rfl
 | pt sz get=>obtain ⟨ad,rfl,_⟩:=h; rfl
 | fn f n cap=>obtain ⟨vs,rfl,_⟩:=h; rfl
 | st l=>obtain ⟨b,es,clock,rfl,_⟩:=h; rfl
 | gp g=>obtain rfl:=h; rfl
 | fm l=>obtain ⟨b,es,clock,rfl,_⟩:=h; rfl
 | tx s=>obtain ⟨rfl,_⟩:=h; rfl
theorem block_add (a:Addr) (n:Nat):(a.add n).block=a.block:=by unfold Addr.add; split<;>rfl
theorem ru {w w':World} {a:Addr} (h:w'.heap[a.block]?=w.heap[a.block]?):w'.cell? a=w.cell? a:=World.cell?_of_block (w:=w) h
structure aZ (av:Nat→Prop) (w w':World):Prop where
 size:w.heap.size≤w'.heap.size
 same:∀ b,b<w.heap.size→¬ av b→w'.heap[b]?=w.heap[b]?
theorem aZ.refl (av:Nat→Prop) (w:World):aZ av w w:=⟨bf _,fun _ _ _=>rfl⟩
theorem aZ.kW {av:Nat→Prop} {w w':World} (h:Below w.heap.size w w'):aZ av w w':=⟨h.size,fun b hb _=>h.block b hb⟩
theorem cA.mono {av cF:Nat→Prop} {w w':World} (hk:aZ av w w') (ha:∀ b,b<w.heap.size→cF b→av b):∀ {x:I} {v:Value},cA av w x v→cA cF w' x v:=by
 intro x
 induction x with
 | v x=>intro v h; exact h
 | sl sz n get ih=>
   rintro v ⟨a,cap,rfl,hn,hm,h⟩
   refine ⟨a,cap,rfl,hn,hm,fun h0=>?_⟩
   obtain ⟨ad,h1,h2,h3,h4,h5⟩:=h h0
   refine ⟨ad,h1,h2,fun q=>h3 (ha _ h4 q),Nat.lt_of_lt_of_le h4 hk.size,fun i hi j hj=>?_⟩
   obtain ⟨x,q1,q2⟩:=h5 i hi j hj
   exact ⟨x,by rw [ru (w:=w) (by rw [block_add]; exact hk.same _ h4 h3)]; exact q1,ih i j q2⟩
 | pt sz get ih=>
   rintro v ⟨ad,rfl,h2,h3,h4,h5⟩
   refine ⟨ad,rfl,h2,fun q=>h3 (ha _ h4 q),Nat.lt_of_lt_of_le h4 hk.size,fun j hj=>?_⟩
   obtain ⟨x,q1,q2⟩:=h5 j hj
   exact ⟨x,by rw [ru (w:=w) (by rw [block_add]; exact hk.same _ h4 h3)]; exact q1,ih j q2⟩
 | fn f n cap ih=>
   rintro v ⟨vs,rfl,h1,h2⟩
   refine ⟨vs,rfl,h1,fun j hj=>?_⟩
   obtain ⟨x,q1,q2⟩:=h2 j hj
   exact ⟨x,q1,ih j q2⟩
 | st l=>
   rintro v ⟨b,es,clock,rfl,h1,h2,h3⟩
   have dp:b<w.heap.size:=(Array.getElem?_eq_some_iff.1 h2).1
   exact ⟨b,es,clock,rfl,fun q=>h1 (ha _ dp q),(hk.same _ dp h1).trans h2,h3⟩
 | gp g=>intro v h; exact h
 | tx s=>intro v h; exact h
 | fm l=>
   rintro v ⟨b,es,clock,rfl,h1,h2,h3⟩
   have dp:b<w.heap.size:=(Array.getElem?_eq_some_iff.1 h2).1
   exact ⟨b,es,clock,rfl,fun q=>h1 (ha _ dp q),(hk.same _ dp h1).trans h2,h3⟩
abbrev Hd:=Value×(Nat→Prop)
abbrev lS (v:Value):Hd:=(v,fun _=>False)
abbrev kF:Hd:=lS undef
abbrev gr:=Option Nat×Hd×Nat
abbrev Env:=List gr
def a7 (E:Env) (r b sz:Nat):Prop:=∃ h,E[r]?=some (some b,h,sz)
def gr.has (e:gr) (b:Nat):Prop:=e.1=some b∨e.2.1.2 b
def di (E:Env) (r b sz:Nat):Prop:=∃ e:gr,E[r]?=some e∧e.2.2=sz∧e.has b
theorem a7.own {E:Env} {r b sz:Nat} (h:a7 E r b sz):di E r b sz:=by obtain ⟨h,q⟩:=h; exact ⟨_,q,rfl,.inl rfl⟩
def aU (E:Env) (av:Nat→Prop) (w:World):C→Value→Prop
 | .im x,v=>cA av w x v
 | .rt r i j,v=>∃ b sz,a7 E r b sz∧v=.pointer (some ⟨b,i*sz+j,none⟩)
 | .sa r m,v=>∃ e a n cap,E[r]?=some e∧e.2.1.1=.slice a n cap∧m≤n∧v=.slice a m cap
 | .mp r,v=>∃ b sz,a7 E r b sz∧v=.map (some b)
 | .yl r,v=>∃ b sz,a7 E r b sz∧v=.func (.yield b) #[] #[]
 | .ow r j,v=>∃ (e:gr) (vs:Array Value),E[r]?=some e∧e.2.1.1=.tuple vs∧vs[j]?=some v∧v.oneCell'=true
 | .ky f dR,v=>∃ vs:Array Value,v=.func (.func f) #[] vs∧az (fun r x=>∃ b sz,a7 E r b sz∧x=.pointer (some ⟨b,0,none⟩)) dR vs.toList
theorem aU.one {E:Env} {av:Nat→Prop} {w:World} {x:C} {v:Value} (h:aU E av w x v):v.oneCell'=true:=by
 cases x with
 | im x=>exact cA.one h
 | rt r i j=>obtain ⟨_,_,_,rfl⟩:=h; rfl
 | sa r m=>obtain ⟨_,_,_,_,_,_,_,rfl⟩:=h; rfl
 | mp r=>obtain ⟨_,_,_,rfl⟩:=h; rfl
 | yl r=>obtain ⟨_,_,_,rfl⟩:=h; rfl
 | ow r j=>obtain ⟨_,_,_,_,_,h⟩:=h; exact h
 | ky f dR=>obtain ⟨_,rfl,_⟩:=h; rfl
def aJ (E:Env) (av:Nat→Prop) (w:World):D→Value→Prop
 | .c x,v=>aU E av w x v
 | .a l,v=>∃ cs:Array Value,v=.agg cs∧az (aU E av w) l cs.toList
 | .t l,v=>∃ vs:Array Value,v=.tuple vs∧az (fun (x:Bool×List C) y=>match x with
   | (true,l)=>∃ cs:Array Value,y=.agg cs∧az (aU E av w) l cs.toList
   | (false,l)=>∃ c,l=[c]∧aU E av w c y) l vs.toList
def hole:gr:=(none,kF,0)
theorem FG {b:Nat}:¬ hole.has b:=by
 rintro (h|h)
 ·simp [hole] at h
 ·exact h
def gr.wk (e:gr) (K:Nat→Prop):gr:=(e.1,(e.2.1.1,K),e.2.2)
theorem gr.Gl {e:gr} {b:Nat} (h:e.1=some b):e≠hole:=by rintro rfl; simp [hole] at h
theorem gr.P5 {e:gr} {a:Option Addr} {n c:Nat} (h:e.2.1.1=.slice a n c):e≠hole:=by rintro rfl; simp [hole,undef] at h
def Env.le (E E':Env):Prop:=∀ (r:Nat) (e:gr),E[r]?=some e→e≠hole→∃ K,E'[r]?=some (e.wk K)∧e.wk K≠hole
theorem gr.Lj {e:gr} {vs:Array Value} {j:Nat} {v:Value} (h:e.2.1.1=.tuple vs) (hj:vs[j]?=some v):e≠hole:=by
 rintro rfl
 simp only [hole,undef,Value.tuple.injEq] at h
 rw [← h] at hj
 simp at hj
theorem Env.le_refl (E:Env):Env.le E E:=fun _ e h n=>⟨e.2.1.2,h,n⟩
theorem Env.eo (E F:Env):Env.le E (E++F):=fun r e h n=>⟨e.2.1.2,by
 rw [dQ]; exact h
 exact (List.getElem?_eq_some_iff.1 h).1,n⟩
theorem Env.le.trans {E F G:Env} (h:Env.le E F) (k:Env.le F G):Env.le E G:=fun r e q n=>by
 obtain ⟨K,q,n⟩:=h r e q n
 obtain ⟨K',q,n⟩:=k r _ q n
 exact ⟨K',q,n⟩
theorem Env.le.at_ {E E':Env} (hE:Env.le E E') {r b sz:Nat}:a7 E r b sz→a7 E' r b sz:=fun ⟨h,q⟩=>by
 obtain ⟨K,q,_⟩:=hE _ _ q (gr.Gl rfl)
 exact ⟨(h.1,K),q⟩
theorem Cn {E:Env} (F:Env) {r b sz:Nat}:di E r b sz→di (E++F) r b sz:=fun ⟨e,q,q2⟩=>⟨e,by
 rw [dQ (List.getElem?_eq_some_iff.1 q).1]; exact q,q2⟩
theorem Env.tU {E:Env} {r:Nat} (e:gr) (h:E[r]?=some hole):Env.le E (E.set r e):=fun q e' h1 hn=>⟨e'.2.1.2,by
 rw [fb]
 split
 ·rename_i hq; subst hq; rw [h] at h1; simp only [ak] at h1; exact (hn h1.symm).elim
 ·exact h1,hn⟩
theorem aU.mono {E E':Env} {av cF:Nat→Prop} {w w':World} (hE:Env.le E E') (hk:aZ av w w') (ha:∀ b,b<w.heap.size→cF b→av b) {x:C} {v:Value} (h:aU E av w x v):aU E' cF w' x v:=by
 cases x with
 | im x=>exact cA.mono hk ha h
 | rt r i j=>obtain ⟨b,sz,h1,h2⟩:=h; exact ⟨b,sz,hE.at_ h1,h2⟩
 | sa r m=>
   obtain ⟨e,a,n,cap,h1,h2,h3,h4⟩:=h
   obtain ⟨K,h1,_⟩:=hE _ _ h1 (gr.P5 h2)
   exact ⟨_,a,n,cap,h1,h2,h3,h4⟩
 | ow r j=>
   obtain ⟨e,vs,h1,h2,h3,h4⟩:=h
   obtain ⟨K,h1,_⟩:=hE _ _ h1 (gr.Lj h2 h3)
   exact ⟨_,vs,h1,h2,h3,h4⟩
 | mp r=>obtain ⟨b,sz,h1,h2⟩:=h; exact ⟨b,sz,hE.at_ h1,h2⟩
 | yl r=>obtain ⟨b,sz,h1,h2⟩:=h; exact ⟨b,sz,hE.at_ h1,h2⟩
 | ky f dR=>
   obtain ⟨vs,h1,h2⟩:=h
   exact ⟨vs,h1,h2.mono fun r x ⟨b,sz,q,q2⟩=>⟨b,sz,hE.at_ q,q2⟩⟩
theorem aJ.mono {E E':Env} {av cF:Nat→Prop} {w w':World} (hE:Env.le E E') (hk:aZ av w w') (ha:∀ b,b<w.heap.size→cF b→av b) {x:D} {v:Value} (h:aJ E av w x v):aJ E' cF w' x v:=by
 cases x with
 | c x=>exact aU.mono hE hk ha h
 | a l=>obtain ⟨cs,h1,h2⟩:=h; exact ⟨cs,h1,h2.mono fun _ _ q=>aU.mono hE hk ha q⟩
 | t l=>
   obtain ⟨vs,h1,h2⟩:=h
   refine ⟨vs,h1,h2.mono ?_⟩
   rintro ⟨b,l⟩ y q
   cases b with
   | true=>obtain ⟨cs,q1,q2⟩:=q; exact ⟨cs,q1,q2.mono fun _ _ q=>aU.mono hE hk ha q⟩
   | false=>obtain ⟨c,q1,q2⟩:=q; exact ⟨c,q1,aU.mono hE hk ha q2⟩
def ae.live:ae→Prop
 | .dead=>False
 | _=>True
def AV (aw:Nat→Prop) (rs:List ae) (E:Env) (b:Nat):Prop:=aw b∨∃ r x sz,rs[r]?=some x∧x.live∧di E r b sz
def gu (E:Env) (av:Nat→Prop) (w:World) (N:Nat) (sl:aG) (tm:Array Value):Prop:=
 ∀ t d c,look sl t=some (d,c)→t<N∧((∀ p∈c,tm.getD p.1 undef=.bool p.2)→aJ E av w d (tm.getD t undef))∧
  (¬ (∀ p∈c,tm.getD p.1 undef=.bool p.2)→tm.getD t undef=undef)
theorem gu.mono {E E':Env} {av cF:Nat→Prop} {w w':World} (hE:Env.le E E') (hk:aZ av w w') (ha:∀ b,b<w.heap.size→cF b→av b) {N:Nat} {sl:aG} {tm:Array Value} (h:gu E av w N sl tm):gu E' cF w' N sl tm:=fun t d c hl=>by
 obtain ⟨q1,q2,q3⟩:=h t d c hl
 exact ⟨q1,fun q=>aJ.mono hE hk ha (q2 q),q3⟩
structure GJ (K:Nat→Prop) (o:Option Nat) (Ks:Nat→Nat→Nat→Prop):Prop where
 sub:∀ i j b,Ks i j b→K b
 ne:∀ i j b,Ks i j b→o≠some b
 inj:∀ i j i' j' b,Ks i j b→Ks i' j' b→i=i'∧j=j'
def je (av:Nat→Prop) (base:Nat) (w:World):O→(Nat→Prop)→Value→Prop
 | .im x,_,v=>cA av w x v
 | .ar el sz n get,K,v=>(∀ b,v.ownBlock=some b→K b)∧∃ xs,w.ownsRow base el sz v n xs∧∀ i,i<n→∀ j,j<sz→∃ x,xs[i*sz+j]?=some x∧cA av w (get i j) x
 | .ns el sz n get,K,v=>(∀ b,v.ownBlock=some b→K b)∧∃ xs,w.ownsRow base el sz v n xs∧∃ Ks,GJ K v.ownBlock Ks∧∀ i,i<n→∀ j,j<sz→∃ x,xs[i*sz+j]?=some x∧je av base w (get i j) (Ks i j) x
theorem je.base {av:Nat→Prop} {base I0:Nat} {w:World} (hb:I0≤base):∀ {x:O} {K:Nat→Prop} {v:Value},je av base w x K v→je av I0 w x K v:=by
 have row:∀ {el sz n:Nat} {v:Value} {xs:List Value},w.ownsRow base el sz v n xs→w.ownsRow I0 el sz v n xs:=fun h=>⟨h.1,h.2.imp id fun ⟨g,cap,cur,h3,h4,h5⟩=>⟨g,cap,cur,h3,bU hb h4,h5⟩⟩
 intro x
 induction x with
 | im x=>intro K v h; exact h
 | ar el sz n get=>rintro K v ⟨h0,xs,h1,h2⟩; exact ⟨h0,xs,row h1,h2⟩
 | ns el sz n get ih=>
   rintro K v ⟨h0,xs,h1,Ks,hp,h2⟩
   refine ⟨h0,xs,row h1,Ks,hp,fun i hi j hj=>?_⟩
   obtain ⟨x,q1,q2⟩:=h2 i hi j hj
   exact ⟨x,q1,ih i j q2⟩
def ja (E:Env) (av:Nat→Prop) (base:Nat) (w:World):Fc→(Nat→Prop)→Value→Prop
 | .c x,_,v=>aU E av w x v
 | .o x,K,v=>je av base w x K v
def iL (get:Nat→Nat→O) (dK:Option (Nat×List Fc)) (i j:Nat):Option Fc:=match dK with
 | none=>some (.o (get i j))
 | some x=>match Nat.beq i x.1 with
   | true=>nth x.2 j
   | false=>some (.o (get i j))
theorem lB {base el sz n:Nat} {v:Value} {w w':World} {xs:List Value} (hs:∀ b,v.ownBlock=some b→w'.heap[b]?=w.heap[b]?) (h:w.ownsRow base el sz v n xs):w'.ownsRow base el sz v n xs:=by
 obtain ⟨h1,h2⟩:=h
 refine ⟨h1,?_⟩
 rcases h2 with h2|⟨g,cap,cur,h3,h4,h5,h6⟩
 ·exact .inl h2
 ·refine .inr ⟨g,cap,cur,h3,h4,?_,h6⟩
  rw [hs g (by rw [h3]; rfl)]
  exact h5
theorem je.mono {av cF:Nat→Prop} {base:Nat} {w w':World} (hk:aZ av w w') (ha:∀ b,b<w.heap.size→cF b→av b):∀ {x:O} {K:Nat→Prop} {v:Value},(∀ b,K b→w'.heap[b]?=w.heap[b]?)→je av base w x K v→je cF base w' x K v:=by
 intro x
 induction x with
 | im x=>intro K v _ h; exact cA.mono hk ha h
 | ar el sz n get=>
   rintro K v hs ⟨h0,xs,h1,h2⟩
   refine ⟨h0,xs,lB (fun b q=>hs b (h0 b q)) h1,fun i hi j hj=>?_⟩
   obtain ⟨x,q1,q2⟩:=h2 i hi j hj
   exact ⟨x,q1,cA.mono hk ha q2⟩
 | ns el sz n get ih=>
   rintro K v hs ⟨h0,xs,h1,Ks,hp,h2⟩
   refine ⟨h0,xs,lB (fun b q=>hs b (h0 b q)) h1,Ks,hp,fun i hi j hj=>?_⟩
   obtain ⟨x,q1,q2⟩:=h2 i hi j hj
   exact ⟨x,q1,ih i j (fun b q=>hs b (hp.sub i j b q)) q2⟩
theorem ja.mono {E E':Env} {av cF:Nat→Prop} {base:Nat} {w w':World} (hE:Env.le E E') (hk:aZ av w w') (ha:∀ b,b<w.heap.size→cF b→av b) {x:Fc} {K:Nat→Prop} {v:Value} (hs:∀ b,K b→w'.heap[b]?=w.heap[b]?) (h:ja E av base w x K v):ja E' cF base w' x K v:=by
 cases x with
 | c x=>exact aU.mono hE hk ha h
 | o x=>exact je.mono hk ha hs h
def aM (E:Env) (av:Nat→Prop) (base:Nat) (w:World) (e:gr):ae→Prop
 | .dead=>True
 | .box l=>∃ b cs T,e.1=some b∧e.2.2=l.length∧w.heap[b]?=some (.cells cs T (0,0))∧az (aU E av w) l cs.toList
 | .arr el sz n get=>e.2.2=sz∧e.1=e.2.1.1.ownBlock∧∃ xs,w.ownsRow base el sz e.2.1.1 n xs∧∀ i,i<n→∀ j,j<sz→∃ x,xs[i*sz+j]?=some x∧cA av w (get i j) x
 | .row el sz n l=>e.2.2=sz∧e.1=e.2.1.1.ownBlock∧∃ xs,w.ownsRow base el sz e.2.1.1 n xs∧az (aU E av w) l xs
 | .gy el sz n get dK=>e.2.2=sz∧e.1=e.2.1.1.ownBlock∧∃ xs,w.ownsRow base el sz e.2.1.1 n xs∧∃ Ks,GJ e.2.1.2 e.2.1.1.ownBlock Ks∧(∀ x,dK=some x→x.1<n∧x.2.length=sz)∧∀ i,i<n→∀ j,j<sz→∃ x c,xs[i*sz+j]?=some x∧iL get dK i j=some c∧ja E av base w c (Ks i j) x
 | .own l=>e.1=none∧l≠[]∧∃ vs:Array Value,e.2.1.1=.tuple vs∧vs.size=l.length∧∃ Ks:Nat→Nat→Prop,(∀ i b,Ks i b→e.2.1.2 b)∧(∀ i i' b,Ks i b→Ks i' b→i=i')∧∀ (i:Nat) (o:O),l[i]?=some o→∃ v,vs[i]?=some v∧je av base w o (Ks i) v
 | .set l=>∃ b es clock,e.1=some b∧w.heap[b]?=some (.map es clock)∧az (fun n (x:MapEntry)=>x.key=.int .i64 n∧x.val=.bool true) l es.toList
 | .l7=>∃ b,e.1=some b∧w.heap[b]?=some (.deferred (some []))
 | .loop f N sl ps as bd st fe=>∃ b db tm,e.1=some b∧w.heap[b]?=some (.loop { state:=st,pending:=fe,fn:=f,tmps:=tm,params:=ps.toArray,assign:=as,body:=bd,defers:=db })∧
   tm.size=N∧gu E av w N sl tm∧∀ x∈sl,x.2.2=[]
def mf (T:dn) (av:Nat→Prop) (w:World):Prop:=∀ g x,T.gv g=some x→cA av w (.pt x.1 x.2) (.pointer (some ⟨g,0,none⟩))
theorem mf.mono {T:dn} {av cF:Nat→Prop} {w w':World} (hk:aZ av w w') (ha:∀ b,b<w.heap.size→cF b→av b) (h:mf T av w):mf T cF w':=fun g x e=>cA.mono hk ha (h g x e)
structure Kp where
 w:World
 base:Nat
 own:Nat→Prop
def Kp.of (w:World):Kp:=⟨w,w.heap.size,fun _=>False⟩
structure Kp.In (w0:Kp) (b:Nat):Prop where
 base:w0.base≤b
 own:b<w0.w.heap.size→w0.own b
structure Kp.Holds (w0:Kp) (w:World):Prop where
 os:w.os=w0.w.os
 tape:w.tape=w0.w.tape
 output:w.output=w0.w.output
 size:w0.w.heap.size≤w.heap.size
 base:w0.base≤w.heap.size
 block:∀ k,k<w0.w.heap.size→¬ w0.own k→w.heap[k]?=w0.w.heap[k]?
theorem Kp.Holds.grown {w0:Kp} {w w':World} (h:w0.Holds w) (h1:w'.os=w.os) (h2:w'.tape=w.tape) (h3:w'.output=w.output) (h4:w.heap.size≤w'.heap.size) (h5:∀ k,k<w.heap.size→¬ w0.In k→w'.heap[k]?=w.heap[k]?):w0.Holds w' :=
 ⟨h1.trans h.os,h2.trans h.tape,h3.trans h.output,bU h.size h4,bU h.base h4,fun k hk hn=>(h5 k (Nat.lt_of_lt_of_le hk h.size) fun q=>hn (q.own hk)).trans (h.block k hk hn)⟩
theorem Kp.Holds.fresh {w0:Kp} {w:World} (h:w0.Holds w) {b:Nat} (hb:w.heap.size≤b):w0.In b:=
 ⟨bU h.base hb,fun q=>absurd q (by have:=h.size; omega)⟩
theorem Kp.holds_of {w w':World} (h:Below w.heap.size w w'):(Kp.of w).Holds w':=⟨h.os,h.tape,h.output,h.size,h.size,fun k hk _=>h.block k hk⟩
theorem Kp.Holds.below {w w':World} (h:(Kp.of w).Holds w'):Below w.heap.size w w':=⟨h.os,h.tape,h.output,h.size,fun k hk=>h.block k hk fun q=>q⟩
structure R (T:dn) (N:Nat) (aw:Nat→Prop) (w0:Kp) (sp:List (D×Value)) (s:VS) (a:Act) (w:World) (E:Env):Prop where
 size:a.tmps.size=N
 defers:az (fun r (d:Deferred)=>∃ b sz,a7 E r b sz∧d={ target:=.collected b,args := #[] }) s.df a.defers
 spec:∀ x∈sp,aJ E (AV aw s.rs E) w x.1 x.2
 below:w0.Holds w
 len:E.length=s.rs.length
 outer:∀ b,aw b→b<w0.w.heap.size∧¬ w0.own b
 roots:∀ (r:Nat) (x:ae) (e:gr),s.rs[r]?=some x→E[r]?=some e→aM E (AV aw s.rs E) w0.base w e x
 cT:∀ (r:Nat) (x:ae) (b sz:Nat),s.rs[r]?=some x→x.live→di E r b sz→w0.In b∧b<w.heap.size
 eP:∀ (r r':Nat) (x x':ae) (b sz cj:Nat),s.rs[r]?=some x→s.rs[r']?=some x'→x.live→x'.live→di E r b sz→di E r' b cj→r=r'
 slots:∀ t d c,look s.sl t=some (d,c)→t<N∧((∀ p∈c,a.tmps.getD p.1 undef=.bool p.2)→aJ E (AV aw s.rs E) w d (a.tmps.getD t undef))∧
  (¬ (∀ p∈c,a.tmps.getD p.1 undef=.bool p.2)→a.tmps.getD t undef=undef)
 fL:mf T (AV aw s.rs E) w
theorem R.Wd {T:dn} {N:Nat} {aw:Nat→Prop} {w0:Kp} {sp:List (D×Value)} {s:VS} {a:Act} {w:World} {E:Env} (h:R T N aw w0 sp s a w E) (r:Nat) (x:ae) (b sz:Nat) (h1:s.rs[r]?=some x) (h2:x.live) (h3:a7 E r b sz):w0.In b∧b<w.heap.size:=h.cT r x b sz h1 h2 h3.own
theorem R.inj {T:dn} {N:Nat} {aw:Nat→Prop} {w0:Kp} {sp:List (D×Value)} {s:VS} {a:Act} {w:World} {E:Env} (h:R T N aw w0 sp s a w E) (r r':Nat) (x x':ae) (b sz cj:Nat) (h1:s.rs[r]?=some x) (h2:s.rs[r']?=some x') (h3:x.live) (h4:x'.live) (h5:a7 E r b sz) (h6:a7 E r' b cj):r=r':=h.eP r r' x x' b sz cj h1 h2 h3 h4 h5.own h6.own
def bt (a:Act) (g:eE):Prop:=∀ p∈g,a.tmps.getD p.1 undef=.bool p.2
theorem ET {x y:Bool} (h:G0 x y=true):x=y:=by cases x<;>cases y<;>simp_all [G0]
theorem mP:∀ {m:eE} {x:Tmp×Bool},nG x m=true→x∈m
 | [],_,h=>by simp [nG] at h
 | y::m,x,h=>by
   simp only [nG] at h
   split at h
   ·rename_i h1
    split at h
    ·rename_i h2
     have e1:x.1=y.1:=Nat.eq_of_beq_eq_true h1
     have e2:=ET h2
     have:x=y:=Prod.ext e1 e2
     simp [this]
    ·exact er _ (mP h)
   ·exact er _ (mP h)
theorem Bo {a:Act} {m:eE} (hm:bt a m):∀ {l:eE},sub l m=true→bt a l
 | [],_=>fun p hp=>by cases hp
 | x::l,h=>by
   simp only [sub] at h
   split at h
   ·rename_i h1
    intro p hp
    cases hp with
    | head=>exact hm _ (mP h1)
    | tail _ hp=>exact Bo hm h p hp
   ·simp at h
theorem jO {E:Env} {av:Nat→Prop} {w:World}:∀ {l:List Value} {r:List C},GR l=some r→az (aU E av w) r l
 | [],r,h=>by simp [GR] at h; subst h; exact .nil
 | x::l,r,h=>by
   simp only [GR] at h
   split at h
   ·rename_i q h1 h2
    simp only [ak] at h
    subst h
    exact .cons ⟨rfl,h1⟩ (jO h2)
   ·simp at h
theorem EC {E:Env} {av:Nat→Prop} {w:World} {v:Value} {d:D} (h:yi v=some d):aJ E av w d v:=by
 unfold yi at h
 split at h
 ·split at h
  ·rename_i l hl
   simp only [ak] at h
   subst h
   exact ⟨_,rfl,jO hl⟩
  ·simp at h
 ·split at h
  ·rename_i h1
   simp only [ak] at h
   subst h
   exact ⟨rfl,h1⟩
  ·simp at h
section
variable {T:dn} {N:Nat} {aw:Nat→Prop} {w0:Kp} {sp:List (D×Value)} {s:VS} {a:Act} {w:World} {E:Env}
theorem R.ev (h:R T N aw w0 sp s a w E) {g:eE} (hg:bt a g) {x:Operand} {d:D} (e:s.ev g x=some d):aJ E (AV aw s.rs E) w d (a.eval x):=by
 cases x with
 | tmp t=>
   simp only [VS.ev] at e
   split at e
   ·rename_i d' c hl
    split at e
    ·rename_i hs
     simp only [ak] at e
     subst e
     exact (h.slots t d' c hl).2.1 (Bo hg hs)
    ·simp at e
   ·simp at e
 | const v=>exact EC e
 | func f=>
   simp only [VS.ev,ak] at e
   subst e
   exact ⟨#[],rfl,rfl,fun j hj=>by omega⟩
 | global g' =>
   simp only [VS.ev,ak] at e
   subst e
   rfl
end
open Go.RowKit
def lF (P:Program):List Field→Option (List (Nat×Nat))
 | []=>some []
 | f::r=>match P.info? f.type,lF P r with
   | some i,some l=>some ((f.offset,i.size)::l)
   | _,_=>none
def uu (P:Program) (t:TypeId):Option Kd:=match P.underlying t with
 | some (.struct fs)=>match lF P fs.toList with
   | some l=>some (.struct l)
   | none=>none
 | some (.slice e)=>some (.slice e)
 | some (.array n e)=>some (.array n e)
 | some .string=>some .str
 | some .bool=>some .bool
 | some (.int .i64)=>some .int
 | some (.map k e)=>some (.map k e)
 | some (.pointer e)=>some (.ptr e)
 | some (.func _ _ _)=>some .func
 | some _=>some .other
 | none=>none
structure cr (P:Program) (t:TypeId) (y:Ty):Prop where
 kd:uu P t=some y.kd
 info:(P.info? t).map (fun i=>(i.size,i.bytes,i.zero))=some (y.size,y.bytes,some y.zero)
 zs:y.zero.cells.size=y.size
structure dk (P:Program) (T:dn):Prop where
 ty:∀ t y,T.ty t=some y→cr P t y
 eqs:∀ t ks,T.eqs t=some ks→∀ (l m:List C) (b:Bool),Ek ks l m=some b→∀ (E:Env) (av:Nat→Prop) (w:World) (cs ds:Array Value),az (aU E av w) l cs.toList→az (aU E av w) m ds.toList→∀ (x y:Operand),
  (do eqGuard .eql t x y (.agg cs) (.agg ds); binOp .eql t (.agg cs) (.agg ds)).run P w=.ok (.bool b) w∧
  (do eqGuard .neq t x y (.agg cs) (.agg ds); binOp .neq t (.agg cs) (.agg ds)).run P w=.ok (.bool (!b)) w
theorem cr.slice {P:Program} {t:TypeId} {y:Ty} (h:cr P t y) {e:Nat} (hk:y.kd=.slice e):P.underlying t=some (.slice e):=by
 have:=h.kd
 rw [hk] at this
 unfold uu at this
 split at this
 case h_1=>split at this<;>simp_all
 all_goals simp_all
theorem cr.strs {P:Program} {t:TypeId} {y:Ty} (h:cr P t y) (hk:y.kd=.str):P.underlying t=some .string:=by
 have:=h.kd
 rw [hk] at this
 unfold uu at this
 split at this
 case h_1=>split at this<;>simp_all
 all_goals simp_all
theorem cr.struct {P:Program} {t:TypeId} {y:Ty} (h:cr P t y) {fs:List (Nat×Nat)} (hk:y.kd=.struct fs):∃ gs:Array Field,P.underlying t=some (.struct gs)∧lF P gs.toList=some fs:=by
 have:=h.kd
 rw [hk] at this
 unfold uu at this
 split at this
 case h_1=>split at this<;>simp_all
 all_goals simp_all
theorem cr.sz {P:Program} {t:TypeId} {y:Ty} (h:cr P t y):(P.info? t).map (·.size)=some y.size:=by
 have:=h.info
 cases hq:P.info? t with
 | none=>simp [hq] at this
 | some i=>simp [hq] at this ⊢; exact this.1
theorem cr.full {P:Program} {t:TypeId} {y:Ty} (h:cr P t y):∃ i,P.info? t=some i∧i.size=y.size∧i.bytes=y.bytes∧i.zero=some y.zero:=by
 have:=h.info
 cases hq:P.info? t with
 | none=>simp [hq] at this
 | some i=>simp [hq] at this; exact ⟨i,rfl,this.1,this.2.1,this.2.2⟩
theorem cr.WD {P:Program} {t:TypeId} {y:Ty} (h:cr P t y):∃ d,P.underlying t=some d∧TypeDesc.isRow d=y.kd.agg:=by
 have:=h.kd
 unfold uu at this
 split at this
 case h_1=>split at this<;>simp_all [Kd.agg,TypeDesc.isRow]<;>(try (rw [← this]))
 all_goals (simp_all [Kd.agg,TypeDesc.isRow]<;>(try (rw [← this])))
theorem run_sizeOf {P:Program} {t:TypeId} {n:Nat} (h:(P.info? t).map (·.size)=some n) (w:World):(sizeOf t).run P w=.ok n w:=by
 cases hq:P.info? t with
 | none=>simp [hq] at h
 | some i=>simp [hq] at h; simp [sizeOf,typeInfo,hq,h]
theorem wD {P:Program} {t:TypeId} {d:TypeDesc} (h:P.underlying t=some d) (w:World):(isAgg t).run P w=.ok (TypeDesc.isRow d) w:=by
 unfold isAgg
 rw [Sem.run_bind,run_underlying h w]
 cases d<;>simp [TypeDesc.isRow]
theorem aF {a b:Nat} (h:Nat.blt a b=true):a<b:=by simpa [cX] using h
theorem dL {a b:Nat} (h:Nat.ble a b=true):a≤b:=Nat.le_of_ble_eq_true h
theorem bs {a b:Nat} (h:Nat.beq a b=true):a=b:=Nat.eq_of_beq_eq_true h
theorem add_add (ad:Addr) (hs:ad.spot=none) (i j:Nat):(ad.add i).add j=ad.add (i+j):=by
 unfold Addr.add
 cases ad with
 | mk b o sp=>
   simp only at hs
   subst hs
   by_cases hi:i=0<;>by_cases hj:j=0<;>simp_all [Nat.add_assoc]
theorem vm (ad:Addr) (hs:ad.spot=none) (i:Nat):(ad.add i).spot=none:=by
 unfold Addr.add; split<;>simp_all
theorem cy {b o:Nat} {w:World} {cs:Array Value} {T:TypeId} {f:Nat×Nat} (h:w.heap[b]?=some (.cells cs T f)):w.cell? ⟨b,o,none⟩=cs[o]?:=by
 simp [World.cell?,h]
theorem vi {w w':World} (hb:Below w.heap.size w w') {ad:Addr} {v:Value} (h:w.cell? ad=some v):w'.cell? ad=some v:=(hb.cell (World.block_lt_of_cell? w ad h)).trans h
section
variable {P:Program} {T:dn} {N:Nat} {aw:Nat→Prop} {w0:Kp} {sp:List (D×Value)} {s:VS} {a:Act} {w:World} {E:Env}
theorem fP {t:TypeId} {y:Ty} (hy:cr P t y) {ad:Addr} {cs:List Value} (hl:cs.length=y.size) (ha:y.kd.agg=true) (h:∀ j v,cs[j]?=some v→w.cell? (ad.add j)=some v) :
  ∀ w',Below w.heap.size w w'→(Instr.loadAt t (.pointer (some ad))).run P w'=.ok (.agg cs.toArray) w':=by
 intro w' hb
 obtain ⟨d,hd,hr⟩:=hy.WD
 have h1:=run_loadCells_list (P:=P) w' ad cs (fun j v hv=>vi hb (h j v hv))
 rw [hl] at h1
 simp [Instr.loadAt,Instr.sureAddr,loadVar,wD hd,hr,ha,run_sizeOf hy.sz,h1]
theorem fW {t:TypeId} {y:Ty} (hy:cr P t y) {ad:Addr} {v:Value} (ha:y.kd.agg=false) (h:w.cell? ad=some v) :
  ∀ w',Below w.heap.size w w'→(Instr.loadAt t (.pointer (some ad))).run P w'=.ok v w':=by
 intro w' hb
 obtain ⟨d,hd,hr⟩:=hy.WD
 simp [Instr.loadAt,Instr.sureAddr,loadVar,wD hd,hr,ha,vi hb h]
theorem iM {E:Env} {av:Nat→Prop} {w:World} {get:Nat→I} {f:Nat→Value}:∀ {n o:Nat},(∀ j,o≤j→j<o+n→cA av w (get j) (f j))→
  az (aU E av w) (dr get o n) ((List.range n).map fun j=>f (o+j))
 | 0,o,_=>.nil
 | n+1,o,h=>by
   rw [List.range_succ_eq_map,List.map_cons,List.map_map]
   refine .cons (h o (bf _) (by omega)) ?_
   have:=iM (E:=E) (n:=n) (o:=o+1) (f:=f) (fun j h1 h2=>h j (by omega) (by omega))
   have he:((fun j=>f (o+j))∘Nat.succ)=fun j=>f (o+1+j):=by funext j; simp [Nat.succ_eq_add_one]; congr 1; omega
   rw [he]
   exact this
theorem jV {Q:Nat→Value→Prop} {n:Nat} (h:∀ j,j<n→∃ x,Q j x):∃ f:Nat→Value,∀ j,j<n→Q j (f j):=
 ⟨fun j=>if hj:j<n then (h j hj).choose else undef,fun j hj=>by simp only [dif_pos hj]; exact (h j hj).choose_spec⟩
theorem AM {α:Type}:∀ (l:List α) (i:Nat),aY l i=nth l i
 | [],_=>rfl
 | _::_,0=>rfl
 | _::l,i+1=>AM l i
theorem uc {E:Env} {av:Nat→Prop} {base:Nat} {w:World} {x:Fc} {c:C} {K:Nat→Prop} {v:Value} (h:Hu (some x)=some c) (hv:ja E av base w x K v):aU E av w c v:=by
 cases x with
 | c x=>simp only [Hu,ak] at h; subst h; exact hv
 | o x=>
   cases x with
   | im x=>simp only [Hu,H8,ak] at h; subst h; exact hv
   | _=>simp [Hu,H8] at h
theorem L6 {E:Env} {av:Nat→Prop} {base:Nat} {w:World} {get:Nat→Nat→O} {dK:Option (Nat×List Fc)} {i j:Nat} {x:Fc} {c:C} {K:Nat→Prop} {v:Value} (h:wc get dK i j=some c) (hx:iL get dK i j=some x) (hv:ja E av base w x K v):aU E av w c v:=by
 unfold wc at h
 unfold iL at hx
 cases dK with
 | none=>
   simp only [ak] at hx; subst hx
   exact uc (x:=.o (get i j)) h hv
 | some y=>
   simp only at h hx
   cases hb:Nat.beq i y.1 with
   | true=>
     rw [hb] at h hx
     simp only [AM] at h hx
     rw [hx] at h
     exact uc h hv
   | false=>
     rw [hb] at h hx
     simp only [ak] at hx; subst hx
     exact uc (x:=.o (get i j)) h hv
theorem pZ {f:Nat→Option C}:∀ {n j:Nat} {l:List C},nu f j n=some l→l.length=n∧∀ k,k<n→∃ c,l[k]?=some c∧f (j+k)=some c
 | 0,j,l,h=>by
   have h:some []=some l:=h
   simp only [ak] at h; subst h
   exact ⟨rfl,fun k hk=>by omega⟩
 | n+1,j,l,h=>by
   have h:(match f j with
    | some c=>match nu f (j+1) n with
      | some l=>some (c::l)
      | none=>none
    | none=>none)=some l:=h
   split at h
   case h_2=>simp at h
   rename_i c hc
   split at h
   case h_2=>simp at h
   rename_i l' sR
   simp only [ak] at h; subst h
   obtain ⟨h1,h2⟩:=pZ sR
   refine ⟨by simp [h1],fun k hk=>?_⟩
   cases k with
   | zero=>exact ⟨c,rfl,hc⟩
   | succ k=>
     obtain ⟨c',g1,g2⟩:=h2 k (by omega)
     exact ⟨c',by simpa using g1,by rw [show j+(k+1)=j+1+k by omega]; exact g2⟩
theorem az.Fe {α β:Type} {R:α→β→Prop}:∀ {l:List α} {m:List β},l.length=m.length→(∀ (k:Nat) (x:α) (y:β),l[k]?=some x→m[k]?=some y→R x y)→az R l m
 | [],[],_,_=>.nil
 | [],_::_,h,_=>by simp at h
 | _::_,[],h,_=>by simp at h
 | x::l,y::m,h,k=>.cons (k 0 x y rfl rfl) (az.Fe (by simpa using h) fun i a b ha hb=>k (i+1) a b (by simpa using ha) (by simpa using hb))
theorem oH (bz:dk P T) (h:R T N aw w0 sp s a w E) {g:eE} (hg:bt a g) {t:TypeId} {x:Operand} {p:Option Prop} {d:D} (e:aV T s g (.load t x)=some (p,d)) (hp:need p) :
  ∃ v,(∀ w',Below w.heap.size w w'→(Instr.loadAt t (a.eval x)).run P w'=.ok v w')∧aJ E (AV aw s.rs E) w d v:=by
 simp only [aV] at e
 split at e
 case h_2=>simp at e
 rename_i y hy
 have hy:=bz.ty _ _ hy
 split at e
 case h_4=>simp at e
 ·
  rename_i r i j hx
  obtain ⟨b,sz,hr,hv⟩:=h.ev hg hx
  rw [hv]
  split at e
  ·
   rename_i l hl
   rw [bc] at hl
   obtain ⟨hh,hE⟩:=hr
   obtain ⟨b',cs,T,q1,q2,q3,q4⟩:=h.roots r _ _ hl hE
   simp only [ak] at q1
   subst q1
   split at e
   case h_2=>simp at e
   simp only [Nat.zero_mul,Nat.zero_add]
   split at e
   ·rename_i hagg
    split at e
    case h_2=>simp at e
    rename_i ks hks
    simp only [ak,a8] at e
    obtain ⟨rfl,rfl⟩:=e
    obtain ⟨rfl,hlen⟩:=kL _ _ _ hks
    rw [uM] at hlen ⊢
    have ha:=(q4.drop j).take y.size
    refine ⟨.agg ((cs.toList.drop j).take y.size).toArray,fP hy ?_ hagg ?_,_,rfl,by simpa using ha⟩
    ·have:=ha.length
     rw [List.length_take,Nat.min_eq_left hlen] at this
     exact this.symm
    ·intro k v hk
     rw [Addr.add_mid,cy q3]
     rw [cN] at hk
     split at hk
     ·simpa using hk
     ·simp at hk
   ·rename_i hagg
    split at e
    case h_2=>simp at e
    rename_i c hc
    simp only [ak,a8] at e
    obtain ⟨rfl,rfl⟩:=e
    obtain ⟨v,hv1,hv2⟩:=q4.nth hc
    exact ⟨v,fW hy hagg (by rw [cy q3]; simpa using hv1),hv2⟩
  ·
   rename_i el asz n get hl
   rw [bc] at hl
   obtain ⟨hh,hE⟩:=hr
   obtain ⟨q1,q2,xs,q3,q4⟩:=h.roots r _ _ hl hE
   have q1:sz=asz:=q1
   have q2:some b=hh.1.ownBlock:=q2
   subst q1
   have cellAt:∀ k,k<n*sz→w.cell? ⟨b,k,none⟩=xs[k]?:=by
    intro k hk
    obtain ⟨q5,q6⟩:=q3
    rcases q6 with ⟨q6,_⟩|⟨g',cap,cur,q6,_,q7,q8,_,q9,q10⟩
    ·have q6:hh.1=_:=q6
     rw [q6] at q2
     simp [Value.ownBlock] at q2
    ·have q6:hh.1=_:=q6
     rw [q6] at q2
     simp only [Value.ownBlock,ak] at q2
     subst q2
     rw [cy q7,← q10,cN,if_pos hk]
     simp
   have bnd:∀ {j k:Nat},i<n→j+k≤sz→i*sz+(j+k)≤n*sz:=by
    intro j k hi W6
    have:=fA sz (show i+1≤n by omega)
    rw [Nat.add_mul,Nat.one_mul] at this
    omega
   split at e
   ·rename_i hagg
    split at e
    case h_2=>simp at e
    rename_i hle
    have hle:=dL hle
    simp only [ak,a8] at e
    obtain ⟨rfl,rfl⟩:=e
    obtain ⟨f,hf⟩:=jV (Q:=fun k x=>xs[i*sz+k]?=some x∧cA (AV aw s.rs E) w (get i k) x) (fun k hk=>q4 i hp k hk)
    refine ⟨.agg ((List.range y.size).map fun k=>f (j+k)).toArray,fP hy (by simp) hagg ?_,_,rfl,?_⟩
    ·intro k v hk
     rw [Addr.add_mid]
     have jN:k<y.size:=by
      have:=(List.getElem?_eq_some_iff.1 hk).1
      simpa using this
     have hv:v=f (j+k):=by simpa [jN] using hk.symm
     have b1:=bnd (j:=j) (k:=k+1) hp (by omega)
     rw [cellAt _ (by omega),hv]
     have:=(hf (j+k) (by omega)).1
     rwa [show i*sz+(j+k)=i*sz+j+k by omega] at this
    ·have:=iM (E:=E) (av:=AV aw s.rs E) (w:=w) (get:=get i) (f:=f) (n:=y.size) (o:=j) (fun k h1 h2=>(hf k (by omega)).2)
     simpa using this
   ·rename_i hagg
    split at e
    case h_2=>simp at e
    rename_i dp
    have dp:=aF dp
    simp only [ak,a8] at e
    obtain ⟨rfl,rfl⟩:=e
    obtain ⟨v,h1,h2⟩:=q4 i hp j dp
    have b1:=bnd (j:=j) (k:=1) hp (by omega)
    exact ⟨v,fW hy hagg (by rw [cellAt _ (by omega)]; exact h1),h2⟩
  ·
   rename_i el asz n l hl
   rw [bc] at hl
   obtain ⟨hh,hE⟩:=hr
   obtain ⟨q1,q2,xs,q3,q4⟩:=h.roots r _ _ hl hE
   have q1:sz=asz:=q1
   have q2:some b=hh.1.ownBlock:=q2
   subst q1
   have cellAt:∀ k v,xs[k]?=some v→w.cell? ⟨b,k,none⟩=some v:=by
    intro k v Tk
    have hk:k<n*sz:=by rw [← q3.1]; exact (List.getElem?_eq_some_iff.1 Tk).1
    obtain ⟨q5,q6⟩:=q3
    rcases q6 with ⟨q6,_⟩|⟨g',cap,cur,q6,_,q7,q8,_,q9,q10⟩
    ·have q6:hh.1=_:=q6
     rw [q6] at q2
     simp [Value.ownBlock] at q2
    ·have q6:hh.1=_:=q6
     rw [q6] at q2
     simp only [Value.ownBlock,ak] at q2
     subst q2
     rw [← q10,cN,if_pos hk] at Tk
     rw [cy q7]
     simpa using Tk
   split at e
   ·rename_i hagg
    split at e
    case h_2=>simp at e
    rename_i ks hks
    simp only [ak,a8] at e
    obtain ⟨rfl,rfl⟩:=e
    obtain ⟨rfl,hlen⟩:=kL _ _ _ hks
    rw [uM] at hlen ⊢
    have ha:=(q4.drop (i*sz+j)).take y.size
    refine ⟨.agg ((xs.drop (i*sz+j)).take y.size).toArray,fP hy ?_ hagg ?_,_,rfl,by simpa using ha⟩
    ·have:=ha.length
     rw [List.length_take,Nat.min_eq_left hlen] at this
     exact this.symm
    ·intro k v hk
     rw [Addr.add_mid]
     rw [cN] at hk
     split at hk
     ·exact cellAt _ _ (by simpa using hk)
     ·simp at hk
   ·rename_i hagg
    split at e
    case h_2=>simp at e
    rename_i c hc
    simp only [ak,a8] at e
    obtain ⟨rfl,rfl⟩:=e
    obtain ⟨v,hv1,hv2⟩:=q4.nth hc
    exact ⟨v,fW hy hagg (cellAt _ _ hv1),hv2⟩
  ·
   rename_i el asz n get dK hl
   rw [bc] at hl
   obtain ⟨hh,hE⟩:=hr
   obtain ⟨q1,q2,xs,q3,Ks,hK,hf,q4⟩:=h.roots r _ _ hl hE
   have q1:sz=asz:=q1
   have q2:some b=hh.1.ownBlock:=q2
   subst q1
   have cellAt:∀ k v,xs[k]?=some v→w.cell? ⟨b,k,none⟩=some v:=by
    intro k v Tk
    have hk:k<n*sz:=by rw [← q3.1]; exact (List.getElem?_eq_some_iff.1 Tk).1
    obtain ⟨q5,q6⟩:=q3
    rcases q6 with ⟨q6,_⟩|⟨g',cap,cur,q6,_,q7,q8,_,q9,q10⟩
    ·have q6:hh.1=_:=q6
     rw [q6] at q2
     simp [Value.ownBlock] at q2
    ·have q6:hh.1=_:=q6
     rw [q6] at q2
     simp only [Value.ownBlock,ak] at q2
     subst q2
     rw [← q10,cN,if_pos hk] at Tk
     rw [cy q7]
     simpa using Tk
   have cel:∀ j c,i<n→j<sz→wc get dK i j=some c→∃ v,xs[i*sz+j]?=some v∧aU E (AV aw s.rs E) w c v:=by
    intro j c hi hj hc
    obtain ⟨v,c',g1,g2,g3⟩:=q4 i hi j hj
    exact ⟨v,g1,L6 hc g2 g3⟩
   split at e
   ·rename_i hagg
    split at e
    case h_2=>simp at e
    rename_i hle
    have hle:=dL hle
    split at e
    case h_2=>simp at e
    rename_i l hg'
    simp only [ak,a8] at e
    obtain ⟨rfl,rfl⟩:=e
    obtain ⟨hl1,hl2⟩:=pZ hg'
    obtain ⟨f,hf'⟩:=jV (n:=y.size) (Q:=fun k x=>xs[i*sz+(j+k)]?=some x∧∃ c,l[k]?=some c∧aU E (AV aw s.rs E) w c x) (fun k hk=>by
     obtain ⟨c,g1,g2⟩:=hl2 k hk
     obtain ⟨v,g3,g4⟩:=cel (j+k) c hp (by omega) g2
     exact ⟨v,g3,c,g1,g4⟩)
    refine ⟨.agg ((List.range y.size).map f).toArray,fP hy (by simp) hagg ?_,_,rfl,?_⟩
    ·intro k v hk
     rw [Addr.add_mid]
     have jN:k<y.size:=by
      have:=(List.getElem?_eq_some_iff.1 hk).1
      simpa using this
     have hv:v=f k:=by simpa [jN] using hk.symm
     rw [hv]
     have:=(hf' k jN).1
     rw [show i*sz+j+k=i*sz+(j+k) by omega]
     exact cellAt _ _ this
    ·refine az.Fe (by simp [hl1]) fun k c x hc hx=>?_
     have jN:k<y.size:=by rw [← hl1]; exact (List.getElem?_eq_some_iff.1 hc).1
     have TI:x=f k:=by simpa [jN] using hx.symm
     obtain ⟨_,c',g1,g2⟩:=hf' k jN
     rw [hc] at g1
     simp only [ak] at g1
     subst g1
     rw [TI]; exact g2
   ·rename_i hagg
    split at e
    case h_2=>simp at e
    rename_i dp
    have dp:=aF dp
    split at e
    case h_2=>simp at e
    rename_i c hc
    simp only [ak,a8] at e
    obtain ⟨rfl,rfl⟩:=e
    obtain ⟨v,hv1,hv2⟩:=cel j c hp dp hc
    exact ⟨v,fW hy hagg (cellAt _ _ hv1),hv2⟩
  ·simp at e
 ·
  rename_i n get hx
  obtain ⟨ad,hv,hs,_,_,hc⟩:=h.ev hg hx
  rw [hv]
  split at e
  ·rename_i hagg
   split at e
   case h_2=>simp at e
   rename_i hle
   have hle:=dL hle
   simp only [ak,a8] at e
   obtain ⟨rfl,rfl⟩:=e
   obtain ⟨f,hf⟩:=jV hc
   refine ⟨.agg ((List.range y.size).map fun k=>f (0+k)).toArray,fP hy (by simp) hagg ?_,_,rfl,?_⟩
   ·intro k v hk
    have jN:k<y.size:=by
     have:=(List.getElem?_eq_some_iff.1 hk).1
     simpa using this
    have hv:v=f k:=by simpa [jN] using hk.symm
    rw [hv]
    exact (hf k (by omega)).1
   ·have:=iM (E:=E) (av:=AV aw s.rs E) (w:=w) (get:=get) (f:=f) (n:=y.size) (o:=0) (fun k h1 h2=>(hf k (by omega)).2)
    simpa using this
  ·rename_i hagg
   split at e
   case h_2=>simp at e
   rename_i dp
   have dp:=aF dp
   simp only [ak,a8] at e
   obtain ⟨rfl,rfl⟩:=e
   obtain ⟨v,h1,h2⟩:=hc 0 dp
   exact ⟨v,fW hy hagg (by simpa [Addr.add] using h1),h2⟩
 ·
  rename_i q hx
  have hv:a.eval x=.pointer (some ⟨q,0,none⟩):=h.ev hg hx
  rw [hv]
  split at e
  case h_2=>simp at e
  rename_i z hz
  split at e
  ·simp at e
  ·rename_i hagg
   simp only [ak,a8] at e
   obtain ⟨rfl,rfl⟩:=e
   obtain ⟨ad,h1,h2,h3,h4,h5⟩:=h.fL q (1,fun _=>z) (by simp only [dn.gv,hz])
   simp only [Value.pointer.injEq,ak] at h1
   subst h1
   obtain ⟨v,h6,h7⟩:=h5 0 (by omega)
   exact ⟨v,fW hy hagg (by simpa [Addr.add] using h6),h7⟩
theorem bH {x:Sem Value} {v:Value} {w':World} (h:x.run P w=.ok v w'):(do pure (Next.value (← x)):Sem Next).run P w=.ok (.value v) w':=by
 simp [h]
theorem IQ {op:BinOp} {x y z:Value} (e:xC op x y=some z) (t:TypeId) (p q:Operand):(do eqGuard op t p q x y; binOp op t x y).run P w=.ok z w:=by
 unfold xC at e
 split at e
 ·split at e
  all_goals first
   | (simp at e; done)
   | (simp only [ak] at e; subst e; simp [eqGuard,binOp,Op.intArith,Op.intCmp]; done)
   | (simp only [ak] at e; subst e; simp only [eqGuard,Sem.run_bind]; rfl)
 ·split at e<;>simp at e<;>subst e<;>simp [eqGuard,binOp,Op.intCmp]
 ·split at e<;>simp at e<;>subst e<;>simp [eqGuard,binOp,Op.stringOp]
 ·simp at e
theorem I5 {op:BinOp} {x y z:Value} {c:Prop} (e:wg op x y=some (c,z)) (hc:c) (t:TypeId) (p q:Operand):(do eqGuard op t p q x y; binOp op t x y).run P w=.ok z w:=by
 unfold wg at e
 split at e
 ·split at e
  ·simp only [ak,a8] at e
   obtain ⟨rfl,rfl⟩:=e
   simp [eqGuard,binOp,Op.intDiv,hc]
  ·simp only [ak,a8] at e
   obtain ⟨rfl,rfl⟩:=e
   simp [eqGuard,binOp,Op.intDiv,hc]
  ·simp only [ak,a8] at e
   obtain ⟨rfl,rfl⟩:=e
   simp [eqGuard,binOp,Op.shift,show ¬ _<(0:Int) from Int.not_lt.2 hc,IntKind.bits]
  ·simp only [ak,a8] at e
   obtain ⟨rfl,rfl⟩:=e
   simp [eqGuard,binOp,Op.shift,show ¬ _<(0:Int) from Int.not_lt.2 hc,IntKind.bits]
  ·simp at e
 ·simp at e
theorem KB {op:BinOp} {x y z:Value} (e:xC op x y=some z):z.oneCell'=true:=by
 unfold xC at e
 split at e
 ·split at e<;>simp at e<;>subst e<;>rfl
 ·split at e<;>simp at e<;>subst e<;>rfl
 ·split at e<;>simp at e<;>subst e<;>rfl
 ·simp at e
theorem Mw {op:BinOp} {x y z:Value} {c:Prop} (e:wg op x y=some (c,z)):z.oneCell'=true:=by
 unfold wg at e
 split at e
 ·split at e
  ·simp only [ak,a8] at e
   obtain ⟨rfl,rfl⟩:=e
   rfl
  ·simp only [ak,a8] at e
   obtain ⟨rfl,rfl⟩:=e
   rfl
  ·simp only [ak,a8] at e
   obtain ⟨rfl,rfl⟩:=e
   rfl
  ·simp only [ak,a8] at e
   obtain ⟨rfl,rfl⟩:=e
   rfl
  ·simp at e
 ·simp at e
theorem vL {t:TypeId} {y:Ty} (hy:cr P t y) (hk:y.kd=.bool) (b c:Bool) (p q:Operand) :
  (do eqGuard .eql t p q (.bool b) (.bool c); binOp .eql t (.bool b) (.bool c)).run P w=.ok (.bool (b==c)) w∧
  (do eqGuard .neq t p q (.bool b) (.bool c); binOp .neq t (.bool b) (.bool c)).run P w=.ok (.bool (!(b==c))) w:=by
 have hu:P.underlying t=some .bool:=by
  have:=hy.kd
  rw [hk] at this
  unfold uu at this
  split at this
  case h_1=>split at this<;>simp_all
  all_goals simp_all
 have he:∀ d,(Op.equalIn (d+1) t (.bool b) (.bool c)).run P w=.ok (b==c) w:=fun d=>by
  unfold Op.equalIn
  simp [run_underlying hu]
 have h0:(Op.equal t (.bool b) (.bool c)).run P w=.ok (b==c) w:=he 9999
 constructor
 ·show ((do eqGuard .eql t p q (.bool b) (.bool c); (do pure (.bool (← Op.equal t (.bool b) (.bool c)))):Sem Value)).run P w=_
  rw [Sem.run_bind]
  simp only [eqGuard,Bool.not_true]
  simp [h0]
 ·show ((do eqGuard .neq t p q (.bool b) (.bool c); (do pure (.bool (!(← Op.equal t (.bool b) (.bool c))))):Sem Value)).run P w=_
  rw [Sem.run_bind]
  simp only [eqGuard]
  simp [h0]
theorem qq {l:List C}:∀ {ys:List C} {o:Nat} {r:List C},put l o ys=some r→o+ys.length≤l.length+0∨ys=[]:=by
 intro ys
 induction ys generalizing l with
 | nil=>intro o r h; exact .inr rfl
 | cons y ys ih=>
   intro o r h
   simp only [put] at h
   split at h
   ·rename_i z hz
    rw [bc] at hz
    have ho:=(List.getElem?_eq_some_iff.1 hz).1
    rcases ih h with h1|h1
    ·left
     rw [bm,List.length_set] at h1
     simp; omega
    ·left; subst h1; simp; omega
   ·simp at h
theorem yH {av:Nat→Prop} {Ro:C→Value→Prop}:∀ {ys:List C} {l:List C} {o:Nat} {r:List C} {vs cs:List Value},put l o ys=some r→az Ro l cs→az Ro ys vs→
  az Ro r ((vs.zipIdx).foldl (fun (c:List Value) (x:Value×Nat)=>c.set (o+x.2) x.1) cs)
 | [],l,o,r,vs,cs,h,h1,h2=>by
   cases h2
   simp only [put,ak] at h
   subst h
   simpa using h1
 | y::ys,l,o,r,vs,cs,h,h1,h2=>by
   cases h2 with
   | cons a b=>
     rename_i v m
     simp only [put] at h
     split at h
     ·have:=yH (av:=av) h (by rw [bm]; exact h1.set o a) b
      rw [List.zipIdx_cons,List.foldl_cons]
      simp only [Nat.add_zero]
      rw [List.zipIdx_eq_map_add]
      rw [List.foldl_map]
      simpa [Nat.add_assoc,Nat.add_comm 1] using this
     ·simp at h
theorem rA (off:Nat):∀ (vs:List Value) (k:Nat) (cs:Array Value),
  ((vs.zipIdx k).foldl (fun (cs:Array Value) (x:Value×Nat)=>cs.setIfInBounds (off+x.2) x.1) cs).toList=(vs.zipIdx k).foldl (fun (c:List Value) (x:Value×Nat)=>c.set (off+x.2) x.1) cs.toList
 | [],_,_=>rfl
 | v::vs,k,cs=>by
   simp only [List.zipIdx_cons,List.foldl_cons]
   rw [rA off vs (k+1)]
   simp
theorem kJ {av:Nat→Prop} {d:D} {v:Value} (h:aJ E av w d v) {cs:List C} (hc:d.cells=some cs):az (aU E av w) cs v.cells.toList:=by
 cases d with
 | c x=>
   simp only [D.cells,ak] at hc
   subst hc
   have h1:=aU.one h
   have:v.cells = #[v]:=by cases v<;>simp_all [Value.cells,Value.oneCell']
   rw [this]
   exact .cons h .nil
 | a l=>
   simp only [D.cells,ak] at hc
   subst hc
   obtain ⟨cs,rfl,h2⟩:=h
   exact h2
 | t l=>simp [D.cells] at hc
theorem Bs (h:R T N aw w0 sp s a w E) {g:eE} (hg:bt a g) {oN:List (Nat×Nat)} {place:Nat→Option (Nat×Nat)} (LX:∀ i x,oN[i]?=some x→place i=some x) :
  ∀ {parts:List (Nat×Operand)} {l r:List C} {cs:Array Value},vK oN s g parts l=some r→az (aU E (AV aw s.rs E) w) l cs.toList→
  ∃ mc,Instr.fill place cs (parts.map fun x=>(x.1,a.eval x.2))=some mc∧az (aU E (AV aw s.rs E) w) r mc.toList
 | [],l,r,cs,e,hl=>by
   simp only [vK,ak] at e
   subst e
   exact ⟨cs,rfl,hl⟩
 | (k,x)::parts,l,r,cs,e,hl=>by
   simp only [vK] at e
   split at e
   case h_2=>simp at e
   rename_i o sz d hk hx
   rw [bc] at hk
   split at e
   case h_2=>simp at e
   rename_i ks hks
   split at e
   case h_2=>simp at e
   rename_i eT
   simp only [cG] at eT
   obtain ⟨eT,fg⟩:=eT
   have eT:=bs eT
   have fg:=aF fg
   split at e
   case h_2=>simp at e
   rename_i l' sR
   have hv:=kJ (h.ev hg hx) hks
   have hlen:=hv.length
   have l8:=qq sR
   have hcl:=hl.length
   have hp:=yH (av:=AV aw s.rs E) sR hl hv
   obtain ⟨mc,h1,h2⟩:=Bs h hg LX (cs:=((a.eval x).cells.zipIdx.foldl (fun cs (y:Value×Nat)=>cs.setIfInBounds (o+y.2) y.1) cs)) e (by
    have:=rA o (a.eval x).cells.toList 0 cs
    rw [← Array.foldl_toList,Array.toList_zipIdx,this]
    exact hp)
   refine ⟨mc,?_,h2⟩
   simp only [List.map_cons,Instr.fill,LX _ _ hk]
   have h3:(a.eval x).cells.size=sz:=by rw [← eT,hlen]; simp
   have h4:¬ (o+sz>cs.size):=by
    rw [eT] at l8
    have:cs.size=l.length:=by rw [hcl]; simp
    rcases l8 with l8|l8
    ·omega
    ·subst l8
     simp at eT
     omega
   rw [if_neg (by simp [h3]; omega)]
   exact h1
end
open Go.RowKit
section
variable {P:Program} {T:dn} {N:Nat} {aw:Nat→Prop} {w0:Kp} {sp:List (D×Value)} {s:VS} {a:Act} {w:World} {E:Env}
theorem uw {P:Program}:∀ {fs:List Field} {l:List (Nat×Nat)} {k:Nat} {o sz:Nat},lF P fs=some l→l[k]?=some (o,sz)→∃ f,fs[k]?=some f∧f.offset=o∧(P.info? f.type).map (·.size)=some sz
 | [],l,k,o,sz,h,hk=>by simp [lF] at h; subst h; simp at hk
 | f::fs,l,k,o,sz,h,hk=>by
   simp only [lF] at h
   split at h
   ·rename_i i l' hi hl
    simp only [ak] at h
    subst h
    cases k with
    | zero=>simp at hk; exact ⟨f,rfl,hk.1,by simp [hi,hk.2]⟩
    | succ k=>simp at hk; obtain ⟨g,h1,h2⟩:=uw hl hk; exact ⟨g,by simpa using h1,h2⟩
   ·simp at h
theorem sO (bz:dk P T) (h:R T N aw w0 sp s a w E) {g:eE} (hg:bt a g) {t:TypeId} {x:Operand} {f:Nat} {p:Option Prop} {d:D} (e:aV T s g (.fieldAddr t x f)=some (p,d)) (hp:need p) :
  ∃ v,(∀ w',(Instr.fieldAt t (a.eval x) f).run P w'=.ok v w')∧aJ E (AV aw s.rs E) w d v:=by
 simp only [aV] at e
 split at e
 case h_2=>simp at e
 rename_i ub uA z0 fs hy
 have hy:=bz.ty _ _ hy
 obtain ⟨gs,hu,ho⟩:=hy.struct rfl
 split at e
 case h_2=>simp at e
 rename_i o sz hk
 rw [bc] at hk
 obtain ⟨fl,hf1,hf2,hf3⟩:=uw ho hk
 split at e
 case h_2=>simp at e
 rename_i fg
 have fg:=aF fg
 have run:∀ (ad:Addr) (w':World),(Instr.fieldAt t (.pointer (some ad)) f).run P w'=.ok (.pointer (some (ad.add o))) w':=by
  intro ad w'
  have hf1':gs[f]?=some fl:=by simpa using hf1
  simp [Instr.fieldAt,run_underlying hu,hf1',Instr.sureAddr,fieldPlace,run_sizeOf hf3,hf2,show ¬ sz=0 by omega]
 split at e
 case h_3=>simp at e
 ·rename_i r i j hx
  obtain ⟨b,cj,hr,hv⟩:=h.ev hg hx
  simp only [ak,a8] at e
  obtain ⟨rfl,rfl⟩:=e
  rw [hv]
  exact ⟨_,run _,b,cj,hr,by rw [Addr.add_mid,Nat.add_assoc]⟩
 ·rename_i n get hx
  obtain ⟨ad,hv,hs,h1,h2,hc⟩:=h.ev hg hx
  split at e
  case h_2=>simp at e
  rename_i hle
  have hle:=dL hle
  simp only [ak,a8] at e
  obtain ⟨rfl,rfl⟩:=e
  rw [hv]
  refine ⟨_,run _,ad.add o,rfl,vm _ hs _,by rw [block_add]; exact h1,by rw [block_add]; exact h2,fun j hj=>?_⟩
  rw [add_add _ hs]
  exact hc (o+j) (by omega)
theorem sS (bz:dk P T) (h:R T N aw w0 sp s a w E) {g:eE} (hg:bt a g) {t:TypeId} {x ix:Operand} {p:Option Prop} {d:D} (e:aV T s g (.indexAddr t x ix)=some (p,d)) (hp:need p) :
  ∃ v,(∀ w',(Instr.indexAt t (a.eval x) (a.eval ix)).run P w'=.ok v w')∧aJ E (AV aw s.rs E) w d v:=by
 simp only [aV] at e
 split at e
 case h_2=>simp at e
 rename_i ub uA z0 el hy
 have hy:=(bz.ty _ _ hy).slice rfl
 split at e
 case h_2=>simp at e
 rename_i y hye
 have hye:=bz.ty _ _ hye
 split at e
 case h_2=>simp at e
 rename_i i hi
 have hi:=(h.ev hg hi).1
 have run:∀ (ad:Addr) (len cap:Nat),0≤i∧i<(len:Int)→∀ w',(Instr.indexAt t (.slice (some ad) len cap) (.int .i64 i)).run P w'=.ok (.pointer (some (ad.add (i.toNat*y.size)))) w':=by
  intro ad len cap hb w'
  simp [Instr.indexAt,run_underlying hy,asIntOf,hb,run_sizeOf hye.sz]
 rw [hi]
 split at e
 case h_3=>simp at e
 ·rename_i sz n get hx
  obtain ⟨ao,cap,hv,hn,hm,hc⟩:=h.ev hg hx
  split at e
  case h_2=>simp at e
  rename_i eT
  have eT:=bs eT
  simp only [ak,a8] at e
  obtain ⟨rfl,rfl⟩:=e
  simp only [need] at hp
  obtain ⟨ad,rfl,hs,h1,h2,hc⟩:=hc (by omega)
  rw [hv]
  refine ⟨_,run ad n cap hp,ad.add (i.toNat*y.size),rfl,vm _ hs _,by rw [block_add]; exact h1,by rw [block_add]; exact h2,fun j hj=>?_⟩
  rw [add_add _ hs,← eT]
  exact hc i.toNat (by omega) j hj
 ·rename_i r m hx
  obtain ⟨e',ao,n,cap,h1,h2,h3,hv⟩:=h.ev hg hx
  split at e
  ·rename_i nL sz n' get hl
   rw [bc] at hl
   split at e
   case h_2=>simp at e
   rename_i eT
   have eT:=bs eT
   simp only [ak,a8] at e
   obtain ⟨rfl,rfl⟩:=e
   simp only [need] at hp
   obtain ⟨q1,q2,xs,⟨_,q3⟩,q4⟩:=h.roots r _ _ hl h1
   rcases q3 with ⟨q3,_⟩|⟨g',cap',cur,q3,_⟩
   ·rw [h2] at q3
    simp at q3
    omega
   ·rw [h2] at q3
    simp only [dz] at q3
    obtain ⟨rfl,_,_⟩:=q3
    rw [hv]
    refine ⟨_,run _ m cap hp,g',sz,⟨e'.2.1,?_⟩,?_⟩
    ·rw [h1]
     obtain ⟨e1,e2,e3⟩:=e'
     simp only at q1 q2 h2
     subst q1
     rw [h2] at q2
     simp only [Value.ownBlock] at q2
     rw [q2]
    ·rw [Addr.add_mid,eT]; simp
  ·rename_i nL sz n' l' hl
   rw [bc] at hl
   split at e
   case h_2=>simp at e
   rename_i eT
   have eT:=bs eT
   simp only [ak,a8] at e
   obtain ⟨rfl,rfl⟩:=e
   simp only [need] at hp
   obtain ⟨q1,q2,xs,⟨_,q3⟩,q4⟩:=h.roots r _ _ hl h1
   rcases q3 with ⟨q3,_⟩|⟨g',cap',cur,q3,_⟩
   ·rw [h2] at q3
    simp at q3
    omega
   ·rw [h2] at q3
    simp only [dz] at q3
    obtain ⟨rfl,_,_⟩:=q3
    rw [hv]
    refine ⟨_,run _ m cap hp,g',sz,⟨e'.2.1,?_⟩,?_⟩
    ·rw [h1]
     obtain ⟨e1,e2,e3⟩:=e'
     simp only at q1 q2 h2
     subst q1
     rw [h2] at q2
     simp only [Value.ownBlock] at q2
     rw [q2]
    ·rw [Addr.add_mid,eT]; simp
  ·rename_i nL sz n' get' jw hl
   rw [bc] at hl
   split at e
   case h_2=>simp at e
   rename_i eT
   have eT:=bs eT
   simp only [ak,a8] at e
   obtain ⟨rfl,rfl⟩:=e
   simp only [need] at hp
   obtain ⟨q1,q2,xs,⟨_,q3⟩,q4⟩:=h.roots r _ _ hl h1
   rcases q3 with ⟨q3,_⟩|⟨g',cap',cur,q3,_⟩
   ·rw [h2] at q3
    simp at q3
    omega
   ·rw [h2] at q3
    simp only [dz] at q3
    obtain ⟨rfl,_,_⟩:=q3
    rw [hv]
    refine ⟨_,run _ m cap hp,g',sz,⟨e'.2.1,?_⟩,?_⟩
    ·rw [h1]
     obtain ⟨e1,e2,e3⟩:=e'
     simp only at q1 q2 h2
     subst q1
     rw [h2] at q2
     simp only [Value.ownBlock] at q2
     rw [q2]
    ·rw [Addr.add_mid,eT]; simp
  ·simp at e
theorem kj (h:R T N aw w0 sp s a w E) {g:eE} (hg:bt a g):∀ {xs:List Operand} {ds:List D},CM s g xs=some ds→az (aJ E (AV aw s.rs E) w) ds (xs.map a.eval)
 | [],ds,e=>by simp [CM] at e; subst e; exact .nil
 | x::xs,ds,e=>by
   simp only [CM] at e
   split at e
   ·rename_i d r h1 h2
    simp only [ak] at e
    subst e
    exact .cons (h.ev hg h1) (kj h hg h2)
   ·simp at e
theorem om {P:Program} {w:World}:∀ {fs:List Field} {l:List (Nat×Nat)},lF P fs=some l→
  (fs.mapM fun (f:Field)=>(do pure (f.offset,← sizeOf f.type):Sem (Nat×Nat))).run P w=.ok l w
 | [],l,h=>by simp [lF] at h; subst h; simp
 | f::fs,l,h=>by
   simp only [lF] at h
   split at h
   ·rename_i i l' hi hl
    simp only [ak] at h
    subst h
    have ih:=om (w:=w) hl
    rw [List.mapM_cons]
    simp only [Sem.run_bind,run_sizeOf (P:=P) (t:=f.type) (n:=i.size) (by simp [hi]),Result.andThen_ok,Sem.run_pure,ih]
   ·simp at h
theorem Az (bz:dk P T) (h:R T N aw w0 sp s a w E) {g:eE} (hg:bt a g) {t:TypeId} {parts:Array (Nat×Operand)} {p:Option Prop} {d:D} (e:aV T s g (.build t parts)=some (p,d)) (hp:need p) :
  ∃ v,(∀ w',(Instr.build t (parts.map fun (i,x)=>(i,a.eval x))).run P w'=.ok v w')∧aJ E (AV aw s.rs E) w d v:=by
 simp only [aV] at e
 split at e
 case h_2=>simp at e
 rename_i y hy
 have hy:=bz.ty _ _ hy
 split at e
 case h_2=>simp at e
 rename_i fs hkd
 obtain ⟨gs,hu,ho⟩:=hy.struct hkd
 split at e
 case h_2=>simp at e
 rename_i z hz
 split at e
 case h_2=>simp at e
 rename_i l hl
 simp only [ak,a8] at e
 obtain ⟨rfl,rfl⟩:=e
 obtain ⟨inf,hi,_,_,hzero⟩:=hy.full
 obtain ⟨mc,h1,h2⟩:=Bs h hg (oN:=fs) (place:=fun i=>fs.toArray[i]?) (fun i x hx=>by simpa using hx) (cs:=y.zero.cells) hl (jO hz)
 refine ⟨.agg mc,fun w'=>?_,_,rfl,h2⟩
 have hm:(gs.mapM fun (f:Field)=>(do pure (f.offset,← sizeOf f.type):Sem (Nat×Nat))).run P w'=.ok fs.toArray w':=by
  have hgs:gs=gs.toList.toArray:=rfl
  rw [hgs,List.mapM_toArray]
  simp only [Sem.run_map,om ho,Result.andThen_ok]
 have hparts:(parts.map fun (i,x)=>(i,a.eval x)).toList=parts.toList.map fun x=>(x.1,a.eval x.2):=by simp
 have hz0:(zeroValue t).run P w'=.ok y.zero w':=by simp [zeroValue,typeInfo,hi,hzero]
 rw [← hparts] at h1
 simp only [Instr.build,Sem.run_bind,hz0,Result.andThen_ok,run_underlying hu,hm]
 have lX:Instr.fill (fun x=>fs.toArray[x]?) y.zero.cells (Array.map (fun (x:Nat×Operand)=>(x.fst,a.eval x.snd)) parts).toList=some mc:=h1
 rw [lX]
 rfl
theorem kS {av:Nat→Prop} {r:Nat} {v:Value} (hv:aU E av w (.rt r 0 0) v):∃ b sz,a7 E r b sz∧v=.pointer (some ⟨b,0,none⟩):=by
 obtain ⟨b,sz,h1,h2⟩:=hv
 exact ⟨b,sz,h1,by simpa using h2⟩
theorem vY (bz:dk P T) (h:R T N aw w0 sp s a w E) {g:eE} (hg:bt a g) {b:Builtin} {argTypes:Array TypeId} {args:Array Operand} {p:Option Prop} {d:D} (type:TypeId) (I8:Array Bool) (e:fS T b argTypes.toList (CM s g args.toList)=some (p,d)) (hp:need p) :
  ∃ v,(∀ w',(builtin b argTypes type I8 (args.map a.eval)).run P w'=.ok (.value v) w')∧aJ E (AV aw s.rs E) w d v:=by
 have one:∀ {d:D},CM s g args.toList=some [d]→∃ v,args.map a.eval = #[v]∧aJ E (AV aw s.rs E) w d v:=by
  intro d hx
  have hx:=kj h hg hx
  have:args.map a.eval=(List.map a.eval args.toList).toArray:=by rw [← Array.toList_map]
  rw [this]
  revert hx
  generalize List.map a.eval args.toList=vs
  intro hx
  cases hx with
  | cons q1 q2=>cases q2; exact ⟨_,rfl,q1⟩
 have two:∀ {d d':D},CM s g args.toList=some [d,d']→∃ v v',args.map a.eval = #[v,v']∧aJ E (AV aw s.rs E) w d v∧aJ E (AV aw s.rs E) w d' v':=by
  intro d d' hx
  have hx:=kj h hg hx
  have:args.map a.eval=(List.map a.eval args.toList).toArray:=by rw [← Array.toList_map]
  rw [this]
  revert hx
  generalize List.map a.eval args.toList=vs
  intro hx
  cases hx with
  | cons q1 q2=>cases q2 with
    | cons q3 q4=>cases q4; exact ⟨_,_,rfl,q1,q3⟩
 cases b
 case len=>
  simp only [fS] at e
  split at e
  case h_2=>simp at e
  rename_i t d' ht hx
  obtain ⟨v,hv,hd⟩:=one hx
  have ht:argTypes = #[t]:=by
   have:argTypes=argTypes.toList.toArray:=rfl
   rw [this,ht]
  subst ht
  rw [hv]
  split at e
  case h_2=>simp at e
  rename_i y hy
  have hy:=bz.ty _ _ hy
  have run:∀ (v:Value) (n:Int),(∀ w',(Builtin.len_ #[t] type #[v]).run P w'=.ok (goInt n) w')→∀ w',(builtin .len #[t] type I8 #[v]).run P w'=.ok (.value (.int .i64 n)) w':=by
   intro v n hr w'
   simp only [builtin]
   simp [hr,goInt]
  split at e
  ·rename_i el sz n get hk
   obtain ⟨ao,cap,rfl,_⟩:=hd
   simp only [ak,a8] at e
   obtain ⟨rfl,rfl⟩:=e
   exact ⟨_,run _ n (fun w'=>by simp [Builtin.len_,run_underlying (hy.slice hk)]),rfl,rfl⟩
  ·rename_i el r m hk
   obtain ⟨e',ao,n,cap,_,_,_,rfl⟩:=hd
   simp only [ak,a8] at e
   obtain ⟨rfl,rfl⟩:=e
   exact ⟨_,run _ m (fun w'=>by simp [Builtin.len_,run_underlying (hy.slice hk)]),rfl,rfl⟩
  ·rename_i el ad n c hk
   obtain ⟨rfl,_⟩:=hd
   simp only [ak,a8] at e
   obtain ⟨rfl,rfl⟩:=e
   exact ⟨_,run _ n (fun w'=>by simp [Builtin.len_,run_underlying (hy.slice hk)]),rfl,rfl⟩
  ·rename_i b hk
   obtain ⟨rfl,_⟩:=hd
   simp only [ak,a8] at e
   obtain ⟨rfl,rfl⟩:=e
   exact ⟨_,run _ b.size (fun w'=>by simp [Builtin.len_,run_underlying (hy.strs hk)]),rfl,rfl⟩
  ·simp at e
 case max=>
  simp only [fS] at e
  split at e
  case h_2=>simp at e
  rename_i x y hx
  obtain ⟨v,v',hv,⟨rfl,_⟩,⟨rfl,_⟩⟩:=two hx
  simp only [ak,a8] at e
  obtain ⟨rfl,rfl⟩:=e
  rw [hv]
  exact ⟨_,fun w'=>by simp [builtin,Builtin.max_,Builtin.max2],rfl,rfl⟩
 case min=>
  simp only [fS] at e
  split at e
  case h_2=>simp at e
  rename_i x y hx
  obtain ⟨v,v',hv,⟨rfl,_⟩,⟨rfl,_⟩⟩:=two hx
  simp only [ak,a8] at e
  obtain ⟨rfl,rfl⟩:=e
  rw [hv]
  exact ⟨_,fun w'=>by simp [builtin,Builtin.min_,Builtin.min2],rfl,rfl⟩
 all_goals simp [fS] at e
theorem ki (n:Int):∀ {l:List Int} {es:List MapEntry},az (fun n (x:MapEntry)=>x.key=.int .i64 n∧x.val=.bool true) l es→∀ i,
  (dx n l=true∧∃ k e,Instr.findNow (.int .i64) (.int .i64 n) es i=some (some (i+k,.bool true))∧es[k]?=some e∧e.key=.int .i64 n)∨(dx n l=false∧Instr.findNow (.int .i64) (.int .i64 n) es i=some none)
 | _,_,.nil,i=>.inr ⟨rfl,rfl⟩
 | x::l,e::es,.cons h1 h2,i=>by
   simp only [dx,Instr.findNow,h1.1,Instr.sameNow,if_true]
   cases hx:n==x with
   | true=>
     have:n=x:=by simpa using hx
     exact .inl ⟨rfl,0,e,by simp [h1.2],rfl,by rw [h1.1,this]⟩
   | false=>
     rcases ki n h2 (i+1) with ⟨q1,k,e',q2,q3,q4⟩|⟨q1,q2⟩
     ·exact .inl ⟨q1,k+1,e',by simp only [q2]; congr 2; simp only [a8,and_true]; omega,by simpa using q3,q4⟩
     ·exact .inr ⟨q1,q2⟩
theorem cr.map {P:Program} {t:TypeId} {y:Ty} (h:cr P t y) {k e:Nat} (hk:y.kd=.map k e):P.underlying t=some (.map k e):=by
 have:=h.kd
 rw [hk] at this
 unfold uu at this
 split at this<;>(try split at this)<;>simp_all
theorem cr.int {P:Program} {t:TypeId} {y:Ty} (h:cr P t y) (hk:y.kd=.int):P.underlying t=some (.int .i64):=by
 have:=h.kd
 rw [hk] at this
 unfold uu at this
 split at this<;>(try split at this)<;>simp_all
theorem fw {P:Program} {k:TypeId} (hk:P.underlying k=some (.int .i64)) (em:Bool) (n:Int) (w:World):(Instr.checkKey em 10000 k (.int .i64 n)).run P w=.ok () w:=by
 unfold Instr.checkKey
 simp [Go.underlying,Go.program,Sem.run,hk]
theorem zg (bz:dk P T) (h:R T N aw w0 sp s a w E) {g:eE} (hg:bt a g) {t:TypeId} {x i:Operand} {ok:Bool} {p:Option Prop} {d:D} (e:aV T s g (.lookup t x i ok)=some (p,d)) :
  ∃ v,(∀ w',Below w.heap.size w w'→(Instr.lookup t (a.eval x) (a.eval i) ok).run P w'=.ok v w')∧aJ E (AV aw s.rs E) w d v:=by
 cases ok with
 | true=>simp [aV] at e
 | false=>
   simp only [aV] at e
   split at e
   case h_2=>simp at e
   rename_i s1 b1 z1 k el lu
   have lu:=(bz.ty _ _ lu).map rfl
   split at e
   case h_2=>simp at e
   rename_i s2 b2 z2 s3 b3 kd3 wB hye
   have wB:=(bz.ty _ _ wB).int rfl
   have hye:=bz.ty _ _ hye
   obtain ⟨inf,hin,_,_,hz⟩:=hye.full
   have run:∀ {b:Nat} {es:Array MapEntry} {clock:Nat} {l:List Int} {n:Int},w.heap[b]?=some (.map es clock)→az (fun n (x:MapEntry)=>x.key=.int .i64 n∧x.val=.bool true) l es.toList→a.eval x=.map (some b)→a.eval i=.int .i64 n→
     ∀ w',Below w.heap.size w w'→(Instr.lookup t (a.eval x) (a.eval i) false).run P w'=.ok (.bool (dx n l)) w':=by
    intro b es clock l n h2 h3 hx hi w' hb
    have dp:b<w.heap.size:=(Array.getElem?_eq_some_iff.1 h2).1
    have hb2:w'.heap[b]?=some (.map es clock):=(hb.block b dp).trans h2
    have hu:(Go.underlying t).run P w'=.ok (.map k el) w':=by simp [Go.underlying,Go.program,Sem.run,lu]
    have huk:(Go.underlying k).run P w'=.ok (.int .i64) w':=by simp [Go.underlying,Go.program,Sem.run,wB]
    have hg':(getObj b).run P w'=.ok (.map es clock) w':=by simp [getObj,Sem.run,hb2]
    have hz0:(zeroValue el).run P w'=.ok (.bool false) w':=by simp [zeroValue,typeInfo,hin,hz]
    have hf:(Instr.findKey k (.int .i64 n) es.toList).run P w'=.ok (match Instr.findNow (.int .i64) (.int .i64 n) es.toList 0 with|some r=>r|none=>none) w':=by
     rcases ki n h3 0 with ⟨q1,k',e',q2,q3,q4⟩|⟨q1,q2⟩<;>simp [Instr.findKey,huk,q2]
    unfold Instr.lookup
    simp only [hx,hi,Sem.run_bind,hu,hg',Result.andThen_ok,fw wB,hf,Sem.run_pure]
    rcases ki n h3 0 with ⟨q1,k',e',q2,q3,q4⟩|⟨q1,q2⟩
    ·simp [q2,q1]
    ·simp [q2,q1,hz0]
   split at e
   ·rename_i r n hx hi
    obtain ⟨b,sz,ir,hx⟩:=h.ev hg hx
    have hi:=(h.ev hg hi).1
    split at e
    case h_2=>simp at e
    rename_i l hl
    simp only [ak,a8] at e
    obtain ⟨rfl,rfl⟩:=e
    rw [bc] at hl
    obtain ⟨hh,hE⟩:=ir
    obtain ⟨b',es,clock,h1,h2,h3⟩:=h.roots r _ _ hl hE
    have h1:some b=some b':=h1
    simp only [ak] at h1
    subst h1
    exact ⟨.bool (dx n l),run h2 h3 hx hi,rfl,rfl⟩
   ·rename_i l n hx hi
    obtain ⟨b,es,clock,hx,_,h2,h3⟩:=h.ev hg hx
    have hi:=(h.ev hg hi).1
    simp only [ak,a8] at e
    obtain ⟨rfl,rfl⟩:=e
    exact ⟨.bool (dx n l),run h2 h3 hx hi,rfl,rfl⟩
   ·simp at e
theorem ie (bz:dk P T) {t:TypeId} {el:TypeId} {y:Ty} (hy:T.ty el=some y) (lu:P.underlying t=some (.slice el)) (ad:Option Addr) (n cap:Nat) (h:Int) (h0:0≤h) (h1:h≤(cap:Int)) (w':World) :
  (Instr.sliceAt t (.slice ad n cap) none (some (.int .i64 h)) none).run P w'=.ok (.slice ad h.toNat cap) w':=by
 have he:P.elem t=el:=by simp [Program.elem,lu]
 have ht:P.underlying t=some (.slice (P.elem t)):=by rw [he]; exact lu
 rw [run_sliceAt_slice w' t _ _ _ _ ht,run_slice_h w' t ad n cap ht .i64 h h0 h1,he,run_sizeOf (bz.ty _ _ hy).sz,Result.andThen_ok]
 simp only [sliced,Nat.zero_mul,Nat.sub_zero]
 congr 2
 split
 ·rfl
 ·cases ad<;>simp [Addr.add]
theorem BG (bz:dk P T) (h:R T N aw w0 sp s a w E) {g:eE} (hg:bt a g) {t:TypeId} {x hi:Operand} {p:Option Prop} {d:D} (e:aV T s g (.slice t x none (some hi) none)=some (p,d)) (hp:need p) :
  ∃ v,(∀ w',(Instr.sliceAt t (a.eval x) none (some (a.eval hi)) none).run P w'=.ok v w')∧aJ E (AV aw s.rs E) w d v:=by
 simp only [aV] at e
 split at e
 case h_2=>simp at e
 rename_i s1 b1 z1 el hyt'
 have lu:=(bz.ty _ _ hyt').slice rfl
 split at e
 case h_2=>simp at e
 rename_i yel hyel
 split at e
 ·rename_i sz n get ih hx hi
  obtain ⟨ad,cap,hx,q1,q2,q3⟩:=h.ev hg hx
  have hi:=(h.ev hg hi).1
  simp only [ak,a8] at e
  obtain ⟨rfl,rfl⟩:=e
  obtain ⟨p1,p2⟩:=hp
  refine ⟨.slice ad ih.toNat cap,fun w'=>?_,ad,cap,rfl,by omega,by omega,fun h0=>?_⟩
  ·rw [hx,hi]
   exact ie bz hyel lu ad n cap ih p1 (by omega) w'
  ·obtain ⟨a1,r1,r2,r3,r4,r5⟩:=q3 (by omega)
   exact ⟨a1,r1,r2,r3,r4,fun i iq j hj=>r5 i (by omega) j hj⟩
 ·rename_i r m ih hx hi
  obtain ⟨e0,ad,n,cap,hE,hv,hm,hx⟩:=h.ev hg hx
  have hi:=(h.ev hg hi).1
  split at e
  ·rename_i nL cj n' get' hr
   simp only [ak,a8] at e
   obtain ⟨rfl,rfl⟩:=e
   obtain ⟨p1,p2⟩:=hp
   rw [bc] at hr
   obtain ⟨_,_,xs,eU,_⟩:=h.roots r _ _ hr hE
   have hcap:n≤cap:=by
    rw [hv] at eU
    rcases eU.2 with ⟨h1,_⟩|⟨g,c,cur,h1,_,_,h2,_⟩
    ·simp only [dz] at h1; omega
    ·simp only [dz] at h1; omega
   refine ⟨.slice ad ih.toNat cap,fun w'=>?_,e0,ad,n,cap,hE,hv,by omega,rfl⟩
   rw [hx,hi]
   exact ie bz hyel lu ad m cap ih p1 (by omega) w'
  ·rename_i nL cj n' l' hr
   simp only [ak,a8] at e
   obtain ⟨rfl,rfl⟩:=e
   obtain ⟨p1,p2⟩:=hp
   rw [bc] at hr
   obtain ⟨_,_,xs,eU,_⟩:=h.roots r _ _ hr hE
   have hcap:n≤cap:=by
    rw [hv] at eU
    rcases eU.2 with ⟨h1,_⟩|⟨g,c,cur,h1,_,_,h2,_⟩
    ·simp only [dz] at h1; omega
    ·simp only [dz] at h1; omega
   refine ⟨.slice ad ih.toNat cap,fun w'=>?_,e0,ad,n,cap,hE,hv,by omega,rfl⟩
   rw [hx,hi]
   exact ie bz hyel lu ad m cap ih p1 (by omega) w'
  ·rename_i nL cj n' get' jw hr
   simp only [ak,a8] at e
   obtain ⟨rfl,rfl⟩:=e
   obtain ⟨p1,p2⟩:=hp
   rw [bc] at hr
   obtain ⟨_,_,xs,eU,_⟩:=h.roots r _ _ hr hE
   have hcap:n≤cap:=by
    rw [hv] at eU
    rcases eU.2 with ⟨h1,_⟩|⟨g,c,cur,h1,_,_,h2,_⟩
    ·simp only [dz] at h1; omega
    ·simp only [dz] at h1; omega
   refine ⟨.slice ad ih.toNat cap,fun w'=>?_,e0,ad,n,cap,hE,hv,by omega,rfl⟩
   rw [hx,hi]
   exact ie bz hyel lu ad m cap ih p1 (by omega) w'
  ·simp at e
 ·rename_i ih hx hi
  have hx:=(h.ev hg hx).1
  have hi:=(h.ev hg hi).1
  simp only [ak,a8] at e
  obtain ⟨rfl,rfl⟩:=e
  have hp:ih=0:=hp
  subst hp
  refine ⟨.slice none 0 0,fun w'=>?_,rfl,rfl⟩
  rw [hx,hi]
  exact ie bz hyel lu none 0 0 0 (by omega) (by omega) w'
 ·simp at e
theorem xU (bz:dk P T) (h:R T N aw w0 sp s a w E) {g:eE} (hg:bt a g) {o:Oper} {p:Option Prop} {d:D} (e:aV T s g o.op=some (p,d)) (hp:need p) :
  ∃ v,(∀ w',Below w.heap.size w w'→(execOp a.eval o).run P w'=.ok (.value v) w')∧aJ E (AV aw s.rs E) w d v:=by
 obtain ⟨dst,op,type,pos,after,guard⟩:=o
 simp only at e
 cases op
 case load t x=>
  obtain ⟨v,h1,h2⟩:=oH bz h hg e hp
  exact ⟨v,fun w' hb=>bH (h1 w' hb),h2⟩
 case fieldAddr t x f=>
  obtain ⟨v,h1,h2⟩:=sO bz h hg e hp
  exact ⟨v,fun w' _=>bH (h1 w'),h2⟩
 case indexAddr t x ix=>
  obtain ⟨v,h1,h2⟩:=sS bz h hg e hp
  exact ⟨v,fun w' _=>bH (h1 w'),h2⟩
 case build t parts=>
  obtain ⟨v,h1,h2⟩:=Az bz h hg e hp
  exact ⟨v,fun w' _=>bH (h1 w'),h2⟩
 case move x=>
  simp only [aV] at e
  split at e
  ·rename_i d' hx
   simp only [ak,a8] at e
   obtain ⟨rfl,rfl⟩:=e
   exact ⟨_,fun _ _=>rfl,h.ev hg hx⟩
  ·simp at e
 case assign x=>
  simp only [aV] at e
  split at e
  ·rename_i d' hx
   simp only [ak,a8] at e
   obtain ⟨rfl,rfl⟩:=e
   exact ⟨_,fun _ _=>rfl,h.ev hg hx⟩
  ·simp at e
 case pick c x y=>
  cases c
  case tmp t=>
   simp only [aV] at e
   split at e
   case h_2=>simp at e
   rename_i b hb
   have hb:=(h.ev hg hb).1
   split at e
   case h_2=>simp at e
   rename_i bx bY hx hy
   simp only [ak,a8] at e
   obtain ⟨rfl,rfl⟩:=e
   cases b with
   | true=>
     have hx:=(h.ev (g:=(t,true)::g) (fun q hq=>by
      cases hq with
      | head=>exact hb
      | tail _ hq=>exact hg q hq) hx).1
     refine ⟨.bool bx,fun w' _=>?_,rfl,rfl⟩
     have HO:a.eval (.tmp t)=.bool true:=hb
     simp [execOp,HO,asBool,hx]
   | false=>
     have hy:=(h.ev (g:=(t,false)::g) (fun q hq=>by
      cases hq with
      | head=>exact hb
      | tail _ hq=>exact hg q hq) hy).1
     refine ⟨.bool bY,fun w' _=>?_,rfl,rfl⟩
     have HO:a.eval (.tmp t)=.bool false:=hb
     simp [execOp,HO,asBool,hy]
  all_goals simp [aV] at e
 case binOp op t x y t2=>
  simp only [aV] at e
  split at e
  ·rename_i bx bY hx hy
   have hx:=(h.ev hg hx).1
   have hy:=(h.ev hg hy).1
   split at e
   case h_2=>simp at e
   rename_i lu
   have lu:=bz.ty _ _ lu
   split at e
   ·simp only [ak,a8] at e
    obtain ⟨rfl,rfl⟩:=e
    exact ⟨_,fun w' _=>by simp only [execOp,hx,hy]; exact bH (vL lu rfl bx bY x y).1,rfl,rfl⟩
   ·simp only [ak,a8] at e
    obtain ⟨rfl,rfl⟩:=e
    exact ⟨_,fun w' _=>by simp only [execOp,hx,hy]; exact bH (vL lu rfl bx bY x y).2,rfl,rfl⟩
   ·simp at e
  ·rename_i vx vy _ hx hy
   have hx:=(h.ev hg hx).1
   have hy:=(h.ev hg hy).1
   split at e
   ·rename_i z hz
    simp only [ak,a8] at e
    obtain ⟨rfl,rfl⟩:=e
    exact ⟨_,fun w' _=>by simp only [execOp,hx,hy]; exact bH (IQ hz t x y),rfl,KB hz⟩
   ·split at e
    ·rename_i q z hz
     simp only [ak,a8] at e
     obtain ⟨rfl,rfl⟩:=e
     exact ⟨_,fun w' _=>by simp only [execOp,hx,hy]; exact bH (I5 hz hp t x y),rfl,Mw hz⟩
    ·simp at e
  ·rename_i l m hx hy
   obtain ⟨cs,hx,hl⟩:=h.ev hg hx
   obtain ⟨ds,hy,hm⟩:=h.ev hg hy
   split at e
   case h_2=>simp at e
   rename_i ks hks
   split at e
   ·rename_i b hb
    simp only [ak,a8] at e
    obtain ⟨rfl,rfl⟩:=e
    exact ⟨_,fun w' HO=>by simp only [execOp,hx,hy]; exact bH (bz.eqs t ks hks l m b hb E _ w' cs ds (hl.mono fun _ _ q=>aU.mono (Env.le_refl E) (aZ.kW HO) (fun _ _ q=>q) q) (hm.mono fun _ _ q=>aU.mono (Env.le_refl E) (aZ.kW HO) (fun _ _ q=>q) q) x y).1,rfl,rfl⟩
   ·rename_i b hb
    simp only [ak,a8] at e
    obtain ⟨rfl,rfl⟩:=e
    exact ⟨_,fun w' HO=>by simp only [execOp,hx,hy]; exact bH (bz.eqs t ks hks l m b hb E _ w' cs ds (hl.mono fun _ _ q=>aU.mono (Env.le_refl E) (aZ.kW HO) (fun _ _ q=>q) q) (hm.mono fun _ _ q=>aU.mono (Env.le_refl E) (aZ.kW HO) (fun _ _ q=>q) q) x y).2,rfl,rfl⟩
   ·simp at e
  ·simp at e
 case slice t x lo hi mx=>
  cases lo with
  | some _=>simp [aV] at e
  | none=>cases hi with
    | none=>simp [aV] at e
    | some hi=>cases mx with
      | some _=>simp [aV] at e
      | none=>
        obtain ⟨v,h1,h2⟩:=BG bz h hg e hp
        exact ⟨v,fun w' _=>bH (h1 w'),h2⟩
 case lookup t x i ok=>
  obtain ⟨v,h1,h2⟩:=zg bz h hg e
  exact ⟨v,fun w' hb=>bH (h1 w' hb),h2⟩
 case unOp op t x=>
  cases op
  case not=>
   simp only [aV] at e
   split at e
   ·rename_i b hx
    have hx:=(h.ev hg hx).1
    simp only [ak,a8] at e
    obtain ⟨rfl,rfl⟩:=e
    exact ⟨.bool (!b),fun w' _=>by simp only [execOp,hx]; simp [Op.unary],rfl,rfl⟩
   ·simp at e
  case neg=>
   simp only [aV] at e
   split at e
   ·rename_i n hx
    have hx:=(h.ev hg hx).1
    simp only [ak,a8] at e
    obtain ⟨rfl,rfl⟩:=e
    exact ⟨.int .i64 (IntKind.i64.wrap (0-n)),fun w' _=>by simp only [execOp,hx]; simp [Op.unary,Op.intArith],rfl,rfl⟩
   ·simp at e
  all_goals simp [aV] at e
 case nilCheck x=>
  simp only [aV] at e
  split at e
  ·rename_i r i j hx
   obtain ⟨b,sz,h1,hv⟩:=h.ev hg hx
   simp only [ak,a8] at e
   obtain ⟨rfl,rfl⟩:=e
   exact ⟨_,fun w' _=>by simp only [execOp,hv]; rfl,b,sz,h1,rfl⟩
  ·rename_i n get hx
   have hx:=h.ev hg hx
   obtain ⟨ad,hv,hr⟩:=hx
   simp only [ak,a8] at e
   obtain ⟨rfl,rfl⟩:=e
   exact ⟨_,fun w' _=>by simp only [execOp,hv]; rfl,ad,rfl,hr⟩
  ·rename_i f dR hx
   obtain ⟨vs,hv,hr⟩:=h.ev hg hx
   simp only [ak,a8] at e
   obtain ⟨rfl,rfl⟩:=e
   exact ⟨_,fun w' _=>by simp only [execOp,hv]; rfl,vs,rfl,hr⟩
  ·rename_i f n cap hx
   obtain ⟨vs,hv,hr⟩:=h.ev hg hx
   simp only [ak,a8] at e
   obtain ⟨rfl,rfl⟩:=e
   exact ⟨_,fun w' _=>by simp only [execOp,hv]; rfl,vs,rfl,hr⟩
  ·simp at e
 case extract x k=>
  simp only [aV] at e
  split at e
  case h_2=>simp at e
  rename_i l hx
  obtain ⟨vs,hv,hl⟩:=h.ev hg hx
  split at e
  ·rename_i cs hk
   obtain ⟨v,h1,h2⟩:=hl.nth hk
   simp only [ak,a8] at e
   obtain ⟨rfl,rfl⟩:=e
   refine ⟨v,fun w' _=>?_,h2⟩
   have lX:vs[k]?=some v:=by simpa using h1
   simp [execOp,hv,Instr.extract,lX]
  ·rename_i c hk
   obtain ⟨v,h1,c',h2,h3⟩:=hl.nth hk
   simp only [ak,a8] at e
   obtain ⟨rfl,rfl⟩:=e
   simp only [List.cons.injEq,and_true] at h2
   subst h2
   refine ⟨v,fun w' _=>?_,h3⟩
   have lX:vs[k]?=some v:=by simpa using h1
   simp [execOp,hv,Instr.extract,lX]
  ·simp at e
 case makeFunc fn first dR=>
  simp only [aV] at e
  have run:∀ f,fn=.func f→first.toList=[]→∀ w',Below w.heap.size w w'→(execOp a.eval { dst:=dst,op:=.makeFunc fn first dR,type:=type,pos:=pos,after:=after,guard:=guard }).run P w'=.ok (.value (.func (.func f) #[] (dR.map a.eval))) w':=by
   intro f hf h0 w' _
   have:first = #[]:=by rw [← Array.toList_eq_nil_iff]; exact h0
   subst this
   subst hf
   simp [execOp,Instr.makeFunc]
  split at e
  ·rename_i f h0 hx
   have hx:=kj h hg hx
   simp only [ak,a8] at e
   obtain ⟨rfl,rfl⟩:=e
   refine ⟨_,run _ rfl h0,_,rfl,?_⟩
   have:(dR.map a.eval).toList=[]:=by rw [Array.toList_map]; cases hc:List.map a.eval dR.toList with
    | nil=>rfl
    | cons y ys=>rw [hc] at hx; cases hx
   rw [this]
   exact .nil
  ·rename_i f r h0 hx
   have hx:=kj h hg hx
   simp only [ak,a8] at e
   obtain ⟨rfl,rfl⟩:=e
   refine ⟨_,run _ rfl h0,_,rfl,?_⟩
   rw [Array.toList_map]
   revert hx
   generalize List.map a.eval dR.toList=vs
   intro hx
   cases hx with
   | cons q1 q2=>
     cases q2
     exact .cons (kS (av:=AV aw s.rs E) (w:=w) q1) .nil
  ·rename_i f r r' h0 hx
   have hx:=kj h hg hx
   simp only [ak,a8] at e
   obtain ⟨rfl,rfl⟩:=e
   refine ⟨_,run _ rfl h0,_,rfl,?_⟩
   rw [Array.toList_map]
   revert hx
   generalize List.map a.eval dR.toList=vs
   intro hx
   cases hx with
   | cons q1 q2=>
     cases q2 with
     | cons q3 q4=>
       cases q4
       exact .cons (kS (av:=AV aw s.rs E) (w:=w) q1) (.cons (kS (av:=AV aw s.rs E) (w:=w) q3) .nil)
  ·rename_i f r r' r'' h0 hx
   have hx:=kj h hg hx
   simp only [ak,a8] at e
   obtain ⟨rfl,rfl⟩:=e
   refine ⟨_,run _ rfl h0,_,rfl,?_⟩
   rw [Array.toList_map]
   revert hx
   generalize List.map a.eval dR.toList=vs
   intro hx
   cases hx with
   | cons q1 q2=>
     cases q2 with
     | cons q3 q4=>
       cases q4 with
       | cons q5 q6=>
         cases q6
         exact .cons (kS (av:=AV aw s.rs E) (w:=w) q1) (.cons (kS (av:=AV aw s.rs E) (w:=w) q3) (.cons (kS (av:=AV aw s.rs E) (w:=w) q5) .nil))
  ·simp at e
 case call c=>
  obtain ⟨callee,args,argTypes⟩:=c
  simp only [aV] at e
  split at e
  case h_2=>simp at e
  rename_i b
  have run:∀ v w',(builtin b argTypes type (args.map fun|.const _=>true|_=>false) (args.map a.eval)).run P w'=.ok (.value v) w' →
    (execOp a.eval { dst:=dst,op:=.call { callee:=.builtin b,args:=args,argTypes:=argTypes },type:=type,pos:=pos,after:=after,guard:=guard }).run P w'=.ok (.value v) w':=by
   intro v w' hr
   simp only [execOp,resolve,Sem.run_bind,Sem.run_pure,Result.andThen_ok,invoke]
   exact hr
  obtain ⟨v,h1,h2⟩:=vY bz h hg type (args.map fun|.const _=>true|_=>false) e hp
  exact ⟨v,fun w' _=>run v w' (h1 w'),h2⟩
 all_goals simp [aV] at e
end
open Go.RowKit
section
variable {P:Program} {T:dn} {N:Nat} {aw:Nat→Prop} {w0:Kp} {sp:List (D×Value)} {s:VS} {a:Act} {w:World} {E:Env}
theorem kh:∀ {c:eE} {t:Tmp},gq t c=true→∀ p∈c,p.1≠t
 | [],t,_,p,hp=>by cases hp
 | x::c,t,h,p,hp=>by
   simp only [gq] at h
   split at h
   ·simp at h
   ·rename_i hx
    cases hp with
    | head=>intro e; subst e; simp [cB] at hx
    | tail _ hp=>exact kh h p hp
theorem xt:∀ {sl:aG} {t:Tmp},free t sl=true→∀ {t' d c},look sl t'=some (d,c)→gq t c=true
 | [],t,_,t',d,c,h=>by simp [look] at h
 | x::sl,t,hf,t',d,c,h=>by
   obtain ⟨k,d',c'⟩:=x
   simp only [free] at hf
   split at hf
   ·rename_i h1
    simp only [look] at h
    split at h
    ·simp only [ak,a8] at h
     obtain ⟨rfl,rfl⟩:=h
     exact h1
    ·exact xt hf h
   ·simp at hf
theorem jU {a:Act} {t t':Tmp} {v:Value} (h:t'≠t):(a.put (some t) v).tmps.getD t' undef=a.tmps.getD t' undef:=by
 simp [Act.put,Array.getElem?_setIfInBounds_ne (Ne.symm h)]
theorem wi {a:Act} {t:Tmp} {v:Value} (h:t<a.tmps.size):(a.put (some t) v).tmps.getD t undef=v:=by
 simp [Act.put,h]
theorem ED {t:Nat} {g:eE} {sl:aG} (h:AQ N t g sl=true):t<N∧free t sl=true∧gq t g=true:=by
 unfold AQ at h
 split at h
 ·rename_i h1
  split at h
  ·rename_i h2
   exact ⟨aF h1,h2,h⟩
  ·simp at h
 ·simp at h
theorem nt {a:Act} {t:Tmp} {v:Value} {c:eE} (h:gq t c=true):bt (a.put (some t) v) c↔bt a c:=by
 have:=kh h
 constructor<;>intro q p hp
 ·have:=q p hp; rwa [jU (kh h p hp)] at this
 ·rw [jU (kh h p hp)]; exact q p hp
theorem R.put (h:R T N aw w0 sp s a w E) {t:Nat} {d:D} {g:eE} {v:Value} (vh:AQ N t g s.sl=true)
  (h1:bt a g→aJ E (AV aw s.rs E) w d v) (h2:¬ bt a g→v=undef):R T N aw w0 sp { s with sl:=(t,d,g)::s.sl } (a.put (some t) v) w E:=by
 obtain ⟨hN,hf,hg⟩:=ED vh
 refine ⟨by simp [Act.put,h.size],h.defers,h.spec,h.below,h.len,h.outer,h.roots,h.cT,h.eP,?_,h.fL⟩
 intro t' d' c' hl
 simp only [look] at hl
 split at hl
 ·rename_i he
  have he:=bs he
  simp only [ak,a8] at hl
  obtain ⟨rfl,rfl⟩:=hl
  subst he
  have eT:t<a.tmps.size:=by rw [h.size]; exact hN
  rw [wi eT]
  refine ⟨hN,fun q=>h1 ((nt hg).1 q),fun q=>h2 fun q'=>q ((nt hg).2 q')⟩
 ·rename_i he
  have CN:t'≠t:=by intro e; subst e; simp [cB] at he
  obtain ⟨q1,q2,q3⟩:=h.slots t' d' c' hl
  rw [jU CN]
  have hc:=xt hf hl
  exact ⟨q1,fun q=>q2 ((nt hc).1 q),fun q=>q3 fun q'=>q ((nt hc).2 q')⟩
theorem kg {rs aE:List ae} {E E':Env} {aw:Nat→Prop} {n:Nat} (h:∀ r x b sz,aE[r]?=some x→x.live→di E' r b sz→b<n→AV aw rs E b):∀ b,b<n→AV aw aE E' b→AV aw rs E b:=by
 rintro b hb (q|⟨r,x,sz,h1,h2,h3⟩)
 ·exact .inl q
 ·exact h r x b sz h1 h2 h3 hb
theorem R.zz (h:R T N aw w0 sp s a w E) {aE:List ae} {E':Env} {w':World} (hE:Env.le E E') (hk:aZ (AV aw s.rs E) w w') (hb:w0.Holds w')
  (eY:∀ b,b<w.heap.size→AV aw aE E' b→AV aw s.rs E b) (hlen:E'.length=aE.length)
  (hr:∀ (r:Nat) (x:ae) (e:gr),aE[r]?=some x→E'[r]?=some e→aM E' (AV aw aE E') w0.base w' e x)
  (ik:∀ (r:Nat) (x:ae) (b sz:Nat),aE[r]?=some x→x.live→di E' r b sz→w0.In b∧b<w'.heap.size)
  (X7:∀ (r r':Nat) (x x':ae) (b sz cj:Nat),aE[r]?=some x→aE[r']?=some x'→x.live→x'.live→di E' r b sz→di E' r' b cj→r=r') :
  R T N aw w0 sp { s with rs:=aE } a w' E' :=
 ⟨h.size,h.defers.mono fun _ _ ⟨b,sz,q,e⟩=>⟨b,sz,hE.at_ q,e⟩,fun x hx=>aJ.mono hE hk eY (h.spec x hx),hb,hlen,h.outer,hr,ik,X7,fun t d c hl=>by
  obtain ⟨q1,q2,q3⟩:=h.slots t d c hl
  exact ⟨q1,fun q=>aJ.mono hE hk eY (q2 q),q3⟩,h.fL.mono hk eY⟩
theorem R.size_le (h:R T N aw w0 sp s a w E):w0.base≤w.heap.size:=h.below.base
theorem R.iQ (h:R T N aw w0 sp s a w E) {b:Nat} (q:aw b):b<w.heap.size:=Nat.lt_of_lt_of_le (h.outer b q).1 h.below.size
theorem aM.mono {E E':Env} {av cF:Nat→Prop} {base:Nat} {w w':World} {e:gr} {x:ae} (hE:Env.le E E') (hk:aZ av w w') (ha:∀ b,b<w.heap.size→cF b→av b)
  (hs:x.live→∀ b,e.has b→w'.heap[b]?=w.heap[b]?) (h:aM E av base w e x):aM E' cF base w' e x:=by
 cases x with
 | dead=>trivial
 | box l=>
   obtain ⟨b,cs,Tc,q1,q2,q3,q4⟩:=h
   exact ⟨b,cs,Tc,q1,q2,by rw [hs trivial b (.inl q1)]; exact q3,q4.mono fun _ _ q=>aU.mono hE hk ha q⟩
 | arr el sz n get=>
   obtain ⟨q1,q2,xs,q3,q4⟩:=h
   refine ⟨q1,q2,xs,?_,fun i hi j hj=>?_⟩
   ·obtain ⟨h1,h2⟩:=q3
    refine ⟨h1,?_⟩
    rcases h2 with h2|⟨g,cap,cur,h3,h4,h5,h6⟩
    ·exact .inl h2
    ·refine .inr ⟨g,cap,cur,h3,h4,?_,h6⟩
     rw [hs trivial g (.inl (by rw [q2,h3]; rfl))]
     exact h5
   ·obtain ⟨x,h1,h2⟩:=q4 i hi j hj
    exact ⟨x,h1,cA.mono hk ha h2⟩
 | row el sz n l=>
   obtain ⟨q1,q2,xs,q3,q4⟩:=h
   refine ⟨q1,q2,xs,?_,q4.mono fun _ _ q=>aU.mono hE hk ha q⟩
   obtain ⟨h1,h2⟩:=q3
   refine ⟨h1,?_⟩
   rcases h2 with h2|⟨g,cap,cur,h3,h4,h5,h6⟩
   ·exact .inl h2
   ·refine .inr ⟨g,cap,cur,h3,h4,?_,h6⟩
    rw [hs trivial g (.inl (by rw [q2,h3]; rfl))]
    exact h5
 | gy el sz n get dK=>
   obtain ⟨q1,q2,xs,q3,Ks,hp,hf,q4⟩:=h
   refine ⟨q1,q2,xs,lB (fun b q=>hs trivial b (.inl (q2.trans q))) q3,Ks,hp,hf,fun i hi j hj=>?_⟩
   obtain ⟨x,c,h1,h2,h3⟩:=q4 i hi j hj
   exact ⟨x,c,h1,h2,ja.mono hE hk ha (fun b q=>hs trivial b (.inr (hp.sub i j b q))) h3⟩
 | own l=>
   obtain ⟨q1,q2,vs,q3,q4,Ks,q5,q6,q7⟩:=h
   refine ⟨q1,q2,vs,q3,q4,Ks,q5,q6,fun i o ho=>?_⟩
   obtain ⟨v,h1,h2⟩:=q7 i o ho
   exact ⟨v,h1,je.mono hk ha (fun b q=>hs trivial b (.inr (q5 i b q))) h2⟩
 | set l=>
   obtain ⟨b,es,clock,q1,q2,q3⟩:=h
   exact ⟨b,es,clock,q1,by rw [hs trivial b (.inl q1)]; exact q2,q3⟩
 | l7=>
   obtain ⟨b,q1,q2⟩:=h
   exact ⟨b,q1,by rw [hs trivial b (.inl q1)]; exact q2⟩
 | loop f N sl ps as bd st fe=>
   obtain ⟨b,db,tm,q1,q2,q3,q4,q5⟩:=h
   exact ⟨b,db,tm,q1,by rw [hs trivial b (.inl q1)]; exact q2,q3,q4.mono hE hk ha,q5⟩
theorem kc {E:Env} {e:gr} {r b sz:Nat} (h:di (E++[e]) r b sz):di E r b sz∨(r=E.length∧e.has b∧e.2.2=sz):=by
 obtain ⟨hh,h,h2,h3⟩:=h
 rcases Nat.lt_trichotomy r E.length with hr|hr|hr
 ·rw [dQ hr] at h; exact .inl ⟨hh,h,h2,h3⟩
 ·subst hr
  rw [gG (bf _)] at h
  simp at h
  subst h
  exact .inr ⟨rfl,h3,h2⟩
 ·rw [List.getElem?_eq_none (by simp; omega)] at h
  simp at h
theorem R.new (h:R T N aw w0 sp s a w E) {x:ae} {e:gr} {w':World} (hs:w'.heap.size=w.heap.size+1) (hold:∀ b,b<w.heap.size→w'.heap[b]?=w.heap[b]?)
  (hb:Below w.heap.size w w') (he:e.1=some w.heap.size) (hx:aM (E++[e]) (AV aw (s.rs++[x]) (E++[e])) w0.base w' e x) (qa:∀ b,¬ e.2.1.2 b:=by intro b hb; exact hb) :
  R T N aw w0 sp { s with rs:=s.rs++[x] } a w' (E++[e]):=by
 have hle:=h.size_le
 have key:∀ r y b sz,(s.rs++[x])[r]?=some y→y.live→di (E++[e]) r b sz→(s.rs[r]?=some y∧di E r b sz)∨(r=E.length∧b=w.heap.size):=by
  intro r y b sz h1 h2 h3
  rcases kc h3 with h4|⟨h4,h5,_⟩
  ·refine .inl ⟨?_,h4⟩
   obtain ⟨hh,h4,_⟩:=h4
   have:=(List.getElem?_eq_some_iff.1 h4).1
   rw [h.len] at this
   rwa [dQ this] at h1
  ·refine .inr ⟨h4,?_⟩
   rcases h5 with h5|h5
   ·rw [he] at h5
    exact (Option.some.inj h5).symm
   ·exact (qa _ h5).elim
 refine h.zz (Env.eo _ _) ⟨by omega,fun b q _=>hold b q⟩ (h.below.grown hb.os hb.tape hb.output (by omega) fun k hk _=>hold k hk)
  (kg fun r y b sz h1 h2 h3 h4=>?_) (by simp [h.len]) ?_ ?_ ?_
 ·rcases key r y b sz h1 h2 h3 with ⟨h5,h6⟩|⟨_,h6⟩
  ·exact .inr ⟨r,y,sz,h5,h2,h6⟩
  ·omega
 ·intro r y e' h1 h2
  rcases Nat.lt_trichotomy r E.length with hr|hr|hr
  ·rw [dQ (by rw [← h.len]; exact hr)] at h1
   rw [dQ hr] at h2
   refine aM.mono (av:=AV aw s.rs E) (Env.eo _ _) ⟨by omega,fun b q _=>hold b q⟩ (kg fun r y b sz h1 h2 h3 h4=>?_) (fun hl b q=>?_) (h.roots r y e' h1 h2)
   ·rcases key r y b sz h1 h2 h3 with ⟨h5,h6⟩|⟨_,h6⟩
    ·exact .inr ⟨r,y,sz,h5,h2,h6⟩
    ·omega
   ·exact hold b (h.cT r y b e'.2.2 h1 hl ⟨e',h2,rfl,q⟩).2
  ·subst hr
   rw [h.len,gG (bf _)] at h1
   rw [gG (bf _)] at h2
   simp at h1 h2
   subst h1 h2
   exact hx
  ·rw [List.getElem?_eq_none (by simp; omega)] at h2
   simp at h2
 ·intro r y b sz h1 h2 h3
  rcases key r y b sz h1 h2 h3 with ⟨h5,h6⟩|⟨_,h6⟩
  ·have q:=h.cT r y b sz h5 h2 h6; exact ⟨q.1,by omega⟩
  ·subst h6; exact ⟨h.below.fresh (bf _),by omega⟩
 ·intro r r' y y' b sz cj h1 lX h2 jf h3 l9
  rcases key r y b sz h1 h2 h3 with ⟨h5,h6⟩|⟨h6,h7⟩<;>rcases key r' y' b cj lX jf l9 with ⟨h5',h6'⟩|⟨h6',h7'⟩
  ·exact h.eP r r' y y' b sz cj h5 h5' h2 jf h6 h6'
  ·have:=h.cT r y b sz h5 h2 h6; omega
  ·have:=h.cT r' y' b cj h5' jf h6'; omega
  ·omega
end
open Go.RowKit
section
variable {P:Program} {T:dn} {N:Nat} {aw:Nat→Prop} {w0:Kp} {sp:List (D×Value)} {s:VS} {a:Act} {w:World} {E:Env}
theorem az.vA {α β:Type} {Rr:α→β→Prop}:∀ {l:List α} {m:List β},l.length=m.length→(∀ (i:Nat) (x:α) (y:β),l[i]?=some x→m[i]?=some y→Rr x y)→az Rr l m
 | [],[],_,_=>.nil
 | [],_::_,h,_=>by simp at h
 | _::_,[],h,_=>by simp at h
 | x::l,y::m,h,k=>.cons (k 0 x y rfl rfl) (az.vA (by simpa using h) fun i x y h1 h2=>k (i+1) x y (by simpa using h1) (by simpa using h2))
theorem az.get {α β:Type} {Rr:α→β→Prop} {l:List α} {m:List β} (h:az Rr l m) {i:Nat} {x:α} {y:β} (h1:l[i]?=some x) (h2:m[i]?=some y):Rr x y:=by
 obtain ⟨y',h3,h4⟩:=h.nth (by rw [bc]; exact h1)
 rw [h2] at h3
 cases h3
 exact h4
theorem az.qB {E:Env} {av:Nat→Prop} {w:World} {l:List C} {m:List Value} (h:az (aU E av w) l m):∀ v∈m,v.oneCell'=true:=by
 induction h with
 | nil=>intro v hv; cases hv
 | cons q _ ih=>
   intro v hv
   cases hv with
   | head=>exact aU.one q
   | tail _ hv=>exact ih v hv
theorem gU (w:World) (o:Obj):Below w.heap.size w (w.alloc o):=(Below.refl _ _).alloc (bf _) o
theorem R.Sb (h:R T N aw w0 sp s a w E) {x:ae} {hd:Hd} {sz:Nat} (qa:∀ b,¬ hd.2 b:=by intro b hb; exact hb):∀ b,b<w.heap.size→AV aw (s.rs++[x]) (E++[(some w.heap.size,hd,sz)]) b→AV aw s.rs E b:=by
 refine kg fun r y b cj h1 h2 h3 h4=>?_
 rcases kc h3 with h5|⟨h5,h6,_⟩
 ·have h5':=h5
  obtain ⟨hh,h5,_⟩:=h5
  have hr:=(List.getElem?_eq_some_iff.1 h5).1
  rw [h.len] at hr
  rw [dQ hr] at h1
  exact .inr ⟨r,y,cj,h1,h2,h5'⟩
 ·rcases h6 with h6|h6
  ·simp at h6; omega
  ·exact (qa _ h6).elim
theorem R.box (h:R T N aw w0 sp s a w E) {l:List C} {cs:Array Value} (hl:az (aU E (AV aw s.rs E) w) l cs.toList) (t:TypeId) :
  R T N aw w0 sp { s with rs:=s.rs++[.box l] } a (w.alloc (.cells cs t)) (E++[(some w.heap.size,kF,l.length)]):=by
 have eY:∀ b,b<w.heap.size→AV aw (s.rs++[.box l]) (E++[(some w.heap.size,kF,l.length)]) b→AV aw s.rs E b:=by
  refine kg fun r y b sz h1 h2 h3 h4=>?_
  rcases kc h3 with h5|⟨h5,h6,_⟩
  ·have h5':=h5
   obtain ⟨hh,h5,_⟩:=h5
   have hr:=(List.getElem?_eq_some_iff.1 h5).1
   rw [h.len] at hr
   rw [dQ hr] at h1
   exact .inr ⟨r,y,sz,h1,h2,h5'⟩
  ·rcases h6 with h6|h6
   ·simp at h6; omega
   ·exact h6.elim
 refine h.new (by simp) (fun b hb=>Below.heap_alloc w _ b hb) (gU w _) rfl ⟨w.heap.size,cs,t,rfl,rfl,heap_alloc_new w _,?_⟩
 exact hl.mono fun _ _ q=>aU.mono (Env.eo _ _) ⟨by simp,fun b hb _=>Below.heap_alloc w _ b hb⟩ eY q
theorem R.turn (h:R T N aw w0 sp s a w E) {r b sz:Nat} {x x':ae} {hd:Hd} (hr:s.rs[r]?=some x) (hx:x.live) (hE:E[r]?=some (some b,hd,sz)) {w':World} (hs:w'.heap.size=w.heap.size) (hold:∀ k,k≠b→w'.heap[k]?=w.heap[k]?)
  (W1:w'.os=w.os∧w'.tape=w.tape∧w'.output=w.output) (TI:aM E (AV aw s.rs E) w0.base w' (some b,hd,sz) x') :
  R T N aw w0 sp { s with rs:=s.rs.set r x' } a w' E:=by
 have hb:=h.Wd r x b sz hr hx ⟨hd,hE⟩
 have hlen:r<s.rs.length:=(List.getElem?_eq_some_iff.1 hr).1
 have key:∀ (q:Nat) (y:ae),(s.rs.set r x')[q]?=some y→y.live→∃ z:ae,s.rs[q]?=some z∧z.live:=by
  intro q y h1 h2
  rw [fb] at h1
  split at h1
  ·rename_i hq; subst hq; exact ⟨x,hr,hx⟩
  ·exact ⟨y,h1,h2⟩
 have hk:aZ (AV aw s.rs E) w w':=⟨by omega,fun k hk hn=>hold k fun e=>by subst e; exact hn (.inr ⟨r,x,sz,hr,hx,a7.own ⟨hd,hE⟩⟩)⟩
 have eY:∀ k,k<w.heap.size→AV aw (s.rs.set r x') E k→AV aw s.rs E k:=by
  refine kg fun q y b sz h1 h2 h3 h4=>?_
  obtain ⟨z,h5,h6⟩:=key q y h1 h2
  exact .inr ⟨q,z,sz,h5,h6,h3⟩
 refine h.zz (Env.le_refl E) hk (h.below.grown W1.1 W1.2.1 W1.2.2 (by omega) fun k hk hn=>hold k (fun e=>hn (by rw [e]; exact hb.1))) eY (by simp [h.len]) ?_ ?_ ?_
 ·intro q y e h1 h2
  rw [fb] at h1
  split at h1
  ·rename_i hq
   subst hq
   simp only [ak] at h1
   subst h1
   rw [hE] at h2
   simp only [ak] at h2
   subst h2
   exact aM.mono (Env.le_refl E) (aZ.refl _ w') (fun k hk q=>eY k (by omega) q) (fun _ _ _=>rfl) TI
  ·rename_i hq
   refine aM.mono (av:=AV aw s.rs E) (Env.le_refl E) hk eY (fun hl k jN=>hold k fun e=>?_) (h.roots q y e h1 h2)
   subst e
   exact hq (h.eP r q x y k sz e.2.2 hr h1 hx hl (a7.own ⟨hd,hE⟩) ⟨e,h2,rfl,jN⟩)
 ·intro q y k cj h1 h2 h3
  obtain ⟨z,h5,h6⟩:=key q y h1 h2
  have q:=h.cT q z k cj h5 h6 h3
  exact ⟨q.1,by omega⟩
 ·intro q q' y y' k Zq RV h1 lX h2 jf h3 l9
  obtain ⟨z,h5,h6⟩:=key q y h1 h2
  obtain ⟨z',h5',h6'⟩:=key q' y' lX jf
  exact h.eP q q' z z' k Zq RV h5 h5' h6 h6' h3 l9
theorem gH {t:TypeId} {y:Ty} (hy:cr P t y) {b o:Nat} {cur:Array Value} {Tc:TypeId} (hg:w.heap[b]?=some (.cells cur Tc (0,0))) {v:Value} (hv:v.cells.size=y.size) (l8:o+y.size≤cur.size) (h1:∀ u∈v.cells.toList,u.oneCell'=true) :
  (Instr.storeAt t (.pointer (some ⟨b,o,none⟩)) v).run P w=.ok () (w.setRow b (cur.toList.take o++v.cells.toList++cur.toList.drop (o+y.size)).toArray):=by
 have mg:=run_storeCells_at (P:=P) b o Tc v.cells.toList 0 cur w hg (by simp; omega) h1
 simp only [Nat.add_zero] at mg
 have hl:v.cells.toList.length=y.size:=by simpa using hv
 rw [hl] at mg
 simp [Instr.storeAt,Instr.sureAddr,storeVar,run_sizeOf hy.sz,hv,mg]
theorem Kk {α:Type} (l:List α) (o:Nat) (y:α) (ho:o<l.length):(l.set o y).take (o+1)=l.take o++[y]:=by
 induction l generalizing o with
 | nil=>simp at ho
 | cons x l ih=>
   cases o with
   | zero=>simp
   | succ o=>simp only [List.set_cons_succ,List.take_succ_cons,List.cons_append]; rw [ih o (by simpa using ho)]
theorem set_drop {α:Type} (l:List α) (o k:Nat) (y:α) (hk:o<k):(l.set o y).drop k=l.drop k:=by
 rw [List.drop_set]
 split
 ·rfl
 ·omega
theorem put_eq:∀ {ys l:List C} {o:Nat} {r:List C},put l o ys=some r→r=l.take o++ys++l.drop (o+ys.length)
 | [],l,o,r,h=>by
   simp only [put,ak] at h
   subst h
   simp
 | y::ys,l,o,r,h=>by
   simp only [put] at h
   split at h
   ·rename_i z hz
    rw [bc] at hz
    have ho:o<l.length:=(List.getElem?_eq_some_iff.1 hz).1
    rw [bm] at h
    rw [put_eq h,Kk l o y ho,set_drop l o _ y (by omega)]
    simp [Nat.add_assoc,Nat.add_comm 1]
   ·simp at h
theorem VC {Ro:C→Value→Prop} {ys l:List C} {o:Nat} {r:List C} {vs cs:List Value} (h:put l o ys=some r) (h1:az Ro l cs) (h2:az Ro ys vs):az Ro r (cs.take o++vs++cs.drop (o+vs.length)):=by
 rw [put_eq h,← h2.length]
 exact ((h1.take o).append h2).append (h1.drop _)
theorem o6:∀ {cs:List C} {ys:List I},zo cs=some ys→cs=lift ys
 | [],ys,h=>by simp [zo] at h; subst h; rfl
 | c::cs,ys,h=>by
   cases c with
   | im x=>
     simp only [zo] at h
     split at h
     ·rename_i r hr
      simp only [ak] at h
      subst h
      simp only [lift]
      rw [o6 hr]
     ·simp at h
   | _=>simp [zo] at h
theorem td {E:Env} {av:Nat→Prop} {w:World}:∀ {ys:List I} {vs:List Value},az (aU E av w) (lift ys) vs→az (cA av w) ys vs
 | [],vs,h=>by cases h; exact .nil
 | y::ys,vs,h=>by cases h with|cons q1 q2=>exact .cons q1 (td q2)
theorem yQ {E:Env} {av:Nat→Prop} {w:World}:∀ {ys:List I} {vs:List Value},az (cA av w) ys vs→az (aU E av w) (lift ys) vs
 | [],vs,h=>by cases h; exact .nil
 | y::ys,vs,h=>by cases h with|cons q1 q2=>exact .cons q1 (yQ q2)
theorem nk {av:Nat→Prop} {w:World} {ys:List I} {vs:List Value} (h:az (cA av w) ys vs) {q:Nat} (hq:q<ys.length):∃ x,vs[q]?=some x∧cA av w (bu ys q) x:=by
 have:ys[q]?=some ys[q]:=gj hq
 have h1:nth ys q=some ys[q]:=by rw [bc]; exact this
 obtain ⟨x,h2,h3⟩:=h.nth h1
 exact ⟨x,h2,by simp only [bu,h1]; exact h3⟩
theorem sh (bz:dk P T) (h:R T N aw w0 sp s a w E) {t:TypeId} {x v:D} {px pv:Value} (hx:aJ E (AV aw s.rs E) w x px) (hv:aJ E (AV aw s.rs E) w v pv) {K:VS→Prop} (e:yc T s t x v K) :
  ∃ s' w',(Instr.storeAt t px pv).run P w=.ok () w'∧R T N aw w0 sp s' a w' E∧K s':=by
 unfold yc at e
 split at e
 case h_2=>exact e.elim
 rename_i y hy
 have hy:=bz.ty _ _ hy
 split at e
 case h_2=>exact e.elim
 rename_i cs hcs
 have hcv:=kJ hv hcs
 split at e
 case h_2=>exact e.elim
 rename_i eT
 simp only [cG] at eT
 obtain ⟨eT,fg⟩:=eT
 have eT:=bs eT
 have fg:=aF fg
 have sP:pv.cells.size=y.size:=by have:=hcv.length; rw [eT] at this; simpa using this.symm
 split at e
 case h_2=>exact e.elim
 rename_i r i j
 obtain ⟨b,sz,⟨hd,hE⟩,rfl⟩:=hx
 split at e
 ·rename_i l hl
  rw [bc] at hl
  obtain ⟨b',cur,Tc,q1,q2,q3,q4⟩:=h.roots r _ _ hl hE
  simp only [ak] at q1
  subst q1
  split at e
  case h_2=>exact e.elim
  rename_i l' sR
  simp only [Nat.zero_mul,Nat.zero_add]
  have l8:j+y.size≤cur.size:=by
   have hlen:=q4.length
   rcases qq sR with h1|h1
   ·rw [eT] at h1; simp at hlen; omega
   ·subst h1; simp at eT
    omega
  have hp:=VC sR q4 hcv
  have hrun:=gH hy q3 sP l8 (hcv.qB)
  refine ⟨_,_,hrun,?_,e⟩
  rw [bm]
  have hl2:pv.cells.toList.length=y.size:=by simpa using sP
  rw [hl2] at hp
  refine h.turn hl trivial hE (by simp) (fun k hk=>setRow_other w _ k _ hk) ⟨rfl,rfl,rfl⟩ ⟨b,_,Tc,rfl,?_,setRow_heap w b cur _ Tc (0,0) q3,?_⟩
  ·have q2:sz=l.length:=q2
   show sz=l'.length
   rw [q2,q4.length,hp.length]
   simp [hl2]
   omega
  ·have hk:aZ (AV aw s.rs E) w (w.setRow b (cur.toList.take j++pv.cells.toList++cur.toList.drop (j+y.size)).toArray):=
    ⟨by simp,fun k hk hn=>setRow_other w _ k _ fun e=>by subst e; exact hn (.inr ⟨r,_,sz,hl,trivial,a7.own ⟨hd,hE⟩⟩)⟩
   exact hp.mono fun _ _ q=>aU.mono (Env.le_refl E) hk (fun _ _ q=>q) q
 ·rename_i el asz n get hl
  rw [bc] at hl
  split at e
  case h_2=>exact e.elim
  rename_i ys hys hle
  have hle:=dL hle
  obtain ⟨hi,e⟩:=e
  obtain ⟨q1,q2,xs,q3,q4⟩:=h.roots r _ _ hl hE
  have q1:sz=asz:=q1
  have q2:some b=hd.1.ownBlock:=q2
  subst q1
  obtain ⟨q5,q6⟩:=q3
  have q6:(hd.1=.slice none 0 0∧n=0)∨∃ g cap cur,hd.1=.slice (some ⟨g,0,none⟩) n cap∧w0.base≤g∧w.heap[g]?=some (.cells cur el (0,0))∧n≤cap∧cap≤maxLen∧cur.size=cap*sz∧cur.toList.take (n*sz)=xs:=q6
  rcases q6 with ⟨_,q6⟩|⟨g',cap,cur,q6,q7,q8,q9,q10,q11,q12⟩
  ·omega
  rw [q6] at q2
  simp only [Value.ownBlock,ak] at q2
  subst q2
  have hfit0:i*sz+(j+y.size)≤n*sz:=by
   have:=fA sz (show i+1≤n by omega)
   rw [Nat.add_mul,Nat.one_mul] at this
   omega
  have hcap:n*sz≤cap*sz:=fA _ q9
  have hrun:=gH (w:=w) hy (o:=i*sz+j) q8 sP (by omega) (hcv.qB)
  refine ⟨_,_,hrun,?_,e⟩
  rw [bm]
  have hl2:pv.cells.toList.length=y.size:=by simpa using sP
  have hk:aZ (AV aw s.rs E) w (w.setRow b (cur.toList.take (i*sz+j)++pv.cells.toList++cur.toList.drop (i*sz+j+y.size)).toArray):=
    ⟨by simp,fun k hk hn=>setRow_other w _ k _ fun e=>by subst e; exact hn (.inr ⟨r,_,sz,hl,trivial,a7.own ⟨hd,hE⟩⟩)⟩
  refine h.turn hl trivial hE (by simp) (fun k hk=>setRow_other w _ k _ hk) ⟨rfl,rfl,rfl⟩ ⟨rfl,by rw [q6]; rfl,_,⟨?_,.inr ⟨b,cap,_,q6,q7,setRow_heap w b cur _ el (0,0) q8,q9,q10,?_,rfl⟩⟩,?_⟩
  ·simp [hl2]
   omega
  ·simp [hl2]
   omega
  ·have hys':=o6 hys
   subst hys'
   have hyv:=td hcv
   have hyl:ys.length=y.size:=by have:=hyv.length; rw [hl2] at this; exact this
   intro i' iq j' hj'
   obtain ⟨u,h1,h2⟩:=q4 i' iq j' hj'
   have hfit':i'*sz+j'<n*sz:=by
    have:=fA sz (show i'+1≤n by omega)
    rw [Nat.add_mul,Nat.one_mul] at this
    omega
   have hcur:cur.toList[i'*sz+j']?=some u:=by
    rw [← q12,cN,if_pos hfit'] at h1
    exact h1
   by_cases hin:i'=i∧j≤j'∧j'<j+ys.length
   ·obtain ⟨rfl,h3,h4⟩:=hin
    obtain ⟨u',h5,h6⟩:=nk hyv (q:=j'-j) (by omega)
    refine ⟨u',?_,?_⟩
    ·rw [cN,if_pos hfit',List.append_assoc,gG (by simp; omega),dQ (by simp [hl2]; omega)]
     simp only [List.length_take,Array.length_toList]
     rw [show i'*sz+j'-min (i'*sz+j) cur.size=j'-j by omega]
     exact h5
    ·have hu:zz get i' j ys i' j'=bu ys (j'-j):=by simp [zz,h3,h4]
     rw [hu]
     exact cA.mono hk (fun _ _ q=>q) h6
   ·refine ⟨u,?_,?_⟩
    ·have CN:i'*sz+j'<i*sz+j∨i*sz+j+y.size≤i'*sz+j':=by
      rcases Nat.lt_trichotomy i' i with h3|h3|h3
      ·left
       have:=fA sz (show i'+1≤i by omega)
       rw [Nat.add_mul,Nat.one_mul] at this
       omega
      ·subst h3
       rcases Nat.lt_or_ge j' j with h4|h4
       ·left; omega
       ·right
        have:¬ j'<j+ys.length:=fun q=>hin ⟨rfl,h4,q⟩
        omega
      ·right
       have:=fA sz (show i+1≤i' by omega)
       rw [Nat.add_mul,Nat.one_mul] at this
       omega
     rw [cN,if_pos hfit']
     rcases CN with h3|h3
     ·rw [List.append_assoc,dQ (by simp; omega),cN,if_pos h3]
      exact hcur
     ·rw [gG (by simp [hl2]; omega),List.getElem?_drop]
      simp only [List.length_append,List.length_take,Array.length_toList,hl2]
      rw [show i*sz+j+y.size+(i'*sz+j'-(min (i*sz+j) cur.size+y.size))=i'*sz+j' by omega]
      exact hcur
    ·simp only [zz,if_neg hin]
     exact cA.mono hk (fun _ _ q=>q) h2
 ·exact e.elim
end
open Go.RowKit
section
variable {P:Program} {T:dn} {N:Nat} {aw:Nat→Prop} {w0:Kp} {sp:List (D×Value)} {s:VS} {a:Act} {w:World} {E:Env}
theorem iE (l:List C):∀ n,(LJ l n).length=n*l.length
 | 0=>by simp [LJ]
 | n+1=>by simp only [LJ,List.length_append,iE l n,Nat.add_mul,Nat.one_mul]; omega
theorem sX (l:List C):∀ n i,i<n*l.length→(LJ l n)[i]?=l[i%l.length]?
 | 0,i,h=>by simp at h
 | n+1,i,h=>by
   simp only [LJ]
   rcases Nat.lt_or_ge i l.length with h1|h1
   ·rw [dQ h1,Nat.mod_eq_of_lt h1]
   ·rw [gG h1,sX l n (i-l.length) (by rw [Nat.add_mul,Nat.one_mul] at h; omega)]
    congr 1
    exact (Nat.mod_eq_sub_mod h1).symm
theorem xk (h:R T N aw w0 sp s a w E) {g:eE} (hg:bt a g) {sz:Nat} :
  ∀ {parts:List (Nat×Operand)} {l r:List C} {cs:Array Value},vn sz s g parts l=some r→az (aU E (AV aw s.rs E) w) l cs.toList→
  ∃ mc,Instr.fill (fun i=>some (i*sz,sz)) cs (parts.map fun x=>(x.1,a.eval x.2))=some mc∧az (aU E (AV aw s.rs E) w) r mc.toList∧r.length=l.length
 | [],l,r,cs,e,hl=>by
   simp only [vn,ak] at e
   subst e
   exact ⟨cs,rfl,hl,rfl⟩
 | (k,x)::parts,l,r,cs,e,hl=>by
   simp only [vn] at e
   split at e
   case h_2=>simp at e
   rename_i d hx
   split at e
   case h_2=>simp at e
   rename_i ks hks
   split at e
   case h_2=>simp at e
   rename_i eT
   simp only [cG] at eT
   obtain ⟨eT,fg⟩:=eT
   have eT:=bs eT
   have fg:=aF fg
   split at e
   case h_2=>simp at e
   rename_i l' sR
   have hv:=kJ (h.ev hg hx) hks
   have hlen:=hv.length
   have l8:=qq sR
   have hcl:=hl.length
   have hp:=yH (av:=AV aw s.rs E) sR hl hv
   obtain ⟨mc,h1,h2,h3⟩:=xk h hg (cs:=((a.eval x).cells.zipIdx.foldl (fun cs (y:Value×Nat)=>cs.setIfInBounds (k*sz+y.2) y.1) cs)) e (by
    have:=rA (k*sz) (a.eval x).cells.toList 0 cs
    rw [← Array.foldl_toList,Array.toList_zipIdx,this]
    exact hp)
   have hll:l'.length=l.length:=by
    rw [put_eq sR]
    rcases l8 with l8|l8
    ·simp; omega
    ·subst l8; simp at eT; omega
   refine ⟨mc,?_,h2,h3.trans hll⟩
   simp only [List.map_cons,Instr.fill]
   have h3:(a.eval x).cells.size=sz:=by rw [← eT,hlen]; simp
   have h4:¬ (k*sz+sz>cs.size):=by
    rw [eT] at l8
    have:cs.size=l.length:=by rw [hcl]; simp
    rcases l8 with l8|l8
    ·omega
    ·subst l8
     simp at eT
     omega
   rw [if_neg (by simp [h3]; omega)]
   exact h1
theorem uQ (bz:dk P T) (h:R T N aw w0 sp s a w E) {g:eE} (hg:bt a g) {t el n:Nat} {parts:Array (Nat×Operand)} {y0 y:Ty} (qE:cr P t y0) (hk:y0.kd=.slice el) (hy:cr P el y)
  {z l:List C} (hz:uJ y=some z) (hl:vn y.size s g parts.toList (LJ z n)=some l) (th:z.length=y.size) (fg:0<y.size) (D4:n*y.size≤1000000) :
  ∃ cs:Array Value,(Instr.buildSlice t n (parts.map fun (i,x)=>(i,a.eval x))).run P w=.ok (.slice (some ⟨w.heap.size,0,none⟩) n n) (w.alloc (.cells cs el))∧az (aU E (AV aw s.rs E) w) l cs.toList∧l.length=n*y.size:=by
 obtain ⟨inf,hi,hisz,_,hzero⟩:=hy.full
 have hzr:=jO (E:=E) (av:=AV aw s.rs E) (w:=w) hz
 have hzs:y.zero.cells.size=y.size:=by have:=hzr.length; rw [th] at this; simpa using this.symm
 have hrep:az (aU E (AV aw s.rs E) w) (LJ z n) ((Array.range (n*y.size)).map (y.zero.cells[·%y.zero.cells.size]!)).toList:=by
  refine az.vA (by rw [iE,th]; simp) fun i x v h1 h2=>?_
  have hi:i<n*y.size:=by
   have:=(List.getElem?_eq_some_iff.1 h1).1
   rw [iE,th] at this
   exact this
  rw [sX z n i (by rw [th]; exact hi),th] at h1
  have hm:i%y.size<y.size:=Nat.mod_lt _ fg
  have jf:y.zero.cells.toList[i%y.size]?=some v:=by
   simp only [Array.toList_map,Array.toList_range,List.getElem?_map,List.getElem?_range hi,Option.map_some,ak] at h2
   rw [← h2,hzs]
   rw [Array.getElem!_eq_getD,Array.getD_eq_getD_getElem?]
   have:i%y.size<y.zero.cells.size:=by omega
   simp [this]
  exact hzr.get h1 jf
 obtain ⟨mc,h1,h2,h3⟩:=xk h hg hl hrep
 rw [iE,th] at h3
 refine ⟨mc,?_,h2,h3⟩
 have hparts:(parts.map fun (i,x)=>(i,a.eval x)).toList=parts.toList.map fun x=>(x.1,a.eval x.2):=by simp
 rw [← hparts] at h1
 have hz0:(zeroValue el).run P w=.ok y.zero w:=by simp [zeroValue,typeInfo,hi,hzero]
 have hbig':¬ (n*y.size>2 ^ 24):=by omega
 simp only [Instr.buildSlice,Sem.run_bind,Result.andThen_ok,run_underlying (qE.slice hk),run_sizeOf hy.sz,hbig']
 have lX:Instr.fill (fun i=>some (i*y.size,y.size)) ((Array.range (n*y.size)).map (y.zero.cells[·%y.zero.cells.size]!)) (Array.map (fun (x:Nat×Operand)=>(x.fst,a.eval x.snd)) parts).toList=some mc:=h1
 have hnew:((do let d ← newRow el mc; pure (Value.slice (some d) n n)):Sem Value).run P w=.ok (.slice (some ⟨w.heap.size,0,none⟩) n n) (w.alloc (.cells mc el)):=by
  rfl
 by_cases h0:n*y.size=0
 ·have e0:(Array.range (n*y.size)).map ((#[]:Array Value)[·%(#[]:Array Value).size]!)=(Array.range (n*y.size)).map (y.zero.cells[·%y.zero.cells.size]!):=by rw [h0]; simp
  simp only [h0,if_true,if_false,Sem.run_bind,Sem.run_pure,Result.andThen_ok]
  rw [h0] at lX e0
  rw [e0,lX]
  exact hnew
 ·simp only [h0,if_false,Sem.run_bind,Sem.run_pure,Result.andThen_ok,hz0]
  rw [lX]
  exact hnew
def kill:Option Nat→List ae→List ae
 | some r,rs=>rs.set r .dead
 | none,rs=>rs
theorem R.row (h:R T N aw w0 sp s a w E) {el sz n:Nat} {get:Nat→Nat→I} {w':World} {hd:Value} {xs:List Value} {row:Option Nat} {dead:Option Nat}
  (hg:w.grownBy w' row) (eU:w'.ownsRow w0.base el sz hd n xs)
  (lN:∀ k,row=some k→w0.In k∧∃ r x q,dead=some r∧s.rs[r]?=some x∧x.live∧a7 E r k q)
  (ik:∀ k,hd.ownBlock=some k→some k=row∨w.heap.size≤k)
  (EM:∀ i,i<n→∀ j,j<sz→∃ x,xs[i*sz+j]?=some x∧cA (AV aw s.rs E) w (get i j) x) :
  R T N aw w0 sp { s with rs:=kill dead s.rs++[.arr el sz n get] } a w' (E++[(hd.ownBlock,lS hd,sz)]):=by
 have hle:=h.size_le
 let fx:=kill dead s.rs
 have hlen1:fx.length=s.rs.length:=by
  simp only [fx]; cases dead<;>simp [kill]
 have old:∀ (q:Nat) (y:ae),fx[q]?=some y→y.live→s.rs[q]?=some y∧dead≠some q:=by
  intro q y h1 h2
  simp only [fx] at h1
  cases dead with
  | some r=>
    simp only [kill] at h1
    rw [fb] at h1
    split at h1
    ·rename_i hq
     subst hq
     split at h1
     ·cases h1; exact h2.elim
     ·simp at h1
    ·rename_i hq
     exact ⟨h1,fun e=>hq (by simpa using e)⟩
  | none=>exact ⟨h1,by simp⟩
 have hk:aZ (AV aw s.rs E) w w':=⟨hg.size,fun k hk hn=>hg.block k hk fun e=>by
  obtain ⟨_,r,x,q,_,h2,h3,h4⟩:=lN k e.symm
  exact hn (.inr ⟨r,x,q,h2,h3,h4.own⟩)⟩
 have hE:=Env.eo E [(hd.ownBlock,lS hd,sz)]
 have hownlt:∀ k,hd.ownBlock=some k→w0.In k∧k<w'.heap.size:=by
  intro k hk
  have hIn:w0.In k:=by
   rcases ik k hk with h1|h1
   ·exact (lN k h1.symm).1
   ·exact h.below.fresh h1
  rcases eU.2 with ⟨h1,_⟩|⟨g,cap,cur,h1,h2,h3,_⟩
  ·rw [h1] at hk; simp [Value.ownBlock] at hk
  ·rw [h1] at hk
   simp only [Value.ownBlock,ak] at hk
   subst hk
   exact ⟨hIn,(Array.getElem?_eq_some_iff.1 h3).1⟩
 have key:∀ (q:Nat) (y:ae) (b z:Nat),(fx++[.arr el sz n get])[q]?=some y→y.live→di (E++[(hd.ownBlock,lS hd,sz)]) q b z→
   (s.rs[q]?=some y∧dead≠some q∧di E q b z)∨(q=E.length∧hd.ownBlock=some b):=by
  intro q y b z h1 h2 h3
  rcases kc h3 with h4|⟨h4,h5,_⟩
  ·have h4':=h4
   obtain ⟨hh,h4,_⟩:=h4
   have:=(List.getElem?_eq_some_iff.1 h4).1
   rw [h.len,← hlen1] at this
   rw [dQ this] at h1
   obtain ⟨h5,h6⟩:=old q y h1 h2
   exact .inl ⟨h5,h6,h4'⟩
  ·exact .inr ⟨h4,h5.resolve_right fun q=>q⟩
 have eY:∀ b,b<w.heap.size→AV aw (fx++[.arr el sz n get]) (E++[(hd.ownBlock,lS hd,sz)]) b→AV aw s.rs E b:=by
  refine kg fun q y b z h1 h2 h3 h4=>?_
  rcases key q y b z h1 h2 h3 with ⟨h5,_,h6⟩|⟨_,h6⟩
  ·exact .inr ⟨q,y,z,h5,h2,h6⟩
  ·rcases ik b h6 with h7|h7
   ·obtain ⟨_,r,x,q,_,h8,h9,Ar⟩:=lN b h7.symm
    exact .inr ⟨r,x,q,h8,h9,Ar.own⟩
   ·omega
 have apart:∀ (q:Nat) (y:ae) (b z:Nat),s.rs[q]?=some y→y.live→dead≠some q→di E q b z→hd.ownBlock≠some b∧row≠some b:=by
  intro q y b z h1 h2 h3 h4
  have hb:=h.cT q y b z h1 h2 h4
  have hr:row≠some b:=by
   intro e
   obtain ⟨_,r,x,q',h5,h6,h7,h8⟩:=lN b e
   have:=h.eP q r y x b z q' h1 h6 h2 h7 h4 h8.own
   subst this
   exact h3 h5
  refine ⟨fun e=>?_,hr⟩
  rcases ik b e with h5|h5
  ·exact hr h5.symm
  ·omega
 refine h.zz (aE:=fx++[.arr el sz n get]) hE hk (h.below.grown hg.os hg.tape hg.output hg.size fun k jN hn=>hg.block k jN fun e=>hn (lN k e.symm).1) eY (by simp [hlen1,h.len]) ?_ ?_ ?_
 ·intro q y e h1 h2
  rcases Nat.lt_trichotomy q E.length with hr|hr|hr
  ·rw [dQ (by rw [hlen1,← h.len]; exact hr)] at h1
   rw [dQ hr] at h2
   by_cases hl:y.live
   ·obtain ⟨h3,h4⟩:=old q y h1 hl
    refine aM.mono (av:=AV aw s.rs E) hE hk eY (fun hl b hb=>?_) (h.roots q y e h3 h2)
    have ir:di E q b e.2.2:=⟨e,h2,rfl,hb⟩
    exact hg.block b (h.cT q y b _ h3 hl ir).2 fun e=>(apart q y b _ h3 hl h4 ir).2 e.symm
   ·cases y with
    | dead=>trivial
    | _=>exact (hl trivial).elim
  ·subst hr
   rw [h.len,← hlen1,gG (bf _)] at h1
   rw [gG (bf _)] at h2
   simp at h1 h2
   subst h1 h2
   refine ⟨rfl,rfl,xs,eU,fun i hi j hj=>?_⟩
   obtain ⟨x,h3,h4⟩:=EM i hi j hj
   exact ⟨x,h3,cA.mono hk eY h4⟩
  ·rw [List.getElem?_eq_none (by simp; omega)] at h2
   simp at h2
 ·intro q y b z h1 h2 h3
  rcases key q y b z h1 h2 h3 with ⟨h5,_,h6⟩|⟨_,h6⟩
  ·have q7:=h.cT q y b z h5 h2 h6; have:=hg.size; exact ⟨q7.1,by omega⟩
  ·exact hownlt b h6
 ·intro q q' y y' b z z' h1 lX h2 jf h3 l9
  rcases key q y b z h1 h2 h3 with ⟨h5,h6,h7⟩|⟨h6,h7⟩<;>rcases key q' y' b z' lX jf l9 with ⟨h5',h6',h7'⟩|⟨h6',h7'⟩
  ·exact h.eP q q' y y' b z z' h5 h5' h2 jf h7 h7'
  ·exact ((apart q y b z h5 h2 h6 h7).1 h7').elim
  ·exact ((apart q' y' b z' h5' jf h6' h7').1 h7).elim
  ·omega
theorem Hf (h:R T N aw w0 sp s a w E) {src:D} {vs:Value} {sz k:Nat} {get':Nat→Nat→I} (hs:Q8 s.rs src=some (sz,k,get')) (hr:aJ E (AV aw s.rs E) w src vs) :
  ∃ ao cap,vs=.slice ao k cap∧(ao=none→k=0)∧∃ news:List Value,news.length=k*sz∧(∀ ad,ao=some ad→∀ j u,news[j]?=some u→w.cell? (ad.add j)=some u)∧(∀ u∈news,u.oneCell'=true)∧
   ∀ i,i<k→∀ j,j<sz→∃ x,news[i*sz+j]?=some x∧cA (AV aw s.rs E) w (get' i j) x:=by
 unfold Q8 at hs
 split at hs
 ·rename_i cj k' g'
  simp only [ak,a8] at hs
  obtain ⟨rfl,rfl,rfl⟩:=hs
  obtain ⟨ao,cap,rfl,hn,hm,hc⟩:=hr
  rcases Nat.eq_zero_or_pos k' with h0|h0
  ·subst h0
   exact ⟨ao,cap,rfl,fun _=>rfl,[],by simp,fun _ _ j u hj=>(by simp at hj),fun u hu=>(by cases hu),fun i hi=>by omega⟩
  ·obtain ⟨ad,rfl,Wj,h1,h2,hc⟩:=hc h0
   rcases Nat.eq_zero_or_pos cj with hz|hz
   ·subst hz
    exact ⟨_,cap,rfl,fun e=>(by simp at e),[],by simp,fun _ _ j u hj=>(by simp at hj),fun u hu=>(by cases hu),fun i hi j hj=>by omega⟩
   ·obtain ⟨f,hf⟩:=jV (n:=k'*cj) (Q:=fun q x=>w.cell? (ad.add q)=some x∧cA (AV aw s.rs E) w (g' (q/cj) (q%cj)) x) (fun q hq=>by
     obtain ⟨x,h3,h4⟩:=hc (q/cj) (Nat.div_lt_of_lt_mul (by rw [Nat.mul_comm]; exact hq)) (q%cj) (Nat.mod_lt _ hz)
     refine ⟨x,?_,h4⟩
     have e1:q/cj*cj+q%cj=q:=by rw [Nat.mul_comm]; exact Nat.div_add_mod q cj
     rw [e1] at h3
     exact h3)
    have hget:∀ j u,((List.range (k'*cj)).map f)[j]?=some u→j<k'*cj∧u=f j:=by
     intro j u hj
     have hjl:j<k'*cj:=by
      have:=(List.getElem?_eq_some_iff.1 hj).1
      simpa using this
     simp [hjl] at hj
     exact ⟨hjl,hj.symm⟩
    refine ⟨some ad,cap,rfl,fun e=>(by simp at e),(List.range (k'*cj)).map f,by simp,?_,?_,?_⟩
    ·intro ZH he j u hj
     simp only [ak] at he
     subst he
     obtain ⟨h3,rfl⟩:=hget j u hj
     exact (hf j h3).1
    ·intro u hu
     obtain ⟨q,hq,rfl⟩:=List.mem_map.1 hu
     exact cA.one (hf q (List.mem_range.1 hq)).2
    ·intro i hi j hj
     have dp:i*cj+j<k'*cj:=by
      have:=fA cj (show i+1≤k' by omega)
      rw [Nat.add_mul,Nat.one_mul] at this
      omega
     refine ⟨f (i*cj+j),by simp [dp],?_⟩
     have h3:=(hf _ dp).2
     have e1:(i*cj+j)/cj=i:=by rw [Nat.mul_comm,Nat.mul_add_div hz,Nat.div_eq_of_lt hj,Nat.add_zero]
     have e2:(i*cj+j)%cj=j:=by rw [Nat.mul_comm,Nat.mul_add_mod,Nat.mod_eq_of_lt hj]
     rwa [e1,e2] at h3
 ·rename_i q k'
  split at hs
  case h_2=>simp at hs
  rename_i el cj n g' hl
  rw [bc] at hl
  simp only [ak,a8] at hs
  obtain ⟨rfl,rfl,rfl⟩:=hs
  obtain ⟨e,ao,n',cap,h1,h2,h3,rfl⟩:=hr
  obtain ⟨q1,q2,xs,q3,q4⟩:=h.roots q _ _ hl h1
  have hxl:=q3.1
  rcases q3.2 with ⟨q5,q6⟩|⟨g,cap',cur,q5,q6,q7,q8,q9,q10,q11⟩
  ·rw [h2] at q5
   simp only [dz] at q5
   obtain ⟨rfl,rfl,rfl⟩:=q5
   have:k'=0:=by omega
   subst this
   exact ⟨none,0,rfl,fun _=>rfl,[],by simp,fun _ _ j u hj=>(by simp at hj),fun u hu=>(by cases hu),fun i hi=>by omega⟩
  ·rw [h2] at q5
   simp only [dz] at q5
   obtain ⟨rfl,rfl,rfl⟩:=q5
   have Ij:k'*cj≤n'*cj:=fA _ h3
   refine ⟨_,cap,rfl,fun e=>(by simp at e),xs.take (k'*cj),by rw [List.length_take,hxl]; exact Nat.min_eq_left Ij,?_,?_,?_⟩
   ·intro ad he j u hj
    simp only [ak] at he
    subst he
    have hj':j<k'*cj:=by
     have:=(List.getElem?_eq_some_iff.1 hj).1
     simp at this; omega
    rw [cN,if_pos hj',← q11,cN,if_pos (by omega)] at hj
    rw [Addr.add_mid,cy q7]
    simpa using hj
   ·intro u hu
    obtain ⟨j,hj⟩:=List.mem_iff_getElem?.1 hu
    have hj':j<k'*cj:=by
     have:=(List.getElem?_eq_some_iff.1 hj).1
     simp at this; omega
    have hz:0<cj:=by
     rcases Nat.eq_zero_or_pos cj with hz|hz
     ·subst hz; simp at hj'
     ·exact hz
    rw [cN,if_pos hj'] at hj
    obtain ⟨x,h5,h6⟩:=q4 (j/cj) (by have:=Nat.div_lt_of_lt_mul (show j<cj*k' by rw [Nat.mul_comm]; exact hj'); omega) (j%cj) (Nat.mod_lt _ hz)
    have e1:j/cj*cj+j%cj=j:=by rw [Nat.mul_comm]; exact Nat.div_add_mod j cj
    rw [e1,hj] at h5
    cases h5
    exact cA.one h6
   ·intro i hi j hj
    obtain ⟨x,h5,h6⟩:=q4 i (by omega) j hj
    have dp:i*cj+j<k'*cj:=by
     have:=fA cj (show i+1≤k' by omega)
     rw [Nat.add_mul,Nat.one_mul] at this
     omega
    exact ⟨x,by rw [cN,if_pos dp]; exact h5,h6⟩
 ·simp at hs
theorem fB {t el:TypeId} {y0 y:Ty} (qE:cr P t y0) (hk:y0.kd=.slice el) (hy:cr P el y) (fg:0<y.size) {base n m:Nat} {v:Value} {xs news:List Value} (eU:w.ownsRow base el y.size v n xs) (VF:base≤w.heap.size)
  {ao:Option Addr} {cap:Nat} (qa:ao=none→m=0) (hl:news.length=m*y.size) (hc:∀ ad,ao=some ad→∀ j u,news[j]?=some u→w.cell? (ad.add j)=some u) (h1:∀ u∈news,u.oneCell'=true) (hr:room (n+m) y.bytes) (ty:TypeId) :
  ∃ v' w',(Builtin.append_ #[t,t] ty #[v,.slice ao m cap]).run P w=.ok v' w'∧w'.ownsRow base el y.size v' (n+m) (xs++news)∧w.grownBy w' v.ownBlock∧(∀ k,v'.ownBlock=some k→some k=v.ownBlock∨w.heap.size≤k):=by
 obtain ⟨i,hi,hisz,hib,hiz⟩:=hy.full
 cases ao with
 | none=>
   have hm:=qa rfl
   subst hm
   have hn:news=[]:=List.eq_nil_of_length_eq_zero (by simpa using hl)
   subst hn
   refine ⟨v,w,?_,by simpa using eU,⟨rfl,rfl,rfl,bf _,fun _ _ _=>rfl⟩,fun k hk=>.inl hk.symm⟩
   rcases eU.2 with ⟨rfl,rfl⟩|⟨g,cap',cur,rfl,_,_,OW,_⟩
   ·simp [Builtin.append_,run_underlying (qE.slice hk),sizeOf,typeInfo,hi,Builtin.lenOf,Builtin.firstCells]
   ·simp [Builtin.append_,run_underlying (qE.slice hk),sizeOf,typeInfo,hi,Builtin.lenOf,Builtin.firstCells,OW,storeCells]
 | some ad=>
   obtain ⟨v',w',h2,h3,h4,_,h5⟩:=run_append_own_at (P:=P) (w:=w) base t ty el i y.zero y.size y.bytes (qE.slice hk) hi hiz hisz hib hy.zs fg v n xs eU ad m cap news hl (hc ad rfl) h1 hr.1 hr.2 VF
   refine ⟨v',w',h2,h3,h4,?_⟩
   intro k hk
   rcases h5 with h5|h5
   ·left; rw [← h5,hk]
   ·right; rw [h5] at hk; simp at hk; omega
end
open Go.RowKit
section
variable {P:Program} {T:dn} {N:Nat} {aw:Nat→Prop} {w0:Kp} {sp:List (D×Value)} {s:VS} {a:Act} {w:World} {E:Env}
structure ji (cF:Nat→Prop) (aw:Nat→Prop) (s:VS) (E:Env):Prop where
 le:∀ b,cF b→AV aw s.rs E b
 UH:∀ (r:Nat) (x:ae) (b sz:Nat),s.rs[r]?=some x→x.live→di E r b sz→¬ cF b
theorem ji.no {cF aw:Nat→Prop} {s:VS} {E:Env} (h:ji cF aw s E) (r:Nat) (x:ae) (b sz:Nat) (h1:s.rs[r]?=some x) (h2:x.live) (h3:a7 E r b sz):¬ cF b:=h.UH r x b sz h1 h2 h3.own
theorem Ew {cF:Nat→Prop} {base:Nat} {w:World} {el sz n m:Nat} {ao:Option Addr} {n' cap:Nat} {xs:List Value} {get:Nat→Nat→I} (h:w.ownsRow base el sz (.slice ao n' cap) n xs) (hm:m≤n') (qa:∀ b,(Value.slice ao n' cap).ownBlock=some b→¬ cF b)
  (hc:∀ i,i<m→∀ j,j<sz→∃ x,xs[i*sz+j]?=some x∧cA cF w (get i j) x):cA cF w (.sl sz m get) (.slice ao m cap):=by
 rcases h.2 with ⟨q5,q6⟩|⟨g,cap',cur,q5,q6,q7,q8,q9,q10,q11⟩
 ·simp only [dz] at q5
  obtain ⟨rfl,rfl,rfl⟩:=q5
  have:m=0:=by omega
  subst this
  exact ⟨none,0,rfl,by omega,by omega,fun h0=>by omega⟩
 ·simp only [dz] at q5
  obtain ⟨rfl,rfl,rfl⟩:=q5
  refine ⟨_,cap,rfl,by omega,by omega,fun _=>⟨_,rfl,rfl,qa g rfl,(Array.getElem?_eq_some_iff.1 q7).1,fun i hi j hj=>?_⟩⟩
  obtain ⟨x,h5,h6⟩:=hc i hi j hj
  refine ⟨x,?_,h6⟩
  have dp:i*sz+j<n'*sz:=by
   have:=fA sz (show i+1≤n' by omega)
   rw [Nat.add_mul,Nat.one_mul] at this
   omega
  rw [Addr.add_mid,cy q7]
  rw [← q11,cN,if_pos dp] at h5
  simpa using h5
theorem gx {base el sz n:Nat} {v:Value} {w:World} {xs:List Value} (h:w.ownsRow base el sz v n xs):∃ ao cap,v=.slice ao n cap:=by
 rcases h.2 with ⟨q5,q6⟩|⟨g,cap',cur,q5,_⟩
 ·exact ⟨none,0,by rw [q5,q6]⟩
 ·exact ⟨_,_,q5⟩
theorem Sl {av cF:Nat→Prop} {base:Nat} {w:World} (ha:∀ b,cF b→av b):∀ {x:O} {K:Nat→Prop} {v:Value},(∀ b,K b→¬ cF b)→je av base w x K v→cA cF w (oI x) v:=by
 intro x
 induction x with
 | im x=>intro K v _ h; exact cA.mono (aZ.refl _ w) (fun b _ q=>ha b q) h
 | ar el sz n get=>
   rintro K v hK ⟨h0,xs,h1,h2⟩
   obtain ⟨ao,cap,rfl⟩:=gx h1
   exact Ew h1 (bf _) (fun b q=>hK b (h0 b q)) fun i hi j hj=>by
    obtain ⟨x,q1,q2⟩:=h2 i hi j hj
    exact ⟨x,q1,cA.mono (aZ.refl _ w) (fun b _ q=>ha b q) q2⟩
 | ns el sz n get ih=>
   rintro K v hK ⟨h0,xs,h1,Ks,hp,h2⟩
   obtain ⟨ao,cap,rfl⟩:=gx h1
   exact Ew (get:=fun i j=>oI (get i j)) h1 (bf _) (fun b q=>hK b (h0 b q)) fun i hi j hj=>by
    obtain ⟨x,q1,q2⟩:=h2 i hi j hj
    exact ⟨x,q1,ih i j (fun b q=>hK b (hp.sub i j b q)) q2⟩
theorem IJ {E:Env} {av cF:Nat→Prop} {base:Nat} {w:World} {e:gr} {el sz n m:Nat} {get:Nat→Nat→O} (hr:aM E av base w e (.gy el sz n get none)) (ha:∀ b,cF b→av b) (qa:∀ b,e.has b→¬ cF b) {ao:Option Addr} {n' cap:Nat} (h2:e.2.1.1=.slice ao n' cap) (hm:m≤n') :
  cA cF w (.sl sz m fun i j=>oI (get i j)) (.slice ao m cap):=by
 obtain ⟨q1,q2,xs,q3,Ks,hp,_,q4⟩:=hr
 rw [h2] at q3 q2
 have hn:n'=n:=by
  obtain ⟨ao2,cap2,e2⟩:=gx q3
  simp only [dz] at e2
  exact e2.2.1
 subst hn
 refine Ew q3 hm (fun b q=>qa b (.inl (q2.trans q))) fun i hi j hj=>?_
 obtain ⟨x,c,h3,h4,h5⟩:=q4 i (by omega) j hj
 simp only [iL,ak] at h4
 subst h4
 exact ⟨x,h3,Sl ha (fun b q=>qa b (.inr (hp.sub i j b q))) h5⟩
theorem ji.none (aw:Nat→Prop) (s:VS) (E:Env):ji (fun _=>False) aw s E:=⟨fun _ h=>h.elim,fun _ _ _ _ _ _ _ h=>h⟩
theorem ji.outer (h:R T N aw w0 sp s a w E):ji aw aw s E:=⟨fun _ h=>.inl h,fun r x b sz h1 h2 h3 h4=>by
 have q:=(h.cT r x b sz h1 h2 h3).1
 have:=h.outer b h4
 exact this.2 (q.own this.1)⟩
theorem pX {α β γ:Type} {f:α→Option β} {Ra:α→γ→Prop} {Rb:β→γ→Prop} (h:∀ x y v,f x=some y→Ra x v→Rb y v):∀ {l:List α} {r:List β} {vs:List γ},pH f l=some r→az Ra l vs→az Rb r vs
 | [],r,vs,e,hv=>by cases hv; simp [pH] at e; subst e; exact .nil
 | x::l,r,vs,e,hv=>by
   cases hv with
   | cons q1 q2=>
     simp only [pH] at e
     split at e
     ·rename_i y r' h1 h2
      simp only [ak] at e
      subst e
      exact .cons (h _ _ _ h1 q1) (pX h h2 q2)
     ·simp at e
theorem gR (h:R T N aw w0 sp s a w E) {cF:Nat→Prop} (ha:ji cF aw s E) {rec:List C→Option (List I)} (kD:∀ l r vs,rec l=some r→az (aU E (AV aw s.rs E) w) l vs→az (cA cF w) r vs)
  {q:Nat} {x:I} (e:jd s.rs q rec=some x) {b sz:Nat} (hq:a7 E q b sz):cA cF w x (.pointer (some ⟨b,0,none⟩)):=by
 unfold jd at e
 split at e
 case h_2=>simp at e
 rename_i l hl
 rw [bc] at hl
 split at e
 case h_2=>simp at e
 rename_i is his
 simp only [ak] at e
 subst e
 obtain ⟨hh,hE⟩:=hq
 obtain ⟨b',cs,Tc,q1,q2,q3,q4⟩:=h.roots q _ _ hl hE
 simp only [ak] at q1
 subst q1
 have hi:=kD l is _ his q4
 refine ⟨⟨b,0,none⟩,rfl,rfl,ha.no q _ b sz hl trivial ⟨hh,hE⟩,(Array.getElem?_eq_some_iff.1 q3).1,fun j hj=>?_⟩
 obtain ⟨v,h1,h2⟩:=nk hi hj
 exact ⟨v,by rw [Addr.add_mid,cy q3]; simpa using h1,h2⟩
theorem vE (h:R T N aw w0 sp s a w E) {cF:Nat→Prop} (ha:ji cF aw s E) {rec:List C→Option (List I)} (kD:∀ l r vs,rec l=some r→az (aU E (AV aw s.rs E) w) l vs→az (cA cF w) r vs)
  (c:C) (x:I) (v:Value) (e:lP s.rs rec c=some x) (hv:aU E (AV aw s.rs E) w c v):cA cF w x v:=by
 have hk:∀ {x:I} {v:Value},cA (AV aw s.rs E) w x v→cA cF w x v:=fun q=>cA.mono (aZ.refl _ w) (fun b _ hb=>ha.le b hb) q
 unfold lP at e
 split at e
 ·simp only [ak] at e
  subst e
  exact hk hv
 ·obtain ⟨b,sz,h1,rfl⟩:=hv
  have:=gR h ha kD e h1
  simpa using this
 ·rename_i q m
  split at e
  ·rename_i el sz n get hl
   rw [bc] at hl
   simp only [ak] at e
   subst e
   obtain ⟨e',ao,n',cap,h1,h2,h3,rfl⟩:=hv
   obtain ⟨q1,q2,xs,q3,q4⟩:=h.roots q _ _ hl h1
   rcases q3.2 with ⟨q5,q6⟩|⟨g,cap',cur,q5,q6,q7,q8,q9,q10,q11⟩
   ·rw [h2] at q5
    simp only [dz] at q5
    obtain ⟨rfl,rfl,rfl⟩:=q5
    exact ⟨none,0,rfl,by omega,by omega,fun h0=>by omega⟩
   ·rw [h2] at q5
    simp only [dz] at q5
    obtain ⟨rfl,rfl,rfl⟩:=q5
    have ir:a7 E q g e'.2.2:=by
     obtain ⟨e1,e2,e3⟩:=e'
     have h2:e2.1=_:=h2
     have q2:e1=e2.1.ownBlock:=q2
     rw [h2] at q2
     exact ⟨e2,by rw [h1,q2]; rfl⟩
    refine ⟨_,cap,rfl,by omega,by omega,fun _=>⟨_,rfl,rfl,ha.no q _ g _ hl trivial ir,(Array.getElem?_eq_some_iff.1 q7).1,fun i hi j hj=>?_⟩⟩
    obtain ⟨x,h5,h6⟩:=q4 i (by omega) j hj
    refine ⟨x,?_,hk h6⟩
    have dp:i*sz+j<n'*sz:=by
     have:=fA sz (show i+1≤n' by omega)
     rw [Nat.add_mul,Nat.one_mul] at this
     omega
    rw [Addr.add_mid,cy q7]
    rw [← q11,cN,if_pos dp] at h5
    simpa using h5
  ·rename_i el sz n l hl
   rw [bc] at hl
   split at e
   case h_2=>simp at e
   rename_i l' sR
   obtain ⟨rfl,hlen⟩:=kL _ _ _ sR
   split at e
   case h_2=>simp at e
   rename_i is his
   simp only [ak] at e
   subst e
   obtain ⟨e',ao,n',cap,h1,h2,h3,rfl⟩:=hv
   obtain ⟨q1,q2,xs,q3,q4⟩:=h.roots q _ _ hl h1
   have hi:=kD _ _ _ his (q4.take (m*sz))
   have hil:=hi.length
   have hxs:is.length=m*sz:=by rw [hil,List.length_take,← q4.length]; omega
   rcases q3.2 with ⟨q5,q6⟩|⟨g,cap',cur,q5,q6,q7,q8,q9,q10,q11⟩
   ·rw [h2] at q5
    simp only [dz] at q5
    obtain ⟨rfl,rfl,rfl⟩:=q5
    exact ⟨none,0,rfl,by omega,by omega,fun h0=>by omega⟩
   ·rw [h2] at q5
    simp only [dz] at q5
    obtain ⟨rfl,rfl,rfl⟩:=q5
    have ir:a7 E q g e'.2.2:=by
     obtain ⟨e1,e2,e3⟩:=e'
     have h2:e2.1=_:=h2
     have q2:e1=e2.1.ownBlock:=q2
     rw [h2] at q2
     exact ⟨e2,by rw [h1,q2]; rfl⟩
    refine ⟨_,cap,rfl,by omega,by omega,fun _=>⟨_,rfl,rfl,ha.no q _ g _ hl trivial ir,(Array.getElem?_eq_some_iff.1 q7).1,fun i iq j hj=>?_⟩⟩
    have dp:i*sz+j<m*sz:=by
     have:=fA sz (show i+1≤m by omega)
     rw [Nat.add_mul,Nat.one_mul] at this
     omega
    obtain ⟨x,h5,h6⟩:=nk hi (q:=i*sz+j) (by omega)
    refine ⟨x,?_,h6⟩
    rw [Addr.add_mid,cy q7]
    rw [← q11,List.take_take,cN] at h5
    split at h5
    ·simpa using h5
    ·simp at h5
  ·rename_i el sz n get hl
   rw [bc] at hl
   simp only [ak] at e
   subst e
   obtain ⟨e',ao,n',cap,h1,h2,h3,rfl⟩:=hv
   exact IJ (h.roots q _ _ hl h1) ha.le (fun b hb=>ha.UH q _ b e'.2.2 hl trivial ⟨e',h1,rfl,hb⟩) h2 h3
  ·simp at e
 ·rename_i q
  split at e
  case h_2=>simp at e
  rename_i l hl
  rw [bc] at hl
  simp only [ak] at e
  subst e
  obtain ⟨b,sz,⟨hh,h1⟩,rfl⟩:=hv
  obtain ⟨b',es,clock,q1,q2,q3⟩:=h.roots q _ _ hl h1
  have q1:some b=some b':=q1
  simp only [ak] at q1
  subst q1
  exact ⟨b,es,clock,rfl,ha.no q _ b sz hl trivial ⟨hh,h1⟩,q2,q3⟩
 ·simp only [ak] at e
  subst e
  obtain ⟨vs,rfl,h1⟩:=hv
  refine ⟨vs,rfl,?_,fun j hj=>by omega⟩
  have:=h1.length
  simpa using this.symm
 ·rename_i f q
  split at e
  case h_2=>simp at e
  rename_i x hx
  simp only [ak] at e
  subst e
  obtain ⟨vs,rfl,h1⟩:=hv
  have hlen:=h1.length
  obtain ⟨u,hu,b,sz,h2,rfl⟩:=h1.nth (i:=0) (x:=q) rfl
  refine ⟨vs,rfl,by simpa using hlen.symm,fun j hj=>?_⟩
  have:j=0:=by omega
  subst this
  exact ⟨_,by simpa using hu,gR h ha kD hx h2⟩
 ·rename_i f q q'
  split at e
  case h_2=>simp at e
  rename_i x y hx hy
  simp only [ak] at e
  subst e
  obtain ⟨vs,rfl,h1⟩:=hv
  have hlen:=h1.length
  obtain ⟨u,hu,b,sz,h2,rfl⟩:=h1.nth (i:=0) (x:=q) rfl
  obtain ⟨u',hu',b',cj,jf,rfl⟩:=h1.nth (i:=1) (x:=q') rfl
  refine ⟨vs,rfl,by simpa using hlen.symm,fun j hj=>?_⟩
  rcases (show j=0∨j=1 by omega) with rfl|rfl
  ·exact ⟨_,by simpa using hu,gR h ha kD hx h2⟩
  ·exact ⟨_,by simpa using hu',gR h ha kD hy jf⟩
 ·rename_i f q q' q''
  split at e
  case h_2=>simp at e
  rename_i x y z hx hy hz
  simp only [ak] at e
  subst e
  obtain ⟨vs,rfl,h1⟩:=hv
  have hlen:=h1.length
  obtain ⟨u,hu,b,sz,h2,rfl⟩:=h1.nth (i:=0) (x:=q) rfl
  obtain ⟨u',hu',b',cj,jf,rfl⟩:=h1.nth (i:=1) (x:=q') rfl
  obtain ⟨u'',hu'',b'',sz'',h2'',rfl⟩:=h1.nth (i:=2) (x:=q'') rfl
  refine ⟨vs,rfl,by simpa using hlen.symm,fun j hj=>?_⟩
  rcases (show j=0∨j=1∨j=2 by omega) with rfl|rfl|rfl
  ·exact ⟨_,by simpa using hu,gR h ha kD hx h2⟩
  ·exact ⟨_,by simpa using hu',gR h ha kD hy jf⟩
  ·exact ⟨_,by simpa using hu'',gR h ha kD hz h2''⟩
 ·simp at e
theorem ll (h:R T N aw w0 sp s a w E) {cF:Nat→Prop} (ha:ji cF aw s E):∀ (k:Nat) (l:List C) (r:List I) (vs:List Value),reify k s.rs l=some r→az (aU E (AV aw s.rs E) w) l vs→az (cA cF w) r vs
 | 0,l,r,vs,e,hv=>pX (fun c x v=>vE h ha (fun _ _ _ q=>by simp at q) c x v) e hv
 | k+1,l,r,vs,e,hv=>pX (fun c x v=>vE h ha (fun l r vs=>ll h ha k l r vs) c x v) e hv
theorem uN (h:R T N aw w0 sp s a w E) {cF:Nat→Prop} (ha:ji cF aw s E) {E':Env}:∀ {l r:List (Bool×List C)} {vs:List Value},aQ.reifyT s.rs l=some r→
  az (fun (x:Bool×List C) y=>match x with
   | (true,l)=>∃ cs:Array Value,y=.agg cs∧az (aU E (AV aw s.rs E) w) l cs.toList
   | (false,l)=>∃ c,l=[c]∧aU E (AV aw s.rs E) w c y) l vs→
  az (fun (x:Bool×List C) y=>match x with
   | (true,l)=>∃ cs:Array Value,y=.agg cs∧az (aU E' cF w) l cs.toList
   | (false,l)=>∃ c,l=[c]∧aU E' cF w c y) r vs
 | [],r,vs,e,hv=>by cases hv; simp [aQ.reifyT] at e; subst e; exact .nil
 | (b,l)::m,r,vs,e,hv=>by
   cases hv with
   | cons q1 q2=>
     simp only [aQ.reifyT] at e
     split at e
     ·rename_i x y h1 h2
      simp only [ak] at e
      subst e
      refine .cons ?_ (uN h ha h2 q2)
      cases b with
      | true=>
        obtain ⟨cs,rfl,q3⟩:=q1
        exact ⟨cs,rfl,yQ (ll h ha 6 l x _ h1 q3)⟩
      | false=>
        obtain ⟨c,rfl,q3⟩:=q1
        have:=ll h ha 6 [c] x _ h1 (.cons q3 .nil)
        cases this with
        | cons q4 q5=>cases q5; exact ⟨_,rfl,q4⟩
     ·simp at e
theorem oF (h:R T N aw w0 sp s a w E) {cF:Nat→Prop} (ha:ji cF aw s E) {E':Env} {d d':D} {v:Value} (e:aQ s.rs d=some d') (hv:aJ E (AV aw s.rs E) w d v):aJ E' cF w d' v:=by
 cases d with
 | c x=>
   simp only [aQ] at e
   split at e
   ·rename_i y hy
    simp only [ak] at e
    subst e
    have:=ll h ha 6 [x] [y] _ hy (.cons hv .nil)
    cases this with
    | cons q1 q2=>exact q1
   ·simp at e
 | a l=>
   simp only [aQ] at e
   split at e
   ·rename_i r hr
    simp only [ak] at e
    subst e
    obtain ⟨cs,rfl,h1⟩:=hv
    exact ⟨cs,rfl,yQ (ll h ha 6 l r _ hr h1)⟩
   ·simp at e
 | t l=>
   simp only [aQ] at e
   split at e
   ·rename_i r hr
    simp only [ak] at e
    subst e
    obtain ⟨vs,rfl,h1⟩:=hv
    exact ⟨vs,rfl,uN h ha hr h1⟩
   ·simp at e
theorem nl (h:R T N aw w0 sp s a w E) {cF:Nat→Prop} (ha:ji cF aw s E) {E':Env}:∀ {ds is:List D} {vs:List Value},cP s.rs ds=some is→az (aJ E (AV aw s.rs E) w) ds vs→az (aJ E' cF w) is vs
 | [],is,vs,e,hv=>by cases hv; simp [cP] at e; subst e; exact .nil
 | d::ds,is,vs,e,hv=>by
   cases hv with
   | cons q1 q2=>
     simp only [cP] at e
     split at e
     ·rename_i x r h1 h2
      simp only [ak] at e
      subst e
      exact .cons (oF h ha h1 q1) (nl h ha h2 q2)
     ·simp at e
theorem k9 {E E':Env} {av:Nat→Prop} {w:World}:∀ {l:List C} {vs:List Value},fh l=true→az (aU E av w) l vs→az (aU E' av w) l vs
 | [],vs,_,hv=>by cases hv; exact .nil
 | c::l,vs,hp,hv=>by
   cases hv with
   | cons q1 q2=>
     cases c with
     | im x=>exact .cons q1 (k9 (by simpa [fh] using hp) q2)
     | _=>simp [fh] at hp
theorem xc {E E':Env} {av:Nat→Prop} {w:World} {d:D} {v:Value} (hp:jl d=true) (hv:aJ E av w d v):aJ E' av w d v:=by
 cases d with
 | c x=>
   have:=k9 (E':=E') (l:=[x]) hp (.cons (hv:aU E av w x v) .nil)
   cases this with|cons q _=>exact q
 | a l=>obtain ⟨cs,rfl,h⟩:=hv; exact ⟨cs,rfl,k9 hp h⟩
 | t l=>
   obtain ⟨vs,rfl,h⟩:=hv
   refine ⟨vs,rfl,?_⟩
   simp only [jl,List.all_eq_true] at hp
   have:∀ {l:List (Bool×List C)} {ws:List Value},(∀ x∈l,fh x.2=true)→az (fun (x:Bool×List C) y=>match x with
    | (true,l)=>∃ cs:Array Value,y=.agg cs∧az (aU E av w) l cs.toList
    | (false,l)=>∃ c,l=[c]∧aU E av w c y) l ws→az (fun (x:Bool×List C) y=>match x with
    | (true,l)=>∃ cs:Array Value,y=.agg cs∧az (aU E' av w) l cs.toList
    | (false,l)=>∃ c,l=[c]∧aU E' av w c y) l ws:=by
    intro l ws hl hw
    induction hw with
    | nil=>exact .nil
    | cons q _ ih=>
      refine .cons ?_ (ih fun x hx=>hl x (er _ hx))
      rename_i x y l' m' _
      have hx:=hl x (dZ ..)
      obtain ⟨b,k⟩:=x
      cases b with
      | true=>obtain ⟨cs,rfl,q⟩:=q; exact ⟨cs,rfl,k9 hx q⟩
      | false=>
        obtain ⟨c,hc,q⟩:=q
        have hc:k=[c]:=hc
        subst hc
        have:=k9 (E':=E') (l:=[c]) hx (.cons q .nil)
        cases this with|cons q _=>exact ⟨c,rfl,q⟩
   exact this hp h
theorem iH {E E':Env} {av cF:Nat→Prop} {w w':World}:∀ {l:List C} {vs:List Value},eJ l=true→az (aU E av w) l vs→az (aU E' cF w') l vs
 | [],vs,_,hv=>by cases hv; exact .nil
 | c::l,vs,hp,hv=>by
   cases hv with
   | cons q1 q2=>
     cases c with
     | im x=>
       cases x with
       | v x=>exact .cons q1 (iH (by simpa [eJ] using hp) q2)
       | _=>simp [eJ] at hp
     | _=>simp [eJ] at hp
theorem Dp {E E':Env} {av cF:Nat→Prop} {w w':World} {d:D} {v:Value} (hp:gK d=true) (hv:aJ E av w d v):aJ E' cF w' d v:=by
 cases d with
 | c x=>
   have:=iH (E':=E') (cF:=cF) (w':=w') (l:=[x]) hp (.cons (hv:aU E av w x v) .nil)
   cases this with|cons q _=>exact q
 | a l=>obtain ⟨cs,rfl,h⟩:=hv; exact ⟨cs,rfl,iH hp h⟩
 | t l=>
   obtain ⟨vs,rfl,h⟩:=hv
   refine ⟨vs,rfl,?_⟩
   simp only [gK,List.all_eq_true] at hp
   have:∀ {l:List (Bool×List C)} {ws:List Value},(∀ x∈l,eJ x.2=true)→az (fun (x:Bool×List C) y=>match x with
    | (true,l)=>∃ cs:Array Value,y=.agg cs∧az (aU E av w) l cs.toList
    | (false,l)=>∃ c,l=[c]∧aU E av w c y) l ws→az (fun (x:Bool×List C) y=>match x with
    | (true,l)=>∃ cs:Array Value,y=.agg cs∧az (aU E' cF w') l cs.toList
    | (false,l)=>∃ c,l=[c]∧aU E' cF w' c y) l ws:=by
    intro l ws hl hw
    induction hw with
    | nil=>exact .nil
    | cons q _ ih=>
      refine .cons ?_ (ih fun x hx=>hl x (er _ hx))
      rename_i x y l' m' _
      have hx:=hl x (dZ ..)
      obtain ⟨b,k⟩:=x
      cases b with
      | true=>obtain ⟨cs,rfl,q⟩:=q; exact ⟨cs,rfl,iH hx q⟩
      | false=>
        obtain ⟨c,hc,q⟩:=q
        have hc:k=[c]:=hc
        subst hc
        have:=iH (E':=E') (cF:=cF) (w':=w') (l:=[c]) hx (.cons q .nil)
        cases this with|cons q _=>exact ⟨c,rfl,q⟩
   exact this hp h
theorem vq {rs:List ae} {rec:List C→Option (List I)}:∀ {l:List C} {is:List I},fh l=true→pH (lP rs rec) l=some is→l=lift is
 | [],is,_,e=>by simp [pH] at e; subst e; rfl
 | c::l,is,hp,e=>by
   cases c with
   | im x=>
     simp only [pH,lP] at e
     split at e
     ·rename_i y r h1 h2
      simp only [ak] at h1 e
      subst h1 e
      rw [vq (by simpa [fh] using hp) h2]
      rfl
     ·simp at e
   | _=>simp [fh] at hp
theorem mq {rs:List ae} {l:List C} {is:List I} (hp:fh l=true) (e:reify 6 rs l=some is):l=lift is:=vq hp e
theorem sm {rs:List ae}:∀ {l r:List (Bool×List C)},(∀ x∈l,fh x.2=true)→aQ.reifyT rs l=some r→r=l
 | [],r,_,e=>by simp [aQ.reifyT] at e; exact e
 | (b,l)::m,r,hp,e=>by
   simp only [aQ.reifyT] at e
   split at e
   ·rename_i x y h1 h2
    simp only [ak] at e
    subst e
    rw [sm (fun x hx=>hp x (er _ hx)) h2,← mq (hp (b,l) (dZ ..)) h1]
   ·simp at e
theorem B0 {rs:List ae} {d d':D} (hp:jl d=true) (e:aQ rs d=some d'):d'=d:=by
 cases d with
 | c x=>
   simp only [aQ] at e
   split at e
   ·rename_i y hy
    simp only [ak] at e
    subst e
    have:=mq hp hy
    simp only [lift,List.cons.injEq,and_true] at this
    rw [this]
   ·simp at e
 | a l=>
   simp only [aQ] at e
   split at e
   ·rename_i r hr
    simp only [ak] at e
    subst e
    rw [← mq hp hr]
   ·simp at e
 | t l=>
   simp only [aQ] at e
   split at e
   ·rename_i r hr
    simp only [ak] at e
    subst e
    rw [sm (fun x hx=>by simp only [jl,List.all_eq_true] at hp; exact hp x hx) hr]
   ·simp at e
theorem hZ {rs:List ae} {E E':Env} {av:Nat→Prop} {w:World}:∀ {ds is:List D} {vs:List Value},eQ ds=true→cP rs ds=some is→az (aJ E av w) ds vs→az (aJ E' av w) is vs
 | [],is,vs,_,e,hv=>by cases hv; simp [cP] at e; subst e; exact .nil
 | d::ds,is,vs,hp,e,hv=>by
   simp only [eQ] at hp
   split at hp
   ·rename_i h0
    cases hv with
    | cons q1 q2=>
      simp only [cP] at e
      split at e
      ·rename_i x r h1 h2
       simp only [ak] at e
       subst e
       rw [B0 h0 h1]
       exact .cons (xc h0 q1) (hZ hp h2 q2)
      ·simp at e
   ·simp at hp
end
open Go.RowKit
def Enters (P:Program) (f:FuncId):Prop:=∃ fn,P.funcs[f]?=some fn∧(fn.name == "runtime.NumGoroutine")=false∧fn.body.isNone=false
def Cp (T:dn) (P:Program) (f:FuncId) (ds:List D) (d:D):Prop:=∀ (av:Nat→Prop) (w:World) (vs:List Value),(∀ b,av b→b<w.heap.size)→mf T av w→az (aJ [] av w) ds vs→
 Go.Calls P f vs.toArray w fun e w'=>∃ v,e=.returned v∧aJ [] av w' d v∧Below w.heap.size w w'
def vb (P:Program) (l:Nat) (f:FuncId) (tm:Array Value) (as bd:Code) (w:World) (Rr:Value→World→Prop):Prop:=
 ∀ (c:Frame) (cs:List Frame),∃ v w',Rr v w'∧Steps P (lone (Frame.round l f tm as bd .normal) (c::cs) w) (lone (c.finish v) cs w')
inductive TB (P:Program) (Y:Bool) (o:Oper) (a:Act) (w:World) (next:Act→World→Prop):Prop
 | value (v:Value) (w':World) (hd:∀ c,o.op ≠ .defer c) (hr:(execOp a.eval o).run P w=.ok (.value v) w') (hn:next (a.put o.dst v) w')
 | skip (w':World) (hd:∀ c,o.op ≠ .defer c) (hr:(execOp a.eval o).run P w=.ok .skip w') (hn:next (a.put o.dst undef) w')
 | enter (f:FuncId) (args:Array Value) (w':World) (hd:∀ c,o.op ≠ .defer c) (hr:(execOp a.eval o).run P w=.ok (.enter f args) w')
   (hc:Go.Calls P f args w' fun e w''=>∃ v,e=.returned v∧next (a.put o.dst v) w'')
 | round (hY:Y=true) (l:Nat) (f:FuncId) (tm:Array Value) (as bd:Code) (w':World) (hd:∀ c,o.op ≠ .defer c) (hr:(execOp a.eval o).run P w=.ok (.round l f tm as bd) w')
   (hc:vb P l f tm as bd w' fun v w''=>next (a.put o.dst v) w'')
structure Qw (T:dn) (P:Program) (Rz:WV):Prop where
 Tw:∀ f ds p d,Rz.Tw f ds=some (p,d)→Enters P f∧(need p→Cp T P f ds d)
 Yx:∀ f ds rs p d aE,Rz.Yx f ds rs=some (p,d,aE)→Enters P f∧(need p→∀ (N:Nat) (aw:Nat→Prop) (w0:Kp) (sp:List (D×Value)) (sl:aG) (df:List Nat) (a:Act) (w:World) (E:Env) (vs:List Value),R T N aw w0 sp ⟨sl,rs,df⟩ a w E→az (aJ E (AV aw rs E) w) ds vs→
  Go.Calls P f vs.toArray w fun e w'=>∃ v E',e=.returned v∧R T N aw w0 sp ⟨sl,aE,df⟩ a w' E'∧aJ E' (AV aw aE E') w' d v)
 Jc:∀ r ds rs p d aE,Rz.Jc r ds rs=some (p,d,aE)→need p→∀ (N:Nat) (aw:Nat→Prop) (w0:Kp) (sp:List (D×Value)) (sl:aG) (df:List Nat) (a:Act) (w:World) (E:Env) (vs:List Value),R T N aw w0 sp ⟨sl,rs,df⟩ a w E→az (aJ E (AV aw rs E) w) ds vs→
  ∃ b sz f tm as bd,a7 E r b sz∧(Instr.yield b vs.toArray).run P w=.ok (.round b f tm as bd) w∧
   vb P b f tm as bd w fun v w'=>∃ E',R T N aw w0 sp ⟨sl,aE,df⟩ a w' E'∧aJ E' (AV aw aE E') w' d v
section
variable {P:Program} {T:dn} {Rz:WV} {N:Nat} {aw:Nat→Prop} {w0:Kp} {sp:List (D×Value)} {s:VS} {a:Act} {w:World} {E:Env}
theorem xu {f:FuncId} (h:Enters P f) (args:Array Value) (w:World):(callFunc f args).run P w=.ok (.enter f args) w:=by
 obtain ⟨fn,h1,h2,h3⟩:=h
 have jf:¬ fn.name = "runtime.NumGoroutine" := by simpa using h2
 have l9:¬ fn.body=none:=by intro q; simp [q] at h3
 simp [callFunc,program,Sem.run,h1,jf,l9]
theorem KF (hc:Qw T P Rz) (h:R T N aw w0 sp s a w E) {f:FuncId} {ds is:List D} {p:Option Prop} {d:D} (hi:cP s.rs ds=some is) (hp:Rz.Tw f is=some (p,d)) (vh:need p)
  (hs:(eQ ds||gK d)=true) (hd:jl d=true) {vs:List Value} (hv:az (aJ E (AV aw s.rs E) w) ds vs) :
  Go.Calls P f vs.toArray w fun e w'=>∃ v,e=.returned v∧Below w.heap.size w w'∧aJ E (AV aw s.rs E) w' d v:=by
 have avlt:∀ b,AV aw s.rs E b→b<w.heap.size:=by
  rintro b (q|⟨r,x,sz,h1,h2,h3⟩)
  ·exact h.iQ q
  ·exact (h.cT r x b sz h1 h2 h3).2
 by_cases hpd:gK d=true
 ·refine ((hc.Tw f is p d hp).2 vh (fun _=>False) w vs (fun _ q=>q.elim) (h.fL.mono (aZ.refl _ w) (fun _ _ q=>q.elim)) (nl h (ji.none aw s E) hi hv)).mono ?_
  rintro e w' ⟨v,rfl,h1,h2⟩
  exact ⟨v,rfl,h2,Dp hpd h1⟩
 ·have hpu:eQ ds=true:=by simpa [hpd] using hs
  refine ((hc.Tw f is p d hp).2 vh (AV aw s.rs E) w vs avlt h.fL (hZ hpu hi hv)).mono ?_
  rintro e w' ⟨v,rfl,h1,h2⟩
  exact ⟨v,rfl,h2,xc hd h1⟩
theorem R.grown (h:R T N aw w0 sp s a w E) {w':World} (hb:Below w.heap.size w w'):R T N aw w0 sp s a w' E:=by
 have hk:aZ (AV aw s.rs E) w w':=aZ.kW hb
 have:=h.zz (aE:=s.rs) (E':=E) (w':=w') (Env.le_refl E) hk (h.below.grown hb.os hb.tape hb.output hb.size fun k jN _=>hb.block k jN) (fun _ _ q=>q) h.len
  (fun r x e h1 h2=>aM.mono (Env.le_refl E) hk (fun _ _ q=>q) (fun hl b HO=>hb.block b (h.cT r x b e.2.2 h1 hl ⟨e,h2,rfl,HO⟩).2) (h.roots r x e h1 h2))
  (fun r x b sz h1 h2 h3=>by have q:=h.cT r x b sz h1 h2 h3; have:=hb.size; exact ⟨q.1,by omega⟩) h.eP
 exact this
theorem A8 (h:R T N aw w0 sp s a w E) {fd:D} {f:FuncId} {dR:List D} (e:FZ fd=some (f,dR)) {fv:Value} (hf:aJ E (AV aw s.rs E) w fd fv) :
  ∃ cs:Array Value,fv=.func (.func f) #[] cs∧az (aJ E (AV aw s.rs E) w) dR cs.toList:=by
 unfold FZ at e
 split at e
 ·rename_i f' caps'
  simp only [ak,a8] at e
  obtain ⟨rfl,rfl⟩:=e
  obtain ⟨vs,rfl,h1⟩:=hf
  refine ⟨vs,rfl,?_⟩
  revert h1
  generalize vs.toList=ws
  intro h1
  induction h1 with
  | nil=>exact .nil
  | cons q _ ih=>
    obtain ⟨b,sz,h2,h3⟩:=q
    exact .cons ⟨b,sz,h2,by simpa using h3⟩ ih
 ·rename_i f' n cap
  simp only [ak,a8] at e
  obtain ⟨rfl,rfl⟩:=e
  obtain ⟨vs,rfl,h1,h2⟩:=hf
  refine ⟨vs,rfl,?_⟩
  obtain ⟨g,hg⟩:=jV h2
  have:=iM (E:=E) (av:=AV aw s.rs E) (w:=w) (get:=cap) (f:=g) (n:=n) (o:=0) (fun j _ hj=>(hg j (by omega)).2)
  have sP:vs.toList=(List.range n).map fun j=>g (0+j):=by
   apply List.ext_getElem?
   intro j
   rcases Nat.lt_or_ge j n with hj|hj
   ·have:=(hg j hj).1
    simp [hj]
    simpa using this
   ·rw [List.getElem?_eq_none (by simp [h1]; exact hj),List.getElem?_eq_none (by simp; exact hj)]
  rw [sP]
  have conv:∀ {l:List C} {ws:List Value},az (aU E (AV aw s.rs E) w) l ws→az (aJ E (AV aw s.rs E) w) (l.map .c) ws:=by
   intro l ws hl
   induction hl with
   | nil=>exact .nil
   | cons q _ ih=>exact .cons q ih
  exact conv this
 ·simp at e
theorem Dj {o:Oper} {c:Call} {f:Operand} (ho:o.op=.call c) (hc:c.callee=.value f) {SD:FuncId} {cs:Array Value} (hf:a.eval f=.func (.func SD) #[] cs) (he:Enters P SD) :
  (execOp a.eval o).run P w=.ok (.enter SD (c.args.map a.eval++cs)) w:=by
 simp only [execOp,ho,resolve,hc,hf,Deferred.ofValue,Sem.run_bind,Sem.run_pure,Result.andThen_ok,invoke]
 rw [xu he]
 simp
theorem GW (h:R T N aw w0 sp s a w E) {r b sz:Nat} {hd:Hd} {l:List Int} (hl:s.rs[r]?=some (.set l)) (hE:E[r]?=some (some b,hd,sz)) {t kt el:TypeId} (lu:P.underlying t=some (.map kt el)) (wB:P.underlying kt=some (.int .i64)) {n:Int} :
  ∃ w',(Instr.mapUpdate t (.map (some b)) (.int .i64 n) (.bool true)).run P w=.ok () w'∧R T N aw w0 sp { s with rs:=s.rs.set r (.set (qA n l)) } a w' E:=by
 obtain ⟨b',es,clock,h1,h2,h3⟩:=h.roots r _ _ hl hE
 have h1:some b=some b':=h1
 simp only [ak] at h1
 subst h1
 have dp:b<w.heap.size:=(Array.getElem?_eq_some_iff.1 h2).1
 have hu:(Go.underlying t).run P w=.ok (.map kt el) w:=by simp [Go.underlying,Go.program,Sem.run,lu]
 have huk:(Go.underlying kt).run P w=.ok (.int .i64) w:=by simp [Go.underlying,Go.program,Sem.run,wB]
 have hg':(getObj b).run P w=.ok (.map es clock) w:=by simp [getObj,Sem.run,h2]
 rcases ki n h3 0 with ⟨q1,k',e',q2,q3,q4⟩|⟨q1,q2⟩
 ·refine ⟨w.putObj b (.map (es.modify k' fun e=>{ e with key:=.int .i64 n,val:=.bool true }) clock),?_,?_⟩
  ·unfold Instr.mapUpdate
   simp only [Sem.run_bind,hu,hg',Result.andThen_ok,fw wB,Instr.findKey,huk,q2,Nat.zero_add,Sem.run_pure]
   have jN:((es[k']?).map (·.key)).getD (.int .i64 n)=.int .i64 n:=by
    have:es[k']?=some e':=by simpa using q3
    simp [this,q4]
   simp only [jN,Instr.keyThatStays]
   simp [Instr.sameBits,MapKept.run_setObj_map _ h2]
   rfl
  ·refine h.turn hl trivial hE (by simp) (fun k hk=>World.putObj_heap_other hk) ⟨rfl,rfl,rfl⟩ ⟨b,_,clock,rfl,World.putObj_heap_same dp,?_⟩
   rw [qA,q1]
   simp only [Array.toList_modify]
   clear q2 h2 hg' dp
   generalize es.toList=l2 at h3 q3
   clear q1 hl h hu huk
   induction h3 generalizing k' with
   | nil=>simp at q3
   | cons p1 p2 ih=>
     cases k' with
     | zero=>simp at q3; subst q3; refine .cons ⟨?_,rfl⟩ p2; rw [← q4]; exact p1.1
     | succ k'=>exact .cons p1 (ih k' (by simpa using q3))
 ·refine ⟨w.putObj b (.map (es.push { key:=.int .i64 n,val:=.bool true,born:=clock }) (clock+1)),?_,?_⟩
  ·unfold Instr.mapUpdate
   simp only [Sem.run_bind,hu,hg',Result.andThen_ok,fw wB,Instr.findKey,huk,q2,Sem.run_pure]
   rw [MapKept.run_setObj_map _ h2]
   rfl
  ·refine h.turn hl trivial hE (by simp) (fun k hk=>World.putObj_heap_other hk) ⟨rfl,rfl,rfl⟩ ⟨b,_,clock+1,rfl,World.putObj_heap_same dp,?_⟩
   rw [qA,q1]
   simp only [Array.toList_push]
   exact h3.append (.cons ⟨rfl,rfl⟩ .nil)
end
end Go.V
