/- '==' of the program's structs. -/
import Derived.Test.YtghfgcfabbbbbaaDoorP3
import Derived.Laws.StructEq
import Derived.Tactics
import Derived.Tactics2
import Derived.StillTactics
import Derived.KernelRfl
import Derived.Test.YtghfgcfabbbbbaaDoorProg
import Derived.Test.YtghfgcfabbbbbaaDoorP4
import Derived.Shelf.GgClosure.StringsIndexFunc
import Derived.Ground.GgwProg
import Derived.Shelf.GgClosure.StringsIndexFuncTop
import Derived.WalkKit
import Derived.Laws.RangeAny
import Derived.Laws.RangeString
import Derived.ProofKit
set_option linter.unusedVariables false
namespace Go.Proofs.YtghfgcfabbbbbaaDoor
open Go.V
theorem Ao {l m:List C} {b:Bool} (h:Hh [] l m=some b):l=[]∧m=[]∧b=true:=by
 unfold Hh at h
 split at h<;>simp_all
theorem kz {k:List EK} {l m:List C} {b:Bool} (h:Hh (.int::k) l m=some b):∃ x y l' m' c,l=.im (.v (.int .i64 x))::l'∧m=.im (.v (.int .i64 y))::m'∧Hh k l' m'=some c∧b=((x==y)&&c):=by
 unfold Hh at h
 split at h
 ·simp_all
 ·rename_i h1
  simp only [List.cons.injEq,true_and] at h1
  subst h1
  split at h
  ·rename_i c hc
   simp only [aq] at h
   exact ⟨_,_,_,_,c,rfl,rfl,hc,h.symm⟩
  ·simp at h
 ·simp_all
 ·simp_all
 ·simp at h
theorem Ig {k:List EK} {l m:List C} {b:Bool} (h:Hh (.str::k) l m=some b):∃ x y l' m' c,l=.im (.v (.string x))::l'∧m=.im (.v (.string y))::m'∧Hh k l' m'=some c∧b=((x==y)&&c):=by
 unfold Hh at h
 split at h
 ·simp_all
 ·simp_all
 ·rename_i h1
  simp only [List.cons.injEq,true_and] at h1
  subst h1
  split at h
  ·rename_i c hc
   simp only [aq] at h
   exact ⟨_,_,_,_,c,rfl,rfl,hc,h.symm⟩
  ·simp at h
 ·simp_all
 ·simp at h
theorem du {E:Env} {av:Nat→Prop} {w:World} {x:Value} {l:List C} {cs:List Value} (h:aB (bh E av w) (.im (.v x)::l) cs):∃ ob,cs=x::ob∧aB (bh E av w) l ob:=by
 cases h with
 | cons q k=>exact ⟨_,by rw [q.1],k⟩
theorem pP {E:Env} {av:Nat→Prop} {w:World} {cs:List Value} (h:aB (bh E av w) [] cs):cs=[]:=by
 cases h; rfl
theorem al0 (d:Nat) (p1 p2 q1 q2:Int) (w:World):(Op.equalIn (d+2) 27 (.agg #[.int .i64 p1,.int .i64 p2]) (.agg #[.int .i64 q1,.int .i64 q2])).run Tryd.prog w=.ok ((p1==q1)&&((p2==q2)&&true)) w:=by
 have u3:=Tryd.underlying3
 have a3:=Tryd.isAgg3
 have z3:=Tryd.sizeOf3
 have hS:Tryd.prog.underlying 27=some (.struct (Tryd.prog.fieldsOf 27)):=by kernel_rfl
 have hp:Tryd.prog.stoodInHeld 27=false:=by kernel_rfl
 rw [run_equalIn_agg w (d+1) 27 _ _ hS hp]
 simp only [Program.fieldsOf,Tryd.underlying27]
 go_simp
 by_cases h1:p1=q1<;>by_cases h2:p2=q2<;>simp [h1,h2]
theorem ab9 (d:Nat) (a1 a2 b1 b2:Int) (s1 s2:ByteArray) (w:World):(Op.equalIn (d+2) 37 (.agg #[.int .i64 a1,.int .i64 a2,.string s1]) (.agg #[.int .i64 b1,.int .i64 b2,.string s2])).run Tryd.prog w=.ok ((a1==b1)&&((a2==b2)&&((s1==s2)&&true))) w:=by
 have u3:=Tryd.underlying3
 have a3:=Tryd.isAgg3
 have z3:=Tryd.sizeOf3
 have u9:=Tryd.underlying9
 have a9:=Tryd.isAgg9
 have z9:=Tryd.sizeOf9
 have hS:Tryd.prog.underlying 37=some (.struct (Tryd.prog.fieldsOf 37)):=by kernel_rfl
 have hp:Tryd.prog.stoodInHeld 37=false:=by kernel_rfl
 rw [run_equalIn_agg w (d+1) 37 _ _ hS hp]
 simp only [Program.fieldsOf,Tryd.underlying37]
 go_simp
 rw [beq_toListBytes]
 by_cases h1:a1=b1<;>by_cases h2:a2=b2<;>by_cases h3:s1.toList=s2.toList<;>simp [h1,h2,h3]
theorem ak5 (d:Nat) (x1 x2 x3 y1 y2 y3 a1 a2 b1 b2:Int) (s1 s2:ByteArray) (w:World):(Op.equalIn (d+3) 45 (.agg #[.int .i64 x1,.int .i64 x2,.int .i64 x3,.int .i64 a1,.int .i64 a2,.string s1]) (.agg #[.int .i64 y1,.int .i64 y2,.int .i64 y3,.int .i64 b1,.int .i64 b2,.string s2])).run Tryd.prog w =
  .ok ((x1==y1)&&((x2==y2)&&((x3==y3)&&((a1==b1)&&((a2==b2)&&((s1==s2)&&true)))))) w:=by
 have u3:=Tryd.underlying3
 have a3:=Tryd.isAgg3
 have z3:=Tryd.sizeOf3
 have a44:=Tryd.isAgg37
 have z44:=Tryd.sizeOf37
 have e44:=ab9 d
 have hS:Tryd.prog.underlying 45=some (.struct (Tryd.prog.fieldsOf 45)):=by kernel_rfl
 have hp:Tryd.prog.stoodInHeld 45=false:=by kernel_rfl
 rw [run_equalIn_agg w (d+2) 45 _ _ hS hp]
 simp only [Program.fieldsOf,Tryd.underlying45]
 go_simp
 by_cases h1:x1=y1<;>by_cases h2:x2=y2<;>by_cases h3:x3=y3<;>by_cases h4:a1=b1<;>by_cases h5:a2=b2<;>cases (s1==s2)<;>simp [h1,h2,h3,h4,h5]
theorem CB {t:TypeId} {cs ds:Array Value} {b:Bool} (hg:Tryd.prog.eqGuardType Tryd.prog.depth t=false) (h:∀ w,(Op.equalIn 10000 t (.agg cs) (.agg ds)).run Tryd.prog w=.ok b w) (w:World) (x y:Operand) :
  (do eqGuard .eql t x y (.agg cs) (.agg ds); binOp .eql t (.agg cs) (.agg ds)).run Tryd.prog w=.ok (.bool b) w∧
  (do eqGuard .neq t x y (.agg cs) (.agg ds); binOp .neq t (.agg cs) (.agg ds)).run Tryd.prog w=.ok (.bool (!b)) w:=by
 constructor
 ·rw [Sem.run_bind,run_eqGuard_agg w .eql t x y cs ds hg,Result.andThen_ok,run_eql_struct,h w,Result.andThen_ok]
 ·rw [Sem.run_bind,run_eqGuard_agg w .neq t x y cs ds hg,Result.andThen_ok,run_neq_struct,h w,Result.andThen_ok]
theorem Wt:∀ t ks,findF t [(45,[EK.int,.int,.int,.int,.int,.str]),(27,[EK.int,.int]),(37,[EK.int,.int,.str])]=some ks→∀ (l m:List C) (b:Bool),Hh ks l m=some b→∀ (E:Env) (av:Nat→Prop) (w:World) (cs ds:Array Value),aB (bh E av w) l cs.toList→aB (bh E av w) m ds.toList→∀ (x y:Operand),
  (do eqGuard .eql t x y (.agg cs) (.agg ds); binOp .eql t (.agg cs) (.agg ds)).run Tryd.prog w=.ok (.bool b) w∧
  (do eqGuard .neq t x y (.agg cs) (.agg ds); binOp .neq t (.agg cs) (.agg ds)).run Tryd.prog w=.ok (.bool (!b)) w:=by
 intro t ks ht l m b hb E av w cs ds hl hm x y
 have hmem:=mP ht
 obtain ⟨cs⟩:=cs
 obtain ⟨ds⟩:=ds
 simp only at hl hm
 rcases List.mem_cons.1 hmem with h|hmem
 ·simp only [bs] at h
  obtain ⟨rfl,rfl⟩:=h
  obtain ⟨x1,y1,l,m,c,rfl,rfl,hb1,rfl⟩:=kz hb
  obtain ⟨x2,y2,l,m,c,rfl,rfl,hb2,rfl⟩:=kz hb1
  obtain ⟨x3,y3,l,m,c,rfl,rfl,hb3,rfl⟩:=kz hb2
  obtain ⟨x4,y4,l,m,c,rfl,rfl,hb4,rfl⟩:=kz hb3
  obtain ⟨x5,y5,l,m,c,rfl,rfl,hb5,rfl⟩:=kz hb4
  obtain ⟨x6,y6,l,m,c,rfl,rfl,hb6,rfl⟩:=Ig hb5
  obtain ⟨rfl,rfl,rfl⟩:=Ao hb6
  obtain ⟨cs,rfl,hl1⟩:=du hl
  obtain ⟨cs,rfl,hl2⟩:=du hl1
  obtain ⟨cs,rfl,hl3⟩:=du hl2
  obtain ⟨cs,rfl,hl4⟩:=du hl3
  obtain ⟨cs,rfl,hl5⟩:=du hl4
  obtain ⟨cs,rfl,hl6⟩:=du hl5
  obtain rfl:=pP hl6
  obtain ⟨ds,rfl,hm1⟩:=du hm
  obtain ⟨ds,rfl,XX⟩:=du hm1
  obtain ⟨ds,rfl,hm3⟩:=du XX
  obtain ⟨ds,rfl,hm4⟩:=du hm3
  obtain ⟨ds,rfl,hm5⟩:=du hm4
  obtain ⟨ds,rfl,hm6⟩:=du hm5
  obtain rfl:=pP hm6
  exact CB (by kernel_rfl) (fun w=>ak5 9997 x1 x2 x3 y1 y2 y3 x4 x5 y4 y5 x6 y6 w) w x y
 ·rcases List.mem_cons.1 hmem with h|hmem
  ·simp only [bs] at h
   obtain ⟨rfl,rfl⟩:=h
   obtain ⟨x1,y1,l,m,c,rfl,rfl,hb1,rfl⟩:=kz hb
   obtain ⟨x2,y2,l,m,c,rfl,rfl,hb2,rfl⟩:=kz hb1
   obtain ⟨rfl,rfl,rfl⟩:=Ao hb2
   obtain ⟨cs,rfl,hl1⟩:=du hl
   obtain ⟨cs,rfl,hl2⟩:=du hl1
   obtain rfl:=pP hl2
   obtain ⟨ds,rfl,hm1⟩:=du hm
   obtain ⟨ds,rfl,XX⟩:=du hm1
   obtain rfl:=pP XX
   exact CB (by kernel_rfl) (fun w=>al0 9998 x1 x2 y1 y2 w) w x y
  ·rcases List.mem_cons.1 hmem with h|hmem
   ·simp only [bs] at h
    obtain ⟨rfl,rfl⟩:=h
    obtain ⟨x1,y1,l,m,c,rfl,rfl,hb1,rfl⟩:=kz hb
    obtain ⟨x2,y2,l,m,c,rfl,rfl,hb2,rfl⟩:=kz hb1
    obtain ⟨x3,y3,l,m,c,rfl,rfl,hb3,rfl⟩:=Ig hb2
    obtain ⟨rfl,rfl,rfl⟩:=Ao hb3
    obtain ⟨cs,rfl,hl1⟩:=du hl
    obtain ⟨cs,rfl,hl2⟩:=du hl1
    obtain ⟨cs,rfl,hl3⟩:=du hl2
    obtain rfl:=pP hl3
    obtain ⟨ds,rfl,hm1⟩:=du hm
    obtain ⟨ds,rfl,XX⟩:=du hm1
    obtain ⟨ds,rfl,hm3⟩:=du XX
    obtain rfl:=pP hm3
    exact CB (by kernel_rfl) (fun w=>ab9 9998 x1 x2 y1 y2 x3 y3 w) w x y
   ·cases hmem
end Go.Proofs.YtghfgcfabbbbbaaDoor
set_option maxRecDepth 1000000
namespace Go.Proofs.YtghfgcfabbbbbaaDoor
open Go Go.V
def tyL:List (Nat×Ty):=[
 (3,⟨1,8,(.int .i64 0),.int⟩),
 (40,⟨14,152,(.agg ⟨[(.int .i64 0),(.int .i64 0),(.int .i64 0),(.int .i64 0),(.int .i64 0),(.slice none 0 0),(.int .i64 0),(.int .i64 0),(.string ⟨⟨[]⟩⟩),(.slice none 0 0),(.int .i64 0),(.int .i64 0),(.int .i64 0),(.bool false)]⟩),(.struct [(0,1),(1,1),(2,1),(3,1),(4,1),(5,1),(6,3),(9,1),(10,2),(12,1),(13,1)])⟩),
 (31,⟨4,64,(.agg ⟨[(.int .i64 0),(.int .i64 0),(.slice none 0 0),(.slice none 0 0)]⟩),(.struct [(0,2),(2,1),(3,1)])⟩),
 (22,⟨1,24,(.slice none 0 0),(.slice 3)⟩),
 (28,⟨1,24,(.slice none 0 0),(.slice 40)⟩),
 (4,⟨1,1,(.bool false),.bool⟩),
 (38,⟨1,24,(.slice none 0 0),(.slice 9)⟩),
 (73,⟨3,56,(.agg ⟨[(.slice none 0 0),(.slice none 0 0),(.int .i64 0)]⟩),(.struct [(0,1),(1,1),(2,1)])⟩),
 (37,⟨3,32,(.agg ⟨[(.int .i64 0),(.int .i64 0),(.string ⟨⟨[]⟩⟩)]⟩),(.struct [(0,1),(1,1),(2,1)])⟩),
 (29,⟨1,24,(.slice none 0 0),(.slice 73)⟩),
 (78,⟨4,64,(.agg ⟨[(.int .i64 0),(.int .i64 0),(.slice none 0 0),(.slice none 0 0)]⟩),(.struct [(0,1),(1,1),(2,1),(3,1)])⟩),
 (71,⟨1,24,(.slice none 0 0),(.slice 78)⟩),
 (57,⟨1,8,(.pointer none),(.ptr 62)⟩),
 (70,⟨1,24,(.slice none 0 0),(.slice 75)⟩),
 (46,⟨1,24,(.slice none 0 0),(.slice 4)⟩),
 (75,⟨3,40,(.agg ⟨[(.int .i64 0),(.int .i64 0),(.slice none 0 0)]⟩),(.struct [(0,1),(1,1),(2,1)])⟩),
 (58,⟨1,8,(.pointer none),(.ptr 60)⟩),
 (62,⟨7,88,(.agg ⟨[(.pointer none),(.int .i64 0),(.int .i64 0),(.slice none 0 0),(.slice none 0 0),(.int .i64 0),(.int .i64 0)]⟩),(.struct [(0,1),(1,4),(5,1),(6,1)])⟩),
 (9,⟨1,16,(.string ⟨⟨[]⟩⟩),.str⟩),
 (45,⟨6,56,(.agg ⟨[(.int .i64 0),(.int .i64 0),(.int .i64 0),(.int .i64 0),(.int .i64 0),(.string ⟨⟨[]⟩⟩)]⟩),(.struct [(0,1),(1,1),(2,1),(3,3)])⟩),
 (93,⟨5,72,(.agg ⟨[(.int .i64 0),(.int .i64 0),(.slice none 0 0),(.slice none 0 0),(.map none)]⟩),(.struct [(0,4),(4,1)])⟩),
 (23,⟨3,24,(.agg ⟨[(.int .i64 0),(.int .i64 0),(.int .i64 0)]⟩),(.array 3 3)⟩),
 (144,⟨1,8,(.int .u64 0),.other⟩),
 (27,⟨2,16,(.agg ⟨[(.int .i64 0),(.int .i64 0)]⟩),(.struct [(0,1),(1,1)])⟩),
 (55,⟨1,24,(.slice none 0 0),(.slice 45)⟩),
 (91,⟨1,8,(.map none),(.map 3 4)⟩),
 (112,⟨1,24,(.slice none 0 0),(.slice 113)⟩),
 (60,⟨2,32,(.agg ⟨[(.slice none 0 0),(.int .i64 0)]⟩),(.struct [(0,1),(1,1)])⟩),
 (41,⟨1,8,(.int .i64 0),.int⟩),
 (109,⟨1,8,.nilFunc,.func⟩),
 (114,⟨1,8,.nilFunc,.func⟩),
 (133,⟨1,8,(.int .u64 0),.other⟩),
 (24,⟨6,48,(.agg ⟨[(.int .i64 0),(.int .i64 0),(.int .i64 0),(.int .i64 0),(.int .i64 0),(.int .i64 0)]⟩),(.array 2 23)⟩),
 (69,⟨1,8,(.pointer none),(.ptr 73)⟩),
 (84,⟨30,240,(.agg ⟨[(.int .i64 0),.nilFunc,(.int .i64 0),.nilFunc,(.int .i64 0),.nilFunc,(.int .i64 0),.nilFunc,(.int .i64 0),.nilFunc,(.int .i64 0),.nilFunc,(.int .i64 0),.nilFunc,(.int .i64 0),.nilFunc,(.int .i64 0),.nilFunc,(.int .i64 0),.nilFunc,(.int .i64 0),.nilFunc,(.int .i64 0),.nilFunc,(.int .i64 0),.nilFunc,(.int .i64 0),.nilFunc,(.int .i64 0),.nilFunc]⟩),(.array 15 83)⟩),
 (83,⟨2,16,(.agg ⟨[(.int .i64 0),.nilFunc]⟩),(.struct [(0,1),(1,1)])⟩),
 (81,⟨1,8,.nilFunc,.func⟩),
 (131,⟨1,8,.nilFunc,.func⟩),
 (21,⟨1,4,(.int .i32 0),.other⟩),
 (86,⟨1,8,.nilFunc,.func⟩),
 (87,⟨1,24,(.slice none 0 0),(.slice 37)⟩),
 (120,⟨1,8,.nilFunc,.func⟩),
 (113,⟨1,8,(.pointer none),(.ptr 3)⟩),
 (141,⟨1,4,(.int .u32 0),.other⟩),
 (5,⟨1,1,(.int .u8 0),.other⟩)
]
def eqL:List (Nat×List EK):=[(45,[.int,.int,.int,.int,.int,.str]),(27,[.int,.int]),(37,[.int,.int,.str])]
def LK (f:FuncId):I:=.fn f 0 fun _=>.v (.bool false)
def aq0:List I:=[.v (.int .i64 0),.v .nilFunc,.v (.int .i64 0),.v .nilFunc,.v (.int .i64 0),LK 123,.v (.int .i64 1),LK 123,.v (.int .i64 2),LK 123,.v (.int .i64 1),LK 123,.v (.int .i64 1),LK 123,.v (.int .i64 1),LK 123,.v (.int .i64 1),LK 123,.v (.int .i64 2),LK 123,.v (.int .i64 1),LK 124,.v (.int .i64 0),.v .nilFunc,.v (.int .i64 2),LK 126,.v (.int .i64 0),.v .nilFunc,.v (.int .i64 1),LK 123]
noncomputable def Yv:Nat→I:=List.rec (fun _=>.v (.bool false)) (fun x _ ih k=>Nat.rec x (fun m _=>ih m) k) aq0
noncomputable def pN:dY:=⟨fun t=>findF t tyL,fun t=>findF t eqL,fun g=>none,fun g=>match g with
 | 0=>some (30,Yv)
 | _=>none⟩
def YI:List (Nat×List (Nat×List Nat)):=[
 (3,[(0,[0,3]),(1,[0,3,5]),(2,[3,5,6]),(3,[3,5,6,7]),(4,[3,5,7,22]),(5,[4]),(6,[5,34]),(7,[4]),(8,[4])]),
 (4,[(0,[0,1]),(1,[0,1,5]),(2,[1,5,6]),(3,[1,5,6,7]),(4,[1,5,6,7,19,20,21]),(5,[1,5,6,7,19,20,21,22]),(6,[1,5,6,7,8,9,19,20,21]),(7,[1,5,6,7,8,19,20,21,33]),(8,[1,5,6,7,19,20,21]),(9,[1,5,6,7,19,20,21]),(10,[1,5,6,7,41]),(11,[4]),(12,[5,6,10,11]),(13,[5,6,11,12,13]),(14,[5,12,13,77]),(15,[4]),(16,[5,12,13,79,80]),(17,[5,12,13,79,80,81]),(18,[5,12,13,14,79,80]),(19,[5,12,13,79,80,93]),(20,[4]),(21,[5,12,13,79,80]),(22,[4])]),
 (5,[(0,[]),(1,[1]),(2,[1,2]),(3,[1,2,3]),(4,[3,4]),(5,[3,4,5]),(6,[3,4,5,6]),(7,[3,4,7,8]),(8,[7,8,61]),(9,[0]),(10,[0])]),
 (6,[(0,[0,2]),(1,[2,3]),(2,[2,3]),(3,[2,3,4]),(4,[2,3,4,29]),(5,[2,3,4]),(6,[2,3,4]),(7,[2,3]),(8,[2,3,5]),(9,[2,3,5,6]),(10,[2,3,5,6]),(11,[2,3,5,6]),(12,[2,3,5]),(13,[2,3,5]),(14,[2,3,5,7]),(15,[2,3,5,7,8]),(16,[2,3,5,7,8,75]),(17,[2,3,5,7,8]),(18,[2,3,5,7,8]),(19,[2,3,5,85]),(20,[2,3,5]),(21,[2,3,5]),(22,[2,3]),(23,[2]),(24,[2,3,5]),(25,[2,3,5,9]),(26,[2,3,5,9,103]),(27,[2,3,5,9]),(28,[2,3,5,9,111]),(29,[2,3,5,9]),(30,[2,3,5,9]),(31,[2,3]),(32,[2])]),
 (7,[(0,[2,3,4]),(1,[3,4,5]),(2,[3,4,5,6]),(3,[3,4,5,6,7]),(4,[3,4,5,6,7,22]),(5,[3,4,5,6,7]),(6,[3,4,5,6,7,34]),(7,[3,4,5,6,7,34,35]),(8,[4,5]),(9,[3,4,5,6,7,34,43]),(10,[4,5]),(11,[3,4,5,6,7,34,50]),(12,[4,5]),(13,[3,4,5,6,7,34,57]),(14,[4,5]),(15,[3,4,5,6,7,34,64]),(16,[4,5]),(17,[3,4,5,6,7,34,77]),(18,[4,5]),(19,[3,4,5,6,7,34,87]),(20,[4,5]),(21,[3,4,5,6,7,34,100]),(22,[4,5]),(23,[3,4,5,6,7,34,117]),(24,[4,5]),(25,[3,4,5,7,34,129]),(26,[3,4,5,7,132]),(27,[4,5]),(28,[3,4,5,7,34,138]),(29,[3,4,5,7,141]),(30,[4,5]),(31,[3,4,5,7,34,159]),(32,[3,4,5,7,162]),(33,[4,5]),(34,[3,4,5,34,177]),(35,[4,5]),(36,[3,4,5,189]),(37,[4,5]),(38,[4])]),
 (8,[(0,[1]),(1,[2])]),
 (9,[(0,[2,3,4]),(1,[2,3,4,9]),(2,[4,5]),(3,[2,3,4,21]),(4,[4,5]),(5,[3,4,6]),(6,[4,6,33]),(7,[4,5]),(8,[4,5])]),
 (10,[(0,[1]),(1,[1,10]),(2,[2]),(3,[1,3]),(4,[1,3,4]),(5,[1,3,4,25]),(6,[2]),(7,[1,3,4,28,29,30]),(8,[1,3,4,28,29,30,31]),(9,[1,3,4,5,6,28,29,30]),(10,[1,3,4,5,6,28,29,30,37]),(11,[1,3,4,28,29,30]),(12,[1,3,4,5,6,28,29,30,58]),(13,[1,3,4,5,6,7,28,29,30]),(14,[1,3,4,28,29,30]),(15,[1,3,4,28,29,30]),(16,[2])]),
 (11,[(0,[0,1,4]),(1,[4])]),
 (12,[(0,[0,2]),(1,[0,2,3]),(2,[2,3,6,7,8]),(3,[2,3,6,7,8,9]),(4,[2,3,5,6,7,8]),(5,[2,3,5,6,7,8,14]),(6,[2,3,5,6,7,8]),(7,[2,3,5,6,7,8]),(8,[2,3,6,7,8]),(9,[2,3,6,7,8]),(10,[2])]),
 (13,[(0,[0,2]),(1,[2])]),
 (14,[(0,[0,2]),(1,[2])]),
 (15,[(0,[0,2]),(1,[2])]),
 (16,[(0,[0,1]),(1,[0,1,10]),(2,[4]),(3,[0,1,12,13]),(4,[0,1,12,13,14]),(5,[0,1,5,12,13]),(6,[0,1,12,13,24]),(7,[4]),(8,[0,1,12,13]),(9,[4])]),
 (17,[(0,[0,1]),(1,[0,1,10]),(2,[4]),(3,[0,1,12,13]),(4,[0,1,12,13,14]),(5,[0,1,5,12,13]),(6,[0,1,12,13,24]),(7,[4]),(8,[0,1,12,13]),(9,[4])]),
 (18,[(0,[1]),(1,[1,3]),(2,[1,3,7,8,9]),(3,[1,3,7,8,9,10]),(4,[1,3,4,5,7,8,9]),(5,[1,3,4,7,8,9,32]),(6,[1,3,7,8,9]),(7,[1,3,7,8,9]),(8,[2])]),
 (19,[(0,[0,1]),(1,[0,1,18]),(2,[4]),(3,[0,1]),(4,[4])]),
 (20,[(0,[0,3]),(1,[0]),(2,[4])]),
 (21,[(0,[0]),(1,[0,3]),(2,[0,3,4]),(3,[0,3,4,12]),(4,[0,3,4]),(5,[0,3,4]),(6,[0,5]),(7,[0,5,40]),(8,[0,5]),(9,[0]),(10,[2])]),
 (22,[(0,[0,2]),(1,[0,2,20]),(2,[0,2,20,21]),(3,[]),(4,[0,2,20,38]),(5,[0,2,20,38]),(6,[0,2,20,38]),(7,[0,3]),(8,[0,3]),(9,[]),(10,[0,2,20,56]),(11,[0,4]),(12,[0,4]),(13,[]),(14,[0,2,20,70]),(15,[0,2,5]),(16,[0,2,5]),(17,[0,2,6]),(18,[0,7]),(19,[0,7]),(20,[]),(21,[0,2,20,98]),(22,[0,2,20,98]),(23,[0,2,8]),(24,[]),(25,[0,2,20,109]),(26,[0,2,9]),(27,[]),(28,[0,2,20,121]),(29,[0,2,20,121]),(30,[0,2,10]),(31,[0,2,10]),(32,[0,2]),(33,[0,2,11]),(34,[0,2,11]),(35,[]),(36,[0,2,20,153]),(37,[0,2,12]),(38,[0,2,12]),(39,[0,2,12]),(40,[0,12,168]),(41,[]),(42,[]),(43,[0,2,20,185]),(44,[0,13]),(45,[0,13]),(46,[0,13]),(47,[]),(48,[0,2,201]),(49,[0,2,14]),(50,[0,2,14]),(51,[0,2,14]),(52,[])]),
 (23,[(0,[0]),(1,[0,3]),(2,[0,3,4]),(3,[0,3,4,12]),(4,[0,3,4]),(5,[0,3,4,24]),(6,[0,3,4]),(7,[0,3,31]),(8,[2]),(9,[0,3,37]),(10,[2]),(11,[2])]),
 (24,[(0,[1,2]),(1,[1,2,3]),(2,[1,2,3,4]),(3,[1,2,3,4,13]),(4,[1,2,3,4]),(5,[1,2,3,4]),(6,[1,2,3,5]),(7,[1,2,3,5,31]),(8,[1,2,3,5]),(9,[1,2,3,5]),(10,[2])]),
 (25,[(0,[0,1]),(1,[1,5]),(2,[1,5,10]),(3,[4]),(4,[4])]),
 (26,[(0,[]),(1,[0])]),
 (27,[(0,[1]),(1,[1,13]),(2,[2]),(3,[1,3]),(4,[1,3,4]),(5,[1,3,4,5]),(6,[1,3,4,5,26]),(7,[1,3,4,5]),(8,[1,3,4,5,6]),(9,[1,3,4,5,6,7]),(10,[1,3,4,5,6,7,35]),(11,[1,3,4,5,6,7,35,36]),(12,[1,3,4,5,7]),(13,[1,3,4,5,6,7,35,50]),(14,[1,3,4,5,6,7,35,50]),(15,[1,3,4,5,6,7,35,50]),(16,[1,3,4,5,6,7,35,50]),(17,[1,3,4,5,6,7,35,50]),(18,[1,3,4,5,6,7,35,50]),(19,[1,3,4,5,6,7,35,50]),(20,[1,3,4,5,6,7,35,50]),(21,[1,3,4,5,6,7,35,50]),(22,[1,3,4,5,6,7,35,50]),(23,[1,3,4,5,6,7,50]),(24,[1,3,4,5,6,8]),(25,[1,3,4,5,6,7]),(26,[1,3,4,5,7,9]),(27,[1,3,4,5,7,9,10]),(28,[1,3,4,5,7,9,10,77]),(29,[1,3,4,5,7,9,10]),(30,[1,3,4,5,7,9,10]),(31,[1,3,4,5]),(32,[2])]),
 (28,[(0,[1]),(1,[1,3]),(2,[1,3,4]),(3,[1,3,4,5]),(4,[1,3,4,5,11]),(5,[1,3,4,5]),(6,[1,3,4,5,35]),(7,[1,3,4,5]),(8,[2])]),
 (29,[(0,[1]),(1,[1,15]),(2,[2]),(3,[1,31]),(4,[2]),(5,[1,3]),(6,[1,3,4]),(7,[3,4,39,40]),(8,[3,4,39,40,41]),(9,[3,4,5,39,40]),(10,[3,4,39,40,47]),(11,[2]),(12,[3,4,39,40]),(13,[2])]),
 (30,[(0,[1,2]),(1,[1,2]),(2,[1,2,22,23,24]),(3,[1,2,22,23,24,25]),(4,[1,2,3,4,22,23,24]),(5,[1,2,22,23,24]),(6,[1,2,22,23,24]),(7,[1,2,47,48,49]),(8,[1,2,47,48,49,50]),(9,[1,2,5,6,47,48,49]),(10,[1,2,5,7,8,47,48,49]),(11,[1,2,5,7,8,47,48,49,60,61,62]),(12,[1,2,5,7,8,47,48,49,60,61,62,63]),(13,[1,2,5,7,8,9,10,47,48,49,60,61,62]),(14,[1,2,5,7,8,47,48,49,60,61,62]),(15,[1,2,5,7,8,47,48,49,60,61,62]),(16,[1,2,5,7,8,47,48,49,75,76,77]),(17,[1,2,5,7,8,47,48,49,75,76,77,78]),(18,[1,2,5,7,8,11,12,47,48,49,75,76,77]),(19,[1,2,5,7,8,47,48,49,75,76,77]),(20,[1,2,5,7,8,47,48,49,75,76,77]),(21,[1,2,47,48,49]),(22,[1,2,47,48,49]),(23,[2])]),
 (31,[(0,[2,3]),(1,[2,3,5]),(2,[2,3,5,6]),(3,[2,3,5,6,15]),(4,[4]),(5,[2,3,5,6,15,16]),(6,[3,5,30]),(7,[4]),(8,[]),(9,[2,3,5,6,15,40]),(10,[2,3,5,6,51]),(11,[4]),(12,[2,3,5,6,7]),(13,[2,3,5,6,87]),(14,[4]),(15,[5,6]),(16,[]),(17,[2,3,5,6,15,97]),(18,[5,6,132]),(19,[4]),(20,[]),(21,[2,3,5,15,136]),(22,[5,156]),(23,[4]),(24,[]),(25,[2,3,5,15,160]),(26,[5,173]),(27,[4]),(28,[]),(29,[2,3,177]),(30,[4]),(31,[4])]),
 (32,[(0,[0,1]),(1,[4])]),
 (33,[(0,[0,1]),(1,[3])]),
 (34,[(0,[0]),(1,[0,3]),(2,[0,3,13]),(3,[0,3]),(4,[0,3]),(5,[3]),(6,[2])]),
 (35,[(0,[0]),(1,[3]),(2,[3,4]),(3,[3,4]),(4,[3,4]),(5,[3,4]),(6,[3,4]),(7,[3,4]),(8,[3,4]),(9,[3,4]),(10,[4]),(11,[2]),(12,[2])]),
 (36,[(0,[1,2]),(1,[1,2,3]),(2,[1,2,3]),(3,[2,3]),(4,[2])]),
 (37,[(0,[1,2]),(1,[1,2,3]),(2,[1,2,3,4]),(3,[1,2,3,4,15]),(4,[1,2,3,4]),(5,[1,2,3,4,5]),(6,[1,2,3,4,5]),(7,[1,2,3,4]),(8,[1,2,3,6]),(9,[1,2,3,6,38]),(10,[1,2,3,6]),(11,[1,2,3,6,7]),(12,[1,2,3,6,7]),(13,[1,2,3,6,7]),(14,[1,2,3,6]),(15,[2])]),
 (38,[(0,[1]),(1,[1,12]),(2,[2]),(3,[15]),(4,[2]),(5,[2])]),
 (39,[(0,[2,3]),(1,[2,3,5]),(2,[2,3,5,11]),(3,[2,3,5]),(4,[2,3,5,6]),(5,[2,3,5,6,33]),(6,[4]),(7,[2,3,5,41]),(8,[4]),(9,[4])]),
 (40,[(0,[1]),(1,[1,4]),(2,[1,4,5]),(3,[1,4,5]),(4,[1,4,5]),(5,[1,4,5]),(6,[1,4,5]),(7,[1,4,5]),(8,[1,4,5]),(9,[1,4,5]),(10,[2]),(11,[1,4,17]),(12,[1,4,17]),(13,[1,4,17]),(14,[1,4,17]),(15,[2]),(16,[1,4,27]),(17,[2]),(18,[1,36]),(19,[2]),(20,[2])]),
 (41,[(0,[1]),(1,[1,3]),(2,[1,3,8]),(3,[2]),(4,[2])]),
 (42,[(0,[1,2,3]),(1,[1,2,3,7]),(2,[1,2,3,7,8]),(3,[1,2,3,7,24]),(4,[1,2,3,7,24]),(5,[1,2,3,7,24]),(6,[6]),(7,[1,2,3,7,46]),(8,[6]),(9,[1,3,7,74]),(10,[6]),(11,[1,3,7,85]),(12,[6]),(13,[1,3,7,120,121,122]),(14,[1,3,7,120,121,122,123]),(15,[1,3,7,10,120,121,122]),(16,[1,3,7,120,121,122,140]),(17,[6]),(18,[1,3,7,120,121,122]),(19,[1,3,7,144]),(20,[6]),(21,[1,3,7,149]),(22,[6]),(23,[1,3,7]),(24,[6])]),
 (43,[(0,[0]),(1,[0,4]),(2,[2]),(3,[2])]),
 (44,[(0,[0]),(1,[0,4]),(2,[2]),(3,[2])]),
 (45,[(0,[0]),(1,[0,4]),(2,[2]),(3,[2])]),
 (46,[(0,[0]),(1,[0,4]),(2,[2]),(3,[2])]),
 (47,[(0,[0]),(1,[0,4]),(2,[2]),(3,[2])]),
 (48,[(0,[0]),(1,[0,4]),(2,[2]),(3,[2])]),
 (49,[(0,[1]),(1,[2])]),
 (50,[(0,[0,1]),(1,[4])]),
 (51,[(0,[0]),(1,[2])]),
 (52,[(0,[3,4,5]),(1,[3,6]),(2,[3,6,7]),(3,[3,6,7,20,21]),(4,[3,6,7,20,21,22]),(5,[3,6,7,8,20,21]),(6,[3,6,7,9,20,21]),(7,[3,6,7,9,20,21]),(8,[3,6,7,20,21]),(9,[3,6,7,20,21]),(10,[6,7,54,55,56]),(11,[6,7,54,55,56,57]),(12,[6,7,11,54,55,56]),(13,[6,7,11,54,55,56,61,62,63]),(14,[6,7,11,54,55,56,61,62,63,64]),(15,[6,7,11,13,54,55,56,61,62,63]),(16,[6,7,11,54,55,56,61,62,63]),(17,[6,7,11,54,55,56,61,62,63]),(18,[6,7,11,54,55,56,73,74,75]),(19,[6,7,11,54,55,56,73,74,75,76]),(20,[6,7,11,14,15,54,55,56,73,74,75]),(21,[6,7,11,14,54,55,56,73,74,75]),(22,[6,7,11,54,55,56,73,74,75]),(23,[6,7,11,54,55,56,73,74,75]),(24,[6,7,54,55,56])]),
 (53,[(0,[2,3,4]),(1,[2,3,4,5]),(2,[2,3,4,5,12,13,14]),(3,[2,3,4,5,12,13,14,15]),(4,[2,3,4,5,6,7,12,13,14]),(5,[2,3,4,5,6,7,12,13,14,20]),(6,[2,3,4,5,6,7,8,12,13,14]),(7,[2,3,4,5,6,7,8,12,13,14,35]),(8,[2,3,4,5,6,8,9,12,13,14]),(9,[2,3,4,5,6,8,9,12,13,14,43]),(10,[3,8,10]),(11,[]),(12,[2,3,4,5,6,8,12,13,14]),(13,[2,3,4,5,6,12,13,14,58]),(14,[2,3,4,5,12,13,14]),(15,[2,3,4,5,12,13,14]),(16,[4])]),
 (54,[(0,[0]),(1,[2])]),
 (55,[(0,[2,3]),(1,[2,3,5]),(2,[2,3,5,25]),(3,[4]),(4,[2,3,5,6]),(5,[2,3,5,6,7]),(6,[2,3,5,6,7,37]),(7,[2,3,5,6,7]),(8,[2,3,5,6,7,8]),(9,[2,3,5,6,7,8,59]),(10,[2,3,5,6,7,8,9]),(11,[2,3,5,6,7,8]),(12,[2,3,5,6,7,8,92]),(13,[2,3,5,6,7,8]),(14,[2,3,5,6,7,8,98]),(15,[2,3,5,6,7]),(16,[2,3,5,6,7,8,108]),(17,[2,3,5,6,7]),(18,[2,3,5,6,7,8,128]),(19,[2,3,5,6,7,8]),(20,[2,3,5,6,7,8,140,141,142]),(21,[2,3,5,6,7,8,140,141,142,143]),(22,[2,3,5,6,7,8,10,11,140,141,142]),(23,[2,3,5,6,7,8,10,140,141,142,149]),(24,[2,3,5,6,7,8,140,141,142]),(25,[2,3,5,6,7,8,140,141,142]),(26,[]),(27,[4])]),
 (56,[(0,[0,1]),(1,[0,1,7,8]),(2,[0,1,7,8,9]),(3,[0,1,5,7,8]),(4,[0,1,5,7,8,16]),(5,[4]),(6,[0,1,7,8]),(7,[4])]),
 (57,[(0,[1]),(1,[1,3]),(2,[1,3,27]),(3,[2]),(4,[1,3,4]),(5,[1,3,4,5]),(6,[1,3,4,5,36]),(7,[1,3,4,5]),(8,[1,3,4,5,6]),(9,[1,3,4,5,6,7]),(10,[1,3,4,5,6,74]),(11,[2]),(12,[1,3,4,5,6,107]),(13,[2]),(14,[1,3,4,5,6,8]),(15,[1,3,4,5,6,8,9]),(16,[1,3,4,5,6,8,9,113]),(17,[1,3,4,5,6,8,9]),(18,[1,3,4,5,6,8,9,135]),(19,[2]),(20,[1,3,4,5,6,178]),(21,[2]),(22,[1,3,4,5,6,181]),(23,[1,3,4,5,6,198]),(24,[2]),(25,[1,3,4,5]),(26,[2])]),
 (58,[(0,[0,1]),(1,[0,1,7,8]),(2,[0,1,7,8,9]),(3,[0,1,5,7,8]),(4,[0,1,5,7,8,16]),(5,[4]),(6,[0,1,7,8]),(7,[4])]),
 (59,[(0,[1]),(1,[2])]),
 (60,[(0,[1]),(1,[1,3,4]),(2,[1,3,4,5]),(3,[1,5,15]),(4,[2]),(5,[1,36]),(6,[2]),(7,[1,73]),(8,[2]),(9,[1,112]),(10,[2]),(11,[1,127]),(12,[2]),(13,[1,161]),(14,[2]),(15,[2])]),
 (61,[(0,[0]),(1,[2])]),
 (62,[(0,[0]),(1,[2])]),
 (63,[(0,[1]),(1,[1,5]),(2,[2]),(3,[2])]),
 (64,[(0,[1,2,3]),(1,[6])]),
 (65,[(0,[3,4,5,6]),(1,[3,4,5,6,28]),(2,[6]),(3,[3,4,5,6,7]),(4,[3,4,5,6,7,31,32,33]),(5,[3,4,5,6,7,31,32,33,34]),(6,[3,4,5,6,7,9,31,32,33]),(7,[3,4,5,6,7,9,31,32,33,57]),(8,[6]),(9,[3,4,5,6,7,9,10,31,32,33]),(10,[3,4,5,6,7,9,31,32,33,82]),(11,[6]),(12,[3,4,5,6,7,31,32,33]),(13,[3,4,5,6,7,31,32,33]),(14,[3,4,5,6,7,88,89,90]),(15,[3,4,5,6,7,88,89,90,91]),(16,[3,4,5,6,7,12,88,89,90]),(17,[3,4,5,6,7,88,89,90,107]),(18,[6]),(19,[3,4,5,6,7,88,89,90]),(20,[3,5,6,7,110]),(21,[3,5,6,7,13]),(22,[6,136]),(23,[6]),(24,[6])]),
 (66,[(0,[1]),(1,[1,3,4]),(2,[1,3,4,7]),(3,[2]),(4,[1,3,4,7,8]),(5,[1,3,4,7,8]),(6,[1,3,7,11]),(7,[1,3,4]),(8,[1,3,7,13]),(9,[1,3,4]),(10,[1,3,7,15]),(11,[1,5]),(12,[2]),(13,[1,3,7,33]),(14,[1,3,4]),(15,[1,3,35]),(16,[1,3,4]),(17,[2])]),
 (67,[(0,[0,1]),(1,[0,1,7,8]),(2,[0,1,7,8,9]),(3,[0,1,5,7,8]),(4,[0,1,5,7,8,16]),(5,[4]),(6,[0,1,7,8]),(7,[4])]),
 (68,[(0,[1,2,6,7,8]),(1,[1,2,6,7,8,9]),(2,[1,2,5,6,7,8]),(3,[1,2,5,6,7,8,16]),(4,[1,2,6,7,8]),(5,[1,2,6,7,8])]),
 (69,[(0,[0,1,5,6]),(1,[0,1,5,6,7]),(2,[0,1,3,5,6]),(3,[0,1,5,6]),(4,[0,1,5,6])]),
 (70,[(0,[0]),(1,[3]),(2,[3,4]),(3,[3,4]),(4,[3,4]),(5,[3,4]),(6,[3,4]),(7,[3,4]),(8,[3,4]),(9,[3,4]),(10,[2]),(11,[3,13]),(12,[3,13]),(13,[3,13]),(14,[3,13]),(15,[2]),(16,[18]),(17,[2]),(18,[2])]),
 (71,[(0,[1]),(1,[2])]),
 (72,[(0,[0,1]),(1,[4])]),
 (73,[(0,[1,2]),(1,[3])]),
 (74,[(0,[0,1]),(1,[4])]),
 (75,[(0,[1,2,3]),(1,[4])]),
 (76,[(0,[2,3,4]),(1,[2,3,4,7]),(2,[6]),(3,[2,3,4,13]),(4,[6]),(5,[3,4,29]),(6,[6]),(7,[6])]),
 (77,[(0,[0,1]),(1,[0,1,10]),(2,[0,1]),(3,[0,5,6]),(4,[0,6,26]),(5,[0,6]),(6,[0,7]),(7,[7,8]),(8,[7,8,37]),(9,[7,8]),(10,[4])]),
 (78,[(0,[1]),(1,[1,3]),(2,[1,3,17]),(3,[1,3]),(4,[2])]),
 (79,[(0,[1]),(1,[1,3]),(2,[1,3]),(3,[1,3]),(4,[1,3]),(5,[1,3,4]),(6,[1,3,4,5]),(7,[1,3,4,5,21]),(8,[1,3,4,5,23]),(9,[1,3,4,5]),(10,[1,3,4,5,28]),(11,[1,3,4,5]),(12,[1,3,4,33]),(13,[1,3,4]),(14,[1,3,4]),(15,[1,3,4,41]),(16,[1,3,4,41,42]),(17,[1,3]),(18,[1,3,4]),(19,[1,3,4,41,55]),(20,[1,3]),(21,[1,3,4]),(22,[1,3,4,41,63]),(23,[1,3]),(24,[1,3,4]),(25,[1,3,4,41,71]),(26,[1,3]),(27,[1,3,4]),(28,[1,3,4,41,79]),(29,[1,3,4,41,79]),(30,[1,3]),(31,[1,3,4]),(32,[1,3,4,41,88]),(33,[1,3]),(34,[1,3,4]),(35,[1,3,4,41,96]),(36,[1,3]),(37,[1,3,4]),(38,[1,3,4,41,104]),(39,[1,3,4,41,104]),(40,[1,3,4,41,104]),(41,[1,3]),(42,[1,3]),(43,[1,3,6]),(44,[1,3,4]),(45,[1,3,4,41,123]),(46,[1,3]),(47,[1,3,4]),(48,[1,3,4,41,144]),(49,[1,3]),(50,[1,3,4]),(51,[1,3,4,152]),(52,[1,3]),(53,[1,3,4]),(54,[2])]),
 (80,[(0,[1,2,3]),(1,[6])]),
 (81,[(0,[0]),(1,[3]),(2,[3,4]),(3,[3,4]),(4,[3,4]),(5,[3,4]),(6,[3,4]),(7,[3,4]),(8,[3,4]),(9,[3,4]),(10,[3,4]),(11,[3,4]),(12,[4]),(13,[2]),(14,[2])]),
 (82,[(0,[0]),(1,[3]),(2,[3,4]),(3,[3,4]),(4,[2]),(5,[3,7]),(6,[3,7]),(7,[3,7]),(8,[3,7]),(9,[3,7]),(10,[3,7]),(11,[3,7]),(12,[7]),(13,[2]),(14,[2])]),
 (83,[(0,[2,3,4]),(1,[2,3,4,27]),(2,[6]),(3,[2,3,4,7]),(4,[2,3,4,7,8]),(5,[2,3,4,7,8,32]),(6,[2,3,4,7,8]),(7,[2,3,4,7,8,9]),(8,[2,3,4,7,8,9,53]),(9,[6]),(10,[2,3,4,7,8]),(11,[2,3,4,7,10]),(12,[2,3,4,7,10,62]),(13,[2,3,4,7,10]),(14,[2,3,4,7,10,11]),(15,[2,3,4,7,10,11,93]),(16,[6]),(17,[2,3,4,7,10,11,125]),(18,[6]),(19,[2,3,4,7,10]),(20,[2,3,4,7,12]),(21,[2,3,4,7,12,133]),(22,[2,3,4,7,12]),(23,[2,3,4,7,12,140]),(24,[2,3,4,7,12,169]),(25,[6]),(26,[6])]),
 (84,[(0,[0]),(1,[4]),(2,[4,5]),(3,[2,3]),(4,[4,7]),(5,[2,3]),(6,[4,9]),(7,[2,3]),(8,[4,11]),(9,[2,3]),(10,[4,13]),(11,[4,13]),(12,[2,3]),(13,[4,16]),(14,[2,3]),(15,[4,18]),(16,[2,3]),(17,[4,20]),(18,[4,20]),(19,[20]),(20,[2,3]),(21,[2,3])]),
 (85,[(0,[0]),(1,[0,5,6,7]),(2,[0,5,6,7,8]),(3,[0,3,4,5,6,7]),(4,[0,5,6,7,20]),(5,[2]),(6,[0,5,6,7]),(7,[2])]),
 (86,[(0,[0,1]),(1,[0,1,10]),(2,[4]),(3,[0,1,12,13]),(4,[0,1,12,13,14]),(5,[0,1,5,12,13]),(6,[0,1,12,13,24]),(7,[4]),(8,[0,1,12,13]),(9,[4])]),
 (87,[(0,[0,1]),(1,[4])]),
 (88,[(0,[0]),(1,[2])]),
 (89,[(0,[0,1,12,13,14]),(1,[0,1,12,13,14,15]),(2,[0,1,4,12,13,14]),(3,[0,1,12,13,14,19,20,21]),(4,[0,1,12,13,14,19,20,21,22]),(5,[0,1,6,12,13,14,19,20,21]),(6,[0,1,12,13,14,19,20,21,28]),(7,[0,1,12,13,14,19,20,21]),(8,[0,1,12,13,14]),(9,[0,32,33,34]),(10,[0,32,33,34,35]),(11,[0,8,32,33,34]),(12,[0,32,33,34,39,40,41]),(13,[0,32,33,34,39,40,41,42]),(14,[0,10,32,33,34,39,40,41]),(15,[0,32,33,34,39,40,41,48]),(16,[0,32,33,34,39,40,41]),(17,[0,32,33,34])]),
 (90,[(0,[0,1]),(1,[0,1,7,8]),(2,[0,1,7,8,9]),(3,[0,1,5,7,8]),(4,[0,1,5,7,8,16]),(5,[4]),(6,[0,1,7,8]),(7,[4])]),
 (91,[(0,[0,1]),(1,[6,7]),(2,[4,5]),(3,[8,9]),(4,[4,5])]),
 (92,[(0,[0,1,2]),(1,[6])]),
 (93,[(0,[0]),(1,[0,3]),(2,[0,3,7]),(3,[0,3]),(4,[0,3,24]),(5,[2]),(6,[2])]),
 (94,[(0,[1]),(1,[1,3]),(2,[2])]),
 (95,[(0,[2,3]),(1,[4])]),
 (96,[(0,[1,2]),(1,[1,2,5]),(2,[1,2,5,10]),(3,[1,2,5]),(4,[1,2,5,20]),(5,[4]),(6,[4])]),
 (97,[(0,[0,1]),(1,[0,1,10]),(2,[4]),(3,[0,1,5]),(4,[0,1,5,14]),(5,[0,1,5]),(6,[0,1,5,25]),(7,[4]),(8,[4])]),
 (98,[(0,[0,1]),(1,[0,1,7,8]),(2,[0,1,7,8,9]),(3,[0,1,5,7,8]),(4,[0,1,5,7,8,16]),(5,[4]),(6,[0,1,7,8]),(7,[4])]),
 (99,[(0,[0,1]),(1,[4])]),
 (100,[(0,[0,1]),(1,[6]),(2,[4,5])]),
 (101,[(0,[0,1]),(1,[0,1,6]),(2,[0,1,6,7]),(3,[0,1,6,7,8]),(4,[0,1,6,7,8,9]),(5,[0,1,6,7,8,9,10]),(6,[0,1,6,7,9,11]),(7,[0,1,6,7,9,11,12]),(8,[0,1,6,7,9,12,13]),(9,[0,1,7,9,12,13]),(10,[0,1,4]),(11,[4,5])]),
 (102,[(0,[0,1]),(1,[0,1,5]),(2,[0,1,5,9]),(3,[0,1,5]),(4,[0,1,5,17]),(5,[4]),(6,[4])]),
 (103,[(0,[1]),(1,[1,6]),(2,[1,3]),(3,[2]),(4,[1,18]),(5,[2]),(6,[1,20]),(7,[1,20,21]),(8,[1,20,21]),(9,[2]),(10,[1,20,27]),(11,[2]),(12,[1,20,37]),(13,[2]),(14,[1,20,47]),(15,[2]),(16,[1,57]),(17,[2]),(18,[2])]),
 (104,[(0,[0,1]),(1,[0,1,10]),(2,[4]),(3,[0,1,5]),(4,[0,1,5,14]),(5,[0,1,5]),(6,[0,1,5,25]),(7,[4]),(8,[4])]),
 (105,[(0,[0,1,2]),(1,[1,2,10]),(2,[1,2,10,11,12]),(3,[1,2,7,8,10]),(4,[1,2,7,10,19]),(5,[6]),(6,[6])]),
 (106,[(0,[0]),(1,[0,3]),(2,[0,3,7]),(3,[0,3]),(4,[0,3,19]),(5,[2]),(6,[2])]),
 (123,[(0,[]),(1,[4])]),
 (124,[(0,[2,3]),(1,[4])]),
 (125,[(0,[1,2]),(1,[3])]),
 (126,[(0,[2]),(1,[4])]),
 (127,[(0,[1]),(1,[2])])
]
noncomputable def fnL:List (Nat×Func):=[(3,Tryd.f3),(4,Tryd.f4),(5,Tryd.f5),(6,Tryd.f6),(7,Tryd.f7),(8,Tryd.f8),(9,Tryd.f9),(10,Tryd.f10),(11,Tryd.f11),(12,Tryd.f12),(13,Tryd.f13),(14,Tryd.f14),(15,Tryd.f15),(16,Tryd.f16),(17,Tryd.f17),(18,Tryd.f18),(19,Tryd.f19),(20,Tryd.f20),(21,Tryd.f21),(22,Tryd.f22),(23,Tryd.f23),(24,Tryd.f24),(25,Tryd.f25),(26,Tryd.f26),(27,Tryd.f27),(28,Tryd.f28),(29,Tryd.f29),(30,Tryd.f30),(31,Tryd.f31),(32,Tryd.f32),(33,Tryd.f33),(34,Tryd.f34),(35,Tryd.f35),(36,Tryd.f36),(37,Tryd.f37),(38,Tryd.f38),(39,Tryd.f39),(40,Tryd.f40),(41,Tryd.f41),(42,Tryd.f42),(43,Tryd.f43),(44,Tryd.f44),(45,Tryd.f45),(46,Tryd.f46),(47,Tryd.f47),(48,Tryd.f48),(49,Tryd.f49),(50,Tryd.f50),(51,Tryd.f51),(52,Tryd.f52),(53,Tryd.f53),(54,Tryd.f54),(55,Tryd.f55),(56,Tryd.f56),(57,Tryd.f57),(58,Tryd.f58),(59,Tryd.f59),(60,Tryd.f60),(61,Tryd.f61),(62,Tryd.f62),(63,Tryd.f63),(64,Tryd.f64),(65,Tryd.f65),(66,Tryd.f66),(67,Tryd.f67),(68,Tryd.f68),(69,Tryd.f69),(70,Tryd.f70),(71,Tryd.f71),(72,Tryd.f72),(73,Tryd.f73),(74,Tryd.f74),(75,Tryd.f75),(76,Tryd.f76),(77,Tryd.f77),(78,Tryd.f78),(79,Tryd.f79),(80,Tryd.f80),(81,Tryd.f81),(82,Tryd.f82),(83,Tryd.f83),(84,Tryd.f84),(85,Tryd.f85),(86,Tryd.f86),(87,Tryd.f87),(88,Tryd.f88),(89,Tryd.f89),(90,Tryd.f90),(91,Tryd.f91),(92,Tryd.f92),(93,Tryd.f93),(94,Tryd.f94),(95,Tryd.f95),(96,Tryd.f96),(97,Tryd.f97),(98,Tryd.f98),(99,Tryd.f99),(100,Tryd.f100),(101,Tryd.f101),(102,Tryd.f102),(103,Tryd.f103),(104,Tryd.f104),(105,Tryd.f105),(106,Tryd.f106),(123,Tryd.f123),(124,Tryd.f124),(125,Tryd.f125),(126,Tryd.f126),(127,Tryd.f127)]
noncomputable def fnF (f:FuncId):Option Func:=findF f fnL
noncomputable def U5 (f:FuncId) (r:Nat):Option (List Tmp):=match findF f YI with
 | some l=>findF r l
 | none=>none
def Zv:List (Nat×Nat):=[(19,4),(20,1),(21,1),(22,1),(23,4),(34,1),(42,1),(64,1),(65,1),(71,1),(89,1),(36,5),(37,5),(24,1),(30,1),(52,1),(55,1),(68,1),(69,1),(31,1),(43,2),(44,2),(45,2),(46,2),(47,2),(48,2)]
def Zx:List Nat:=[45]
noncomputable def hints:Hint:=⟨U5,fun f=>match findF f Zv with
 | some m=>m
 | none=>0,fun t=>oS t Zx⟩
theorem Xe:∀ x∈tyL,cW Tryd.prog x.1 x.2:=
 List.forall_mem_cons.2 ⟨⟨by kernel_rfl,by kernel_rfl,by kernel_rfl⟩,
 List.forall_mem_cons.2 ⟨⟨by kernel_rfl,by kernel_rfl,by kernel_rfl⟩,
 List.forall_mem_cons.2 ⟨⟨by kernel_rfl,by kernel_rfl,by kernel_rfl⟩,
 List.forall_mem_cons.2 ⟨⟨by kernel_rfl,by kernel_rfl,by kernel_rfl⟩,
 List.forall_mem_cons.2 ⟨⟨by kernel_rfl,by kernel_rfl,by kernel_rfl⟩,
 List.forall_mem_cons.2 ⟨⟨by kernel_rfl,by kernel_rfl,by kernel_rfl⟩,
 List.forall_mem_cons.2 ⟨⟨by kernel_rfl,by kernel_rfl,by kernel_rfl⟩,
 List.forall_mem_cons.2 ⟨⟨by kernel_rfl,by kernel_rfl,by kernel_rfl⟩,
 List.forall_mem_cons.2 ⟨⟨by kernel_rfl,by kernel_rfl,by kernel_rfl⟩,
 List.forall_mem_cons.2 ⟨⟨by kernel_rfl,by kernel_rfl,by kernel_rfl⟩,
 List.forall_mem_cons.2 ⟨⟨by kernel_rfl,by kernel_rfl,by kernel_rfl⟩,
 List.forall_mem_cons.2 ⟨⟨by kernel_rfl,by kernel_rfl,by kernel_rfl⟩,
 List.forall_mem_cons.2 ⟨⟨by kernel_rfl,by kernel_rfl,by kernel_rfl⟩,
 List.forall_mem_cons.2 ⟨⟨by kernel_rfl,by kernel_rfl,by kernel_rfl⟩,
 List.forall_mem_cons.2 ⟨⟨by kernel_rfl,by kernel_rfl,by kernel_rfl⟩,
 List.forall_mem_cons.2 ⟨⟨by kernel_rfl,by kernel_rfl,by kernel_rfl⟩,
 List.forall_mem_cons.2 ⟨⟨by kernel_rfl,by kernel_rfl,by kernel_rfl⟩,
 List.forall_mem_cons.2 ⟨⟨by kernel_rfl,by kernel_rfl,by kernel_rfl⟩,
 List.forall_mem_cons.2 ⟨⟨by kernel_rfl,by kernel_rfl,by kernel_rfl⟩,
 List.forall_mem_cons.2 ⟨⟨by kernel_rfl,by kernel_rfl,by kernel_rfl⟩,
 List.forall_mem_cons.2 ⟨⟨by kernel_rfl,by kernel_rfl,by kernel_rfl⟩,
 List.forall_mem_cons.2 ⟨⟨by kernel_rfl,by kernel_rfl,by kernel_rfl⟩,
 List.forall_mem_cons.2 ⟨⟨by kernel_rfl,by kernel_rfl,by kernel_rfl⟩,
 List.forall_mem_cons.2 ⟨⟨by kernel_rfl,by kernel_rfl,by kernel_rfl⟩,
 List.forall_mem_cons.2 ⟨⟨by kernel_rfl,by kernel_rfl,by kernel_rfl⟩,
 List.forall_mem_cons.2 ⟨⟨by kernel_rfl,by kernel_rfl,by kernel_rfl⟩,
 List.forall_mem_cons.2 ⟨⟨by kernel_rfl,by kernel_rfl,by kernel_rfl⟩,
 List.forall_mem_cons.2 ⟨⟨by kernel_rfl,by kernel_rfl,by kernel_rfl⟩,
 List.forall_mem_cons.2 ⟨⟨by kernel_rfl,by kernel_rfl,by kernel_rfl⟩,
 List.forall_mem_cons.2 ⟨⟨by kernel_rfl,by kernel_rfl,by kernel_rfl⟩,
 List.forall_mem_cons.2 ⟨⟨by kernel_rfl,by kernel_rfl,by kernel_rfl⟩,
 List.forall_mem_cons.2 ⟨⟨by kernel_rfl,by kernel_rfl,by kernel_rfl⟩,
 List.forall_mem_cons.2 ⟨⟨by kernel_rfl,by kernel_rfl,by kernel_rfl⟩,
 List.forall_mem_cons.2 ⟨⟨by kernel_rfl,by kernel_rfl,by kernel_rfl⟩,
 List.forall_mem_cons.2 ⟨⟨by kernel_rfl,by kernel_rfl,by kernel_rfl⟩,
 List.forall_mem_cons.2 ⟨⟨by kernel_rfl,by kernel_rfl,by kernel_rfl⟩,
 List.forall_mem_cons.2 ⟨⟨by kernel_rfl,by kernel_rfl,by kernel_rfl⟩,
 List.forall_mem_cons.2 ⟨⟨by kernel_rfl,by kernel_rfl,by kernel_rfl⟩,
 List.forall_mem_cons.2 ⟨⟨by kernel_rfl,by kernel_rfl,by kernel_rfl⟩,
 List.forall_mem_cons.2 ⟨⟨by kernel_rfl,by kernel_rfl,by kernel_rfl⟩,
 List.forall_mem_cons.2 ⟨⟨by kernel_rfl,by kernel_rfl,by kernel_rfl⟩,
 List.forall_mem_cons.2 ⟨⟨by kernel_rfl,by kernel_rfl,by kernel_rfl⟩,
 List.forall_mem_cons.2 ⟨⟨by kernel_rfl,by kernel_rfl,by kernel_rfl⟩,
 List.forall_mem_cons.2 ⟨⟨by kernel_rfl,by kernel_rfl,by kernel_rfl⟩,
 List.forall_mem_cons.2 ⟨⟨by kernel_rfl,by kernel_rfl,by kernel_rfl⟩,
 List.forall_mem_nil _⟩⟩⟩⟩⟩⟩⟩⟩⟩⟩⟩⟩⟩⟩⟩⟩⟩⟩⟩⟩⟩⟩⟩⟩⟩⟩⟩⟩⟩⟩⟩⟩⟩⟩⟩⟩⟩⟩⟩⟩⟩⟩⟩⟩⟩
theorem wh:dV Tryd.prog pN:=⟨fun t y h=>Xe (t,y) (mP h),Wt⟩
theorem U9:∀ x∈fnL,Tryd.prog.funcs[x.1]?=some x.2∧(x.2.name == "runtime.NumGoroutine")=false:=
 List.forall_mem_cons.2 ⟨⟨Tryd.func3,by kernel_rfl⟩,
 List.forall_mem_cons.2 ⟨⟨Tryd.func4,by kernel_rfl⟩,
 List.forall_mem_cons.2 ⟨⟨Tryd.func5,by kernel_rfl⟩,
 List.forall_mem_cons.2 ⟨⟨Tryd.func6,by kernel_rfl⟩,
 List.forall_mem_cons.2 ⟨⟨Tryd.func7,by kernel_rfl⟩,
 List.forall_mem_cons.2 ⟨⟨Tryd.func8,by kernel_rfl⟩,
 List.forall_mem_cons.2 ⟨⟨Tryd.func9,by kernel_rfl⟩,
 List.forall_mem_cons.2 ⟨⟨Tryd.func10,by kernel_rfl⟩,
 List.forall_mem_cons.2 ⟨⟨Tryd.func11,by kernel_rfl⟩,
 List.forall_mem_cons.2 ⟨⟨Tryd.func12,by kernel_rfl⟩,
 List.forall_mem_cons.2 ⟨⟨Tryd.func13,by kernel_rfl⟩,
 List.forall_mem_cons.2 ⟨⟨Tryd.func14,by kernel_rfl⟩,
 List.forall_mem_cons.2 ⟨⟨Tryd.func15,by kernel_rfl⟩,
 List.forall_mem_cons.2 ⟨⟨Tryd.func16,by kernel_rfl⟩,
 List.forall_mem_cons.2 ⟨⟨Tryd.func17,by kernel_rfl⟩,
 List.forall_mem_cons.2 ⟨⟨Tryd.func18,by kernel_rfl⟩,
 List.forall_mem_cons.2 ⟨⟨Tryd.func19,by kernel_rfl⟩,
 List.forall_mem_cons.2 ⟨⟨Tryd.func20,by kernel_rfl⟩,
 List.forall_mem_cons.2 ⟨⟨Tryd.func21,by kernel_rfl⟩,
 List.forall_mem_cons.2 ⟨⟨Tryd.func22,by kernel_rfl⟩,
 List.forall_mem_cons.2 ⟨⟨Tryd.func23,by kernel_rfl⟩,
 List.forall_mem_cons.2 ⟨⟨Tryd.func24,by kernel_rfl⟩,
 List.forall_mem_cons.2 ⟨⟨Tryd.func25,by kernel_rfl⟩,
 List.forall_mem_cons.2 ⟨⟨Tryd.func26,by kernel_rfl⟩,
 List.forall_mem_cons.2 ⟨⟨Tryd.func27,by kernel_rfl⟩,
 List.forall_mem_cons.2 ⟨⟨Tryd.func28,by kernel_rfl⟩,
 List.forall_mem_cons.2 ⟨⟨Tryd.func29,by kernel_rfl⟩,
 List.forall_mem_cons.2 ⟨⟨Tryd.func30,by kernel_rfl⟩,
 List.forall_mem_cons.2 ⟨⟨Tryd.func31,by kernel_rfl⟩,
 List.forall_mem_cons.2 ⟨⟨Tryd.func32,by kernel_rfl⟩,
 List.forall_mem_cons.2 ⟨⟨Tryd.func33,by kernel_rfl⟩,
 List.forall_mem_cons.2 ⟨⟨Tryd.func34,by kernel_rfl⟩,
 List.forall_mem_cons.2 ⟨⟨Tryd.func35,by kernel_rfl⟩,
 List.forall_mem_cons.2 ⟨⟨Tryd.func36,by kernel_rfl⟩,
 List.forall_mem_cons.2 ⟨⟨Tryd.func37,by kernel_rfl⟩,
 List.forall_mem_cons.2 ⟨⟨Tryd.func38,by kernel_rfl⟩,
 List.forall_mem_cons.2 ⟨⟨Tryd.func39,by kernel_rfl⟩,
 List.forall_mem_cons.2 ⟨⟨Tryd.func40,by kernel_rfl⟩,
 List.forall_mem_cons.2 ⟨⟨Tryd.func41,by kernel_rfl⟩,
 List.forall_mem_cons.2 ⟨⟨Tryd.func42,by kernel_rfl⟩,
 List.forall_mem_cons.2 ⟨⟨Tryd.func43,by kernel_rfl⟩,
 List.forall_mem_cons.2 ⟨⟨Tryd.func44,by kernel_rfl⟩,
 List.forall_mem_cons.2 ⟨⟨Tryd.func45,by kernel_rfl⟩,
 List.forall_mem_cons.2 ⟨⟨Tryd.func46,by kernel_rfl⟩,
 List.forall_mem_cons.2 ⟨⟨Tryd.func47,by kernel_rfl⟩,
 List.forall_mem_cons.2 ⟨⟨Tryd.func48,by kernel_rfl⟩,
 List.forall_mem_cons.2 ⟨⟨Tryd.func49,by kernel_rfl⟩,
 List.forall_mem_cons.2 ⟨⟨Tryd.func50,by kernel_rfl⟩,
 List.forall_mem_cons.2 ⟨⟨Tryd.func51,by kernel_rfl⟩,
 List.forall_mem_cons.2 ⟨⟨Tryd.func52,by kernel_rfl⟩,
 List.forall_mem_cons.2 ⟨⟨Tryd.func53,by kernel_rfl⟩,
 List.forall_mem_cons.2 ⟨⟨Tryd.func54,by kernel_rfl⟩,
 List.forall_mem_cons.2 ⟨⟨Tryd.func55,by kernel_rfl⟩,
 List.forall_mem_cons.2 ⟨⟨Tryd.func56,by kernel_rfl⟩,
 List.forall_mem_cons.2 ⟨⟨Tryd.func57,by kernel_rfl⟩,
 List.forall_mem_cons.2 ⟨⟨Tryd.func58,by kernel_rfl⟩,
 List.forall_mem_cons.2 ⟨⟨Tryd.func59,by kernel_rfl⟩,
 List.forall_mem_cons.2 ⟨⟨Tryd.func60,by kernel_rfl⟩,
 List.forall_mem_cons.2 ⟨⟨Tryd.func61,by kernel_rfl⟩,
 List.forall_mem_cons.2 ⟨⟨Tryd.func62,by kernel_rfl⟩,
 List.forall_mem_cons.2 ⟨⟨Tryd.func63,by kernel_rfl⟩,
 List.forall_mem_cons.2 ⟨⟨Tryd.func64,by kernel_rfl⟩,
 List.forall_mem_cons.2 ⟨⟨Tryd.func65,by kernel_rfl⟩,
 List.forall_mem_cons.2 ⟨⟨Tryd.func66,by kernel_rfl⟩,
 List.forall_mem_cons.2 ⟨⟨Tryd.func67,by kernel_rfl⟩,
 List.forall_mem_cons.2 ⟨⟨Tryd.func68,by kernel_rfl⟩,
 List.forall_mem_cons.2 ⟨⟨Tryd.func69,by kernel_rfl⟩,
 List.forall_mem_cons.2 ⟨⟨Tryd.func70,by kernel_rfl⟩,
 List.forall_mem_cons.2 ⟨⟨Tryd.func71,by kernel_rfl⟩,
 List.forall_mem_cons.2 ⟨⟨Tryd.func72,by kernel_rfl⟩,
 List.forall_mem_cons.2 ⟨⟨Tryd.func73,by kernel_rfl⟩,
 List.forall_mem_cons.2 ⟨⟨Tryd.func74,by kernel_rfl⟩,
 List.forall_mem_cons.2 ⟨⟨Tryd.func75,by kernel_rfl⟩,
 List.forall_mem_cons.2 ⟨⟨Tryd.func76,by kernel_rfl⟩,
 List.forall_mem_cons.2 ⟨⟨Tryd.func77,by kernel_rfl⟩,
 List.forall_mem_cons.2 ⟨⟨Tryd.func78,by kernel_rfl⟩,
 List.forall_mem_cons.2 ⟨⟨Tryd.func79,by kernel_rfl⟩,
 List.forall_mem_cons.2 ⟨⟨Tryd.func80,by kernel_rfl⟩,
 List.forall_mem_cons.2 ⟨⟨Tryd.func81,by kernel_rfl⟩,
 List.forall_mem_cons.2 ⟨⟨Tryd.func82,by kernel_rfl⟩,
 List.forall_mem_cons.2 ⟨⟨Tryd.func83,by kernel_rfl⟩,
 List.forall_mem_cons.2 ⟨⟨Tryd.func84,by kernel_rfl⟩,
 List.forall_mem_cons.2 ⟨⟨Tryd.func85,by kernel_rfl⟩,
 List.forall_mem_cons.2 ⟨⟨Tryd.func86,by kernel_rfl⟩,
 List.forall_mem_cons.2 ⟨⟨Tryd.func87,by kernel_rfl⟩,
 List.forall_mem_cons.2 ⟨⟨Tryd.func88,by kernel_rfl⟩,
 List.forall_mem_cons.2 ⟨⟨Tryd.func89,by kernel_rfl⟩,
 List.forall_mem_cons.2 ⟨⟨Tryd.func90,by kernel_rfl⟩,
 List.forall_mem_cons.2 ⟨⟨Tryd.func91,by kernel_rfl⟩,
 List.forall_mem_cons.2 ⟨⟨Tryd.func92,by kernel_rfl⟩,
 List.forall_mem_cons.2 ⟨⟨Tryd.func93,by kernel_rfl⟩,
 List.forall_mem_cons.2 ⟨⟨Tryd.func94,by kernel_rfl⟩,
 List.forall_mem_cons.2 ⟨⟨Tryd.func95,by kernel_rfl⟩,
 List.forall_mem_cons.2 ⟨⟨Tryd.func96,by kernel_rfl⟩,
 List.forall_mem_cons.2 ⟨⟨Tryd.func97,by kernel_rfl⟩,
 List.forall_mem_cons.2 ⟨⟨Tryd.func98,by kernel_rfl⟩,
 List.forall_mem_cons.2 ⟨⟨Tryd.func99,by kernel_rfl⟩,
 List.forall_mem_cons.2 ⟨⟨Tryd.func100,by kernel_rfl⟩,
 List.forall_mem_cons.2 ⟨⟨Tryd.func101,by kernel_rfl⟩,
 List.forall_mem_cons.2 ⟨⟨Tryd.func102,by kernel_rfl⟩,
 List.forall_mem_cons.2 ⟨⟨Tryd.func103,by kernel_rfl⟩,
 List.forall_mem_cons.2 ⟨⟨Tryd.func104,by kernel_rfl⟩,
 List.forall_mem_cons.2 ⟨⟨Tryd.func105,by kernel_rfl⟩,
 List.forall_mem_cons.2 ⟨⟨Tryd.func106,by kernel_rfl⟩,
 List.forall_mem_cons.2 ⟨⟨Tryd.func123,by kernel_rfl⟩,
 List.forall_mem_cons.2 ⟨⟨Tryd.func124,by kernel_rfl⟩,
 List.forall_mem_cons.2 ⟨⟨Tryd.func125,by kernel_rfl⟩,
 List.forall_mem_cons.2 ⟨⟨Tryd.func126,by kernel_rfl⟩,
 List.forall_mem_cons.2 ⟨⟨Tryd.func127,by kernel_rfl⟩,
 List.forall_mem_nil _⟩⟩⟩⟩⟩⟩⟩⟩⟩⟩⟩⟩⟩⟩⟩⟩⟩⟩⟩⟩⟩⟩⟩⟩⟩⟩⟩⟩⟩⟩⟩⟩⟩⟩⟩⟩⟩⟩⟩⟩⟩⟩⟩⟩⟩⟩⟩⟩⟩⟩⟩⟩⟩⟩⟩⟩⟩⟩⟩⟩⟩⟩⟩⟩⟩⟩⟩⟩⟩⟩⟩⟩⟩⟩⟩⟩⟩⟩⟩⟩⟩⟩⟩⟩⟩⟩⟩⟩⟩⟩⟩⟩⟩⟩⟩⟩⟩⟩⟩⟩⟩⟩⟩⟩⟩⟩⟩⟩⟩
theorem DJ:Iy Tryd.prog fnF:=fun f fn h=>U9 (f,fn) (mP h)
theorem mixed:Tryd.prog.follows .mixedOrders=true:=by kernel_rfl
end Go.Proofs.YtghfgcfabbbbbaaDoor
namespace Go.V
noncomputable section
structure Sq (α:Type) where
 n:Nat
 get:Nat→α
structure Ga where
 fn:Int
 line:Int
structure pZ where
 kind:Int
 n:Int
 s:ByteArray
structure aj where
 op:Int
 a:Int
 b:Int
 c:Int
 n:Int
 args:Sq Int
 k:pZ
 names:Sq ByteArray
 place:Ga
 exit:Int
 once:Bool
structure eV where
 fn:Int
 line:Int
 vars:Sq Int
structure iR where
 value:Int
 cls:Int
 names:Sq ByteArray
 items:Sq Int
structure ai where
 frames:Sq eV
 az:Sq iR
 back:Int
structure ae where
 place:Ga
 ins:Sq aj
 aa:Sq ai
def iI (n:Int):I:=.v (.int .i64 n)
def iS (s:ByteArray):I:=.v (.string s)
def iB (b:Bool):I:=.v (.bool b)
def U3 (l:List I):Nat→I:=List.rec (fun _=>.v (.bool false)) (fun x _ ih k=>Nat.rec x (fun m _=>ih m) k) l
def sJ {α:Type} (sz:Nat) (e:α→Nat→I) (s:Sq α):I:=.sl sz s.n fun i=>e (s.get i)
def b8 (n:Int):Nat→I:=fun _=>iI n
def eD (s:ByteArray):Nat→I:=fun _=>iS s
def aT (x:aj):List I:=[iI x.op,iI x.a,iI x.b,iI x.c,iI x.n,sJ 1 b8 x.args,iI x.k.kind,iI x.k.n,iS x.k.s,sJ 1 eD x.names,iI x.place.fn,iI x.place.line,iI x.exit,iB x.once]
def cy (x:aj):Nat→I:=U3 (aT x)
def kU (x:eV):List I:=[iI x.fn,iI x.line,sJ 1 b8 x.vars]
def ja (x:eV):Nat→I:=U3 (kU x)
def o4 (x:iR):List I:=[iI x.value,iI x.cls,sJ 1 eD x.names,sJ 1 b8 x.items]
def uJ (x:iR):Nat→I:=U3 (o4 x)
def bn (x:ai):List I:=[sJ 3 ja x.frames,sJ 4 uJ x.az,iI x.back]
def dS (x:ai):Nat→I:=U3 (bn x)
def cB (t:ae):List I:=[iI t.place.fn,iI t.place.line,sJ 14 cy t.ins,sJ 3 dS t.aa]
def Lh (v:pZ):List I:=[iI v.kind,iI v.n,iS v.s]
def gT (x:aj):D:=.a (lift (aT x))
def pD (x:ai):D:=.a (lift (bn x))
def bc (t:ae):D:=.a (lift (cB t))
def HW (v:pZ):D:=.a (lift (Lh v))
def eT {α:Type} (sz:Nat) (e:α→Nat→I) (s:Sq α):D:=.c (.im (sJ sz e s))
def Q3 (s:ByteArray):D:=.c (.im (iS s))
def dt (op a b c n e:Int):aj:=⟨op,a,b,c,n,⟨0,fun _=>0⟩,⟨0,0,⟨⟨[]⟩⟩⟩,⟨0,fun _=>⟨⟨[]⟩⟩⟩,⟨0,0⟩,e,false⟩
def iC (op a b c n e:Int):List C:=lift [iI op,iI a,iI b,iI c,iI n,.v (.slice none 0 0),iI 0,iI 0,iS ⟨⟨[]⟩⟩,.v (.slice none 0 0),iI 0,iI 0,iI e,iB false]
def cE (x:I):Int:=match x with
 | .v (.int .i64 n)=>n
 | _=>0
def WZ (x:I):ByteArray:=match x with
 | .v (.string s)=>s
 | _=>⟨⟨[]⟩⟩
def UP (x:I):Bool:=match x with
 | .v (.bool b)=>b
 | _=>false
def Ic {α:Type} (r:(Nat→I)→α) (x:I):Sq α:=match x with
 | .sl _ n get=>⟨n,fun i=>r (get i)⟩
 | _=>⟨0,fun _=>r fun _=>.v (.bool false)⟩
def rI (g:Nat→I):Int:=cE (g 0)
def rS (g:Nat→I):ByteArray:=WZ (g 0)
def jo (g:Nat→I):aj:=⟨cE (g 0),cE (g 1),cE (g 2),cE (g 3),cE (g 4),Ic rI (g 5),⟨cE (g 6),cE (g 7),WZ (g 8)⟩,Ic rS (g 9),⟨cE (g 10),cE (g 11)⟩,cE (g 12),UP (g 13)⟩
def VT (g:Nat→I):eV:=⟨cE (g 0),cE (g 1),Ic rI (g 2)⟩
def aa2 (g:Nat→I):iR:=⟨cE (g 0),cE (g 1),Ic rS (g 2),Ic rI (g 3)⟩
def o6 (g:Nat→I):ai:=⟨Ic VT (g 0),Ic aa2 (g 1),cE (g 2)⟩
def Wk (g:Nat→I):ae:=⟨⟨cE (g 0),cE (g 1)⟩,Ic jo (g 2),Ic o6 (g 3)⟩
def au2 (g:Nat→I):pZ:=⟨cE (g 0),cE (g 1),WZ (g 2)⟩
def cI (c:C):I:=match c with
 | .im x=>x
 | _=>.v (.bool false)
def nC (l:List C) (k:Nat):I:=match aV l k with
 | some c=>cI c
 | none=>.v (.bool false)
def gD (d:D):Nat→I:=match d with
 | .a l=>nC l
 | .c x=>fun _=>cI x
 | _=>fun _=>.v (.bool false)
def aD (ds:List D) (k:Nat):D:=match aV ds k with
 | some d=>d
 | none=>.t []
def aI (ds:List D) (k:Nat):Int:=rI (gD (aD ds k))
def aS (ds:List D) (k:Nat):ByteArray:=rS (gD (aD ds k))
def si (ds:List D) (k:Nat):aj:=jo (gD (aD ds k))
def Ei (ds:List D) (k:Nat):ai:=o6 (gD (aD ds k))
def gj (ds:List D) (k:Nat):ae:=Wk (gD (aD ds k))
def Rj (ds:List D) (k:Nat):pZ:=au2 (gD (aD ds k))
def OO (ds:List D) (k:Nat):Sq Int:=Ic rI (gD (aD ds k) 0)
def yB (ds:List D) (k:Nat):Sq ByteArray:=Ic rS (gD (aD ds k) 0)
end
section
variable {T:dY} {P:Program} {f:FuncId} {ds ds':List D} {rs aG:List ah} {d d':D}
theorem aB.le {E:Env} {av:Nat→Prop} {w:World}:∀ {ds ds':List D} {vs:List Value},aB aX ds ds'→aB (a7 E av w) ds vs→aB (a7 E av w) ds' vs
 | _,_,_,.nil,.nil=>.nil
 | _,_,_,.cons q k,.cons q' k'=>.cons (q _ _ _ _ q') (aB.le k k')
theorem cu.pre (h:cu T P f ds' rs d aG) (hd:aB aX ds ds'):cu T P f ds rs d aG:=
 ⟨h.out.1,fun N ay w0 sp sl df a w E vs hR hv=>h.out.2 N ay w0 sp sl df a w E vs hR (aB.le hd hv)⟩
theorem cu.post (h:cu T P f ds rs d aG) (hd:aX d d'):cu T P f ds rs d' aG:=
 ⟨h.out.1,fun N ay w0 sp sl df a w E vs hR hv=>(h.out.2 N ay w0 sp sl df a w E vs hR hv).mono fun e w' ⟨v,E',h1,h2,h3,h4⟩=>⟨v,E',h1,h2,h3,hd _ _ _ _ h4⟩⟩
end
theorem aO:(∀ b:Bool,(true||b)=true)∧(∀ b:Bool,(false||b)=b)∧(∀ b:Bool,(true&&b)=b)∧(∀ b:Bool,(false&&b)=false)∧((!true)=false)∧((!false)=true)∧(∀ b:Bool,(b||true)=true)∧(∀ b:Bool,(b||false)=b)∧(∀ b:Bool,(b&&true)=b)∧(∀ b:Bool,(b&&false)=false)∧(∀ (α:Type) (a b:α),cond true a b=a)∧(∀ (α:Type) (a b:α),cond false a b=b)∧(∀ b:Bool,(!(!b))=b):=by simp
theorem rc {x:ah} {l l':List ah} (h:aB aJ l l'):aB aJ (x::l) (x::l'):=.cons (aJ.refl _) h
theorem bV {sl l:aN} {t:Tmp} {d:D} (h:fc sl t=some d) (k:TY sl l):TY sl ((t,d,[])::l):=⟨⟨rfl,d,h,aX.refl _⟩,k⟩
theorem bg {m n:Nat} (h:Nat.ble m n=true):m≤n:=Nat.le_of_ble_eq_true h
def ci (n:Int):C:=.im (.v (.int .i64 n))
end Go.V
namespace Go.Proofs.YtghfgcfabbbbbaaDoor
open Go Go.V
abbrev LC:=cu pN Tryd.prog
abbrev WC:=xa pN Tryd.prog
noncomputable section
def CK (f:FuncId):Func:=match fnF f with
 | some fn=>fn
 | none=>default
def sN (f:FuncId):Code:=match (CK f).body with
 | some c=>c
 | none=>.skip
def qB (id:Nat) (c:Code):List Item→Option (List Item):=match c with
 | .region i ops d=>fun k=>Bool.rec none (some (.code (.region i ops d)::k)) (Nat.beq i id)
 | .seq a b=>fun k=>match qB id a (.code b::k) with
   | some l=>some l
   | none=>qB id b k
 | .cond x a b=>fun k=>match qB id a k with
   | some l=>some l
   | none=>qB id b k
 | .block i a=>fun k=>qB id a (.inBlock i::k)
 | .loop a=>fun k=>qB id a (.inLoop a::k)
 | _=>fun _=>none
def ag (f:FuncId) (id:Nat):List Item:=match qB id (sN f) [] with
 | some l=>l
 | none=>[]
abbrev LP:=List Item→VS→Prop
def fS (X:hX) (f:FuncId) (stop:Nat→Bool) (L:LP) (Q:D→List ah→Prop) (ds:List D) (rs:List ah):Prop:=
 uT pN Tryd.prog X hints (CK f).ntmps f none stop L (uo pN (CK f).results.toList Q) 10000 false [.code (sN f)] ⟨dN 0 ds,rs,[]⟩
def dq (X:hX) (f:FuncId) (stop:Nat→Bool) (L:LP) (Q:D→List ah→Prop) (id:Nat) (s:VS):Prop:=
 uT pN Tryd.prog X hints (CK f).ntmps f none stop L (uo pN (CK f).results.toList Q) 10000 true (ag f id) s
def X0:hX:={ F:=fun _ _ _=>(.t [],[],[]) }
def cw:Nat→Bool:=fun _=>false
end
open Go Go.V
def af (f:FuncId) (n0:Nat) (Q:D→List ah→Prop) (todo:List Item) (s:VS):Prop:=
 ∀ (b:Frame) (cs:List Frame),b.fn=f→Goal Tryd.prog pN (CK f).ntmps b cs none n0 (uo pN (CK f).results.toList Q) todo s
theorem reach {X:hX} {f:FuncId} {stop:Nat→Bool} {n0:Nat} {Q:D→List ah→Prop} {todo:List Item} {s:VS} {go:Bool} {n:Nat}
  (h:uT pN Tryd.prog X hints (CK f).ntmps f none stop (af f n0 Q) (uo pN (CK f).results.toList Q) n go todo s):af f n0 Q todo s:=
 fun b cs hb=>B5 wh mixed hb (fun _ _ q=>q b cs hb) (fun _ _ q=>q) n h
structure Fn (f:FuncId):Prop where
 pN:fnF f=some (CK f)
 body:(CK f).body=some (sN f)
theorem NK {f:FuncId} (hf:Fn f) {ds:List D} {d:D} (hl:ds.length≤(CK f).ntmps) (h:af f 0 (aW d) [.code (sN f)] ⟨dN 0 ds,[],[]⟩):LC f ds [] d []:=by
 obtain ⟨h1,h2⟩:=DJ f _ hf.pN
 exact Pu wh h1 h2 hf.body hl h
theorem je {f:FuncId} (hf:Fn f) {ds:List D} {rs:List ah} {d:D} {aG:List ah} (hl:ds.length≤(CK f).ntmps) (h:af f rs.length (Go.V.Ends rs d aG) [.code (sN f)] ⟨dN 0 ds,rs,[]⟩):LC f ds rs d aG:=by
 obtain ⟨h1,h2⟩:=DJ f _ hf.pN
 exact SS wh h1 h2 hf.body hl h
noncomputable def aZ (QD:D→Prop) (d1:D) (fT:List ah):Prop:=cV (bj fT d1) QD
theorem aU {X:hX} {f:FuncId} {stop:Nat→Bool} (hf:Fn f) {ds:List D} {d:D} (hl:ds.length≤(CK f).ntmps) (h:fS X f stop (af f 0 (aW d)) (aW d) ds []):LC f ds [] d []:=
 NK hf hl (reach h)
theorem mR {k:Nat} (h:k<9223372036854775808):IntKind.i64.wrap (k:Int)=k:=by
 have e1:(2 ^ IntKind.i64.bits:Int)=18446744073709551616:=by rfl
 have e2:(2 ^ (IntKind.i64.bits-1):Int)=9223372036854775808:=by rfl
 have e3:(k:Int)%18446744073709551616=k:=Int.emod_eq_of_lt (by omega) (by omega)
 unfold IntKind.wrap
 simp only [e1,e2,e3]
 rw [if_neg]
 simp only [dz,decide_eq_true_eq,not_and]
 omega
theorem ir {k:Int} (h0:0≤k) (h:k<9223372036854775808):IntKind.i64.wrap k=k:=by
 obtain ⟨n,rfl⟩:=Int.eq_ofNat_of_zero_le h0
 exact mR (by omega)
end Go.Proofs.YtghfgcfabbbbbaaDoor
set_option linter.unusedSimpArgs false
namespace Go.Proofs.YtghfgcfabbbbbaaDoor
open Go Go.V
noncomputable def II:hX:={ F:=X0.F }
noncomputable def fM (op:Int):Int:=
 bif op==3 then
  1
 else
  bif op==5 then
   1
  else
   bif op==6 then
    1
   else
    bif op==7 then
     1
    else
     bif op==8 then
      1
     else
      bif op==10 then
       1
      else
       bif op==14 then
        1
       else
        bif op==19 then
         1
        else
         bif op==4 then
          2
         else
          bif op==9 then
           2
          else
           bif op==12 then
            2
           else
            bif op==11 then
             2
            else
             bif op==13 then
              3
             else
              0
theorem au5 (L:LP) (QD:D→Prop) (op:Int) (h:br (op==3) (QD (int 1)) (br (op==5) (QD (int 1)) (br (op==6) (QD (int 1)) (br (op==7) (QD (int 1)) (br (op==8) (QD (int 1)) (br (op==10) (QD (int 1)) (br (op==14) (QD (int 1)) (br (op==19) (QD (int 1)) (br (op==4) (QD (int 2)) (br (op==9) (QD (int 2)) (br (op==12) (QD (int 2)) (br (op==11) (QD (int 2)) (br (op==13) (QD (int 3)) (QD (int 0))))))))))))))):fS II 70 cw L (aZ QD) [int op] []:=Eq.mp (by kernel_rfl) h
theorem ar1:Fn 70:=⟨by kernel_rfl,by kernel_rfl⟩
theorem Ug (op:Int)  : LC 70 [int op] [] (int (fM op)) []:=by
 refine aU (X:=II) (stop:=cw) ar1 (bg (by kernel_rfl)) (au5 _ _ op ?_)
 refine ak (fun h=>?_) (fun h=>?_)
 ·simp only [fM, *,cond_true,cond_false]; exact aX.refl _
 ·refine ak (fun h=>?_) (fun h=>?_)
  ·simp only [fM, *,cond_true,cond_false]; exact aX.refl _
  ·refine ak (fun h=>?_) (fun h=>?_)
   ·simp only [fM, *,cond_true,cond_false]; exact aX.refl _
   ·refine ak (fun h=>?_) (fun h=>?_)
    ·simp only [fM, *,cond_true,cond_false]; exact aX.refl _
    ·refine ak (fun h=>?_) (fun h=>?_)
     ·simp only [fM, *,cond_true,cond_false]; exact aX.refl _
     ·refine ak (fun h=>?_) (fun h=>?_)
      ·simp only [fM, *,cond_true,cond_false]; exact aX.refl _
      ·refine ak (fun h=>?_) (fun h=>?_)
       ·simp only [fM, *,cond_true,cond_false]; exact aX.refl _
       ·refine ak (fun h=>?_) (fun h=>?_)
        ·simp only [fM, *,cond_true,cond_false]; exact aX.refl _
        ·refine ak (fun h=>?_) (fun h=>?_)
         ·simp only [fM, *,cond_true,cond_false]; exact aX.refl _
         ·refine ak (fun h=>?_) (fun h=>?_)
          ·simp only [fM, *,cond_true,cond_false]; exact aX.refl _
          ·refine ak (fun h=>?_) (fun h=>?_)
           ·simp only [fM, *,cond_true,cond_false]; exact aX.refl _
           ·refine ak (fun h=>?_) (fun h=>?_)
            ·simp only [fM, *,cond_true,cond_false]; exact aX.refl _
            ·refine ak (fun h=>?_) (fun h=>?_)
             ·simp only [fM, *,cond_true,cond_false]; exact aX.refl _
             ·simp only [fM, *,cond_true,cond_false]; exact aX.refl _
noncomputable def uU (op:Int):Bool:=
 bif op==1 then
  true
 else
  bif op==2 then
   true
  else
   bif op==3 then
    true
   else
    bif op==4 then
     true
    else
     bif op==10 then
      true
     else
      bif op==12 then
       true
      else
       bif op==14 then
        true
       else
        bif op==16 then
         true
        else
         bif op==17 then
          true
         else
          false
theorem ak3 (L:LP) (QD:D→Prop) (op:Int) (h:br (op==1) (QD (bool true)) (br (op==2) (QD (bool true)) (br (op==3) (QD (bool true)) (br (op==4) (QD (bool true)) (br (op==10) (QD (bool true)) (br (op==12) (QD (bool true)) (br (op==14) (QD (bool true)) (br (op==16) (QD (bool true)) (br (op==17) (QD (bool true)) (QD (bool false))))))))))):fS II 35 cw L (aZ QD) [int op] []:=Eq.mp (by kernel_rfl) h
theorem ap8:Fn 35:=⟨by kernel_rfl,by kernel_rfl⟩
theorem Ut (op:Int)  : LC 35 [int op] [] (bool (uU op)) []:=by
 refine aU (X:=II) (stop:=cw) ap8 (bg (by kernel_rfl)) (ak3 _ _ op ?_)
 refine ak (fun h=>?_) (fun h=>?_)
 ·simp only [uU, *,cond_true,cond_false]; exact aX.refl _
 ·refine ak (fun h=>?_) (fun h=>?_)
  ·simp only [uU, *,cond_true,cond_false]; exact aX.refl _
  ·refine ak (fun h=>?_) (fun h=>?_)
   ·simp only [uU, *,cond_true,cond_false]; exact aX.refl _
   ·refine ak (fun h=>?_) (fun h=>?_)
    ·simp only [uU, *,cond_true,cond_false]; exact aX.refl _
    ·refine ak (fun h=>?_) (fun h=>?_)
     ·simp only [uU, *,cond_true,cond_false]; exact aX.refl _
     ·refine ak (fun h=>?_) (fun h=>?_)
      ·simp only [uU, *,cond_true,cond_false]; exact aX.refl _
      ·refine ak (fun h=>?_) (fun h=>?_)
       ·simp only [uU, *,cond_true,cond_false]; exact aX.refl _
       ·refine ak (fun h=>?_) (fun h=>?_)
        ·simp only [uU, *,cond_true,cond_false]; exact aX.refl _
        ·refine ak (fun h=>?_) (fun h=>?_)
         ·simp only [uU, *,cond_true,cond_false]; exact aX.refl _
         ·simp only [uU, *,cond_true,cond_false]; exact aX.refl _
noncomputable def jN (op:Int):Int:=
 bif op==3 then
  1
 else
  bif op==4 then
   1
  else
   bif op==5 then
    2
   else
    bif op==6 then
     2
    else
     bif op==7 then
      2
     else
      bif op==8 then
       2
      else
       bif op==9 then
        2
       else
        bif op==15 then
         2
        else
         bif op==18 then
          2
         else
          bif op==21 then
           2
          else
           0
theorem ab7 (L:LP) (QD:D→Prop) (op:Int) (h:br (op==3) (QD (int 1)) (br (op==4) (QD (int 1)) (br (op==5) (QD (int 2)) (br (op==6) (QD (int 2)) (br (op==7) (QD (int 2)) (br (op==8) (QD (int 2)) (br (op==9) (QD (int 2)) (br (op==15) (QD (int 2)) (br (op==18) (QD (int 2)) (br (op==21) (QD (int 2)) (QD (int 0)))))))))))):fS II 82 cw L (aZ QD) [int op] []:=Eq.mp (by kernel_rfl) h
theorem Zi:Fn 82:=⟨by kernel_rfl,by kernel_rfl⟩
theorem Xl (op:Int)  : LC 82 [int op] [] (int (jN op)) []:=by
 refine aU (X:=II) (stop:=cw) Zi (bg (by kernel_rfl)) (ab7 _ _ op ?_)
 refine ak (fun h=>?_) (fun h=>?_)
 ·simp only [jN, *,cond_true,cond_false]; exact aX.refl _
 ·refine ak (fun h=>?_) (fun h=>?_)
  ·simp only [jN, *,cond_true,cond_false]; exact aX.refl _
  ·refine ak (fun h=>?_) (fun h=>?_)
   ·simp only [jN, *,cond_true,cond_false]; exact aX.refl _
   ·refine ak (fun h=>?_) (fun h=>?_)
    ·simp only [jN, *,cond_true,cond_false]; exact aX.refl _
    ·refine ak (fun h=>?_) (fun h=>?_)
     ·simp only [jN, *,cond_true,cond_false]; exact aX.refl _
     ·refine ak (fun h=>?_) (fun h=>?_)
      ·simp only [jN, *,cond_true,cond_false]; exact aX.refl _
      ·refine ak (fun h=>?_) (fun h=>?_)
       ·simp only [jN, *,cond_true,cond_false]; exact aX.refl _
       ·refine ak (fun h=>?_) (fun h=>?_)
        ·simp only [jN, *,cond_true,cond_false]; exact aX.refl _
        ·refine ak (fun h=>?_) (fun h=>?_)
         ·simp only [jN, *,cond_true,cond_false]; exact aX.refl _
         ·refine ak (fun h=>?_) (fun h=>?_)
          ·simp only [jN, *,cond_true,cond_false]; exact aX.refl _
          ·simp only [jN, *,cond_true,cond_false]; exact aX.refl _
noncomputable def CV (op:Int):Bool:=
 bif op==2 then
  true
 else
  bif op==3 then
   true
  else
   bif op==4 then
    true
   else
    bif op==5 then
     true
    else
     bif op==6 then
      true
     else
      bif op==7 then
       true
      else
       bif op==8 then
        true
       else
        bif op==9 then
         true
        else
         bif op==10 then
          true
         else
          bif op==12 then
           true
          else
           bif op==14 then
            true
           else
            false
theorem ak1 (L:LP) (QD:D→Prop) (op:Int) (h:br (op==2) (QD (bool true)) (br (op==3) (QD (bool true)) (br (op==4) (QD (bool true)) (br (op==5) (QD (bool true)) (br (op==6) (QD (bool true)) (br (op==7) (QD (bool true)) (br (op==8) (QD (bool true)) (br (op==9) (QD (bool true)) (br (op==10) (QD (bool true)) (br (op==12) (QD (bool true)) (br (op==14) (QD (bool true)) (QD (bool false))))))))))))):fS II 81 cw L (aZ QD) [int op] []:=Eq.mp (by kernel_rfl) h
theorem at3:Fn 81:=⟨by kernel_rfl,by kernel_rfl⟩
theorem aa0 (op:Int)  : LC 81 [int op] [] (bool (CV op)) []:=by
 refine aU (X:=II) (stop:=cw) at3 (bg (by kernel_rfl)) (ak1 _ _ op ?_)
 refine ak (fun h=>?_) (fun h=>?_)
 ·simp only [CV, *,cond_true,cond_false]; exact aX.refl _
 ·refine ak (fun h=>?_) (fun h=>?_)
  ·simp only [CV, *,cond_true,cond_false]; exact aX.refl _
  ·refine ak (fun h=>?_) (fun h=>?_)
   ·simp only [CV, *,cond_true,cond_false]; exact aX.refl _
   ·refine ak (fun h=>?_) (fun h=>?_)
    ·simp only [CV, *,cond_true,cond_false]; exact aX.refl _
    ·refine ak (fun h=>?_) (fun h=>?_)
     ·simp only [CV, *,cond_true,cond_false]; exact aX.refl _
     ·refine ak (fun h=>?_) (fun h=>?_)
      ·simp only [CV, *,cond_true,cond_false]; exact aX.refl _
      ·refine ak (fun h=>?_) (fun h=>?_)
       ·simp only [CV, *,cond_true,cond_false]; exact aX.refl _
       ·refine ak (fun h=>?_) (fun h=>?_)
        ·simp only [CV, *,cond_true,cond_false]; exact aX.refl _
        ·refine ak (fun h=>?_) (fun h=>?_)
         ·simp only [CV, *,cond_true,cond_false]; exact aX.refl _
         ·refine ak (fun h=>?_) (fun h=>?_)
          ·simp only [CV, *,cond_true,cond_false]; exact aX.refl _
          ·refine ak (fun h=>?_) (fun h=>?_)
           ·simp only [CV, *,cond_true,cond_false]; exact aX.refl _
           ·simp only [CV, *,cond_true,cond_false]; exact aX.refl _
noncomputable def dv (n low high:Int):Bool:=
 bif decide (n≥low) then
  (decide (n≤high))
 else
  false
theorem ZE (L:LP) (QD:D→Prop) (n low high:Int) (h:br (decide (n≥low)) (QD (bool (decide (n≤high)))) (QD (bool false))):fS II 92 cw L (aZ QD) [int n,int low,int high] []:=Eq.mp (by kernel_rfl) h
theorem aa1:Fn 92:=⟨by kernel_rfl,by kernel_rfl⟩
theorem nh (n low high:Int)  : LC 92 [int n,int low,int high] [] (bool (dv n low high)) []:=by
 refine aU (X:=II) (stop:=cw) aa1 (bg (by kernel_rfl)) (ZE _ _ n low high ?_)
 refine ak (fun h=>?_) (fun h=>?_)
 ·simp only [dv, *,cond_true,cond_false]; exact aX.refl _
 ·simp only [dv, *,cond_true,cond_false]; exact aX.refl _
noncomputable def et (a m:Int):Int:=
 bif decide (a.tmod m<0) then
  (IntKind.i64.wrap (a.tmod m+m))
 else
  (a.tmod m)
theorem am8 (L:LP) (QD:D→Prop) (a m:Int) (h:nd (!m==0) (br (decide (a.tmod m<0)) (QD (int (IntKind.i64.wrap (a.tmod m+m)))) (QD (int (a.tmod m))))):fS II 25 cw L (aZ QD) [int a,int m] []:=Eq.mp (by kernel_rfl) h
theorem as2:Fn 25:=⟨by kernel_rfl,by kernel_rfl⟩
theorem jO (a m:Int) (hm:m≠0):LC 25 [int a,int m] [] (int (et a m)) []:=by
 refine aU (X:=II) (stop:=cw) as2 (bg (by kernel_rfl)) (am8 _ _ a m ?_)
 refine aw (by simp [hm]) ?_
 refine ak (fun h=>?_) (fun h=>?_)
 ·simp only [et, *,cond_true,cond_false]; exact aX.refl _
 ·simp only [et, *,cond_true,cond_false]; exact aX.refl _
noncomputable def H8 (x:aj):Bool:=
 (x.1 != 1)
theorem al8 (L:LP) (QD:D→Prop) (x:aj) (h:QD (bool (x.1 != 1))):fS II 59 cw L (aZ QD) [gT x] []:=Eq.mp (by kernel_rfl) h
theorem ai3:Fn 59:=⟨by kernel_rfl,by kernel_rfl⟩
theorem ae4 (x:aj)  : LC 59 [gT x] [] (bool (H8 x)) []:=by
 refine aU (X:=II) (stop:=cw) ai3 (bg (by kernel_rfl)) (al8 _ _ x ?_)
 simp only [H8, *,cond_true,cond_false]; exact aX.refl _
noncomputable def F1L:List (Nat×(List D→List ah→Out)):=[
 (70,fun ds rs=>(int (fM (aI ds 0)),[],[])),
 (35,fun ds rs=>(bool (uU (aI ds 0)),[],[])),
 (82,fun ds rs=>(int (jN (aI ds 0)),[],[])),
 (81,fun ds rs=>(bool (CV (aI ds 0)),[],[])),
 (92,fun ds rs=>(bool (dv (aI ds 0) (aI ds 1) (aI ds 2)),[],[])),
 (25,fun ds rs=>(int (et (aI ds 0) (aI ds 1)),[],[])),
 (59,fun ds rs=>(bool (H8 (si ds 0)),[],[]))]
noncomputable def F1:FuncId→List D→List ah→Out:=fun f ds rs=>match findF f F1L with
 | some g=>g ds rs
 | none=>X0.F f ds rs
open Go Go.V
theorem bA {X:hX} {f:FuncId} {stop:Nat→Bool} {n0:Nat} {Q:D→List ah→Prop} {id:Nat} {s:VS} (h:dq X f stop (af f n0 Q) Q id s):af f n0 Q (ag f id) s:=reach h
theorem ig {X:hX} {f:FuncId} {stop:Nat→Bool} {n0:Nat} {Q:D→List ah→Prop} {ds:List D} {rs:List ah} (h:fS X f stop (af f n0 Q) Q ds rs):af f n0 Q [.code (sN f)] ⟨dN 0 ds,rs,[]⟩:=reach h
theorem aH {X:hX} {f:FuncId} {stop:Nat→Bool} {n0:Nat} {d:D} {id:Nat} {s:VS} (h:dq X f stop (af f n0 (aW d)) (aZ fun d2=>aX d2 d) id s):af f n0 (aW d) (ag f id) s:=reach h
theorem Fn.enters {f:FuncId} (hf:Fn f):V.Enters Tryd.prog f:=by
 obtain ⟨h1,h2⟩:=DJ f _ hf.pN
 exact ⟨_,h1,h2,by simp [hf.body]⟩
theorem cu.with {f:FuncId} (hf:Fn f) {ds:List D} {rs aG:List ah} {d:D} {p:Prop} (hp:∀ (E:Env) (av:Nat→Prop) (w:World) (vs:List Value),aB (a7 E av w) ds vs→p) (h:p→LC f ds rs d aG):LC f ds rs d aG:=
 ⟨hf.enters,fun N ay w0 sp sl df a w E vs hR hv=>(h (hp _ _ _ _ hv)).out.2 N ay w0 sp sl df a w E vs hR hv⟩
theorem jc {α:Type} {E:Env} {av:Nat→Prop} {w:World} {sz:Nat} {e:α→Nat→I} {x:Sq α} {v:Value} (h:a7 E av w (eT sz e x) v):x.n≤maxLen:=by
 obtain ⟨_,_,_,_,h,_⟩:=h
 exact h
theorem af.le {f:FuncId} {n0:Nat} {Q:D→List ah→Prop} {todo:List Item} {s:VS} (s':VS) (h1:TY s.sl s'.sl) (h2:aB aJ s.rs s'.rs) (h3:s'.df=s.df) (g:af f n0 Q todo s'):af f n0 Q todo s:=
 fun b cs hb=>Goal.le h1 h2 h3 (g b cs hb)
theorem af.xJ {f:FuncId} {n0:Nat} {Q:D→List ah→Prop} {todo:List Item} {s:VS} (t el sz:Nat) (ht:fc s.sl t=some (.c (.im (.v (.slice none 0 0))))) (g:af f n0 Q todo (Hz t el sz s)):af f n0 Q todo s:=
 fun b cs hb=>Goal.xJ ht (g b cs hb)
theorem af.iz {f:FuncId} {n0:Nat} {Q:D→List ah→Prop} {todo:List Item} {s:VS} (r j el sz:Nat) (l:List C) (hr:aV s.rs r=some (.box l)) (hj:aV l j=some (.im (.v (.slice none 0 0)))) (g:af f n0 Q todo (M5 r j el sz l s)):af f n0 Q todo s:=
 fun b cs hb=>Goal.iz hr hj (g b cs hb)
theorem af.freeze {f:FuncId} {n0:Nat} {Q:D→List ah→Prop} {todo:List Item} {s s':VS} (r:Nat) (h:Go.V.freeze r s=some s') (g:af f n0 Q todo s'):af f n0 Q todo s:=
 fun b cs hb=>Goal.freeze h (g b cs hb)
theorem af.rename {f:FuncId} {n0:Nat} {Q:D→List ah→Prop} {todo:List Item} {s s':VS} (π:List Nat) (h:N6 n0 π s=some s') (g:af f n0 Q todo s'):af f n0 Q todo s:=
 fun b cs hb=>Goal.rename π h (g b cs hb)
theorem aL {n:Nat} {G:Nat→Prop} (step:∀ k,k<n→G (k+1)→G k) (last:G n):∀ k,k≤n→G k:=by
 intro k hk
 obtain ⟨m,rfl⟩:=Nat.exists_eq_add_of_le hk
 clear hk
 induction m generalizing k with
 | zero=>exact last
 | succ m ih=>
   have e:k+(m+1)=(k+1)+m:=by omega
   exact step k (by omega) (ih (k+1) (fun j hj=>step j (by omega)) (by rw [← e]; exact last))
theorem bR {k n:Nat} (h:k<n) (hn:n≤maxLen):IntKind.i64.wrap ((k:Int)+1)=((k+1:Nat):Int):=by
 have:((k:Int)+1)=((k+1:Nat):Int):=by omega
 rw [this]
 unfold maxLen at hn
 exact mR (by omega)
theorem aA {k n:Nat} (h:k<n):cd (k:Int) n=true:=by
 show Nat.blt k n=true
 simpa [cD] using h
theorem dec_lt {a b:Nat} (h:decide ((a:Int)<(b:Int))=false):¬ a<b:=by
 have:=of_decide_eq_false h
 omega
def gu (p:Nat→Bool):Nat→Nat→Int
 | 0,_ => -1
 | m+1,k=>bif p k then (k:Int) else gu p m (k+1)
def cU (p:Nat→Bool) (n:Nat):Int:=gu p n 0
def nP (p:Nat→Bool):Nat→Nat→Nat
 | 0,k=>k
 | m+1,k=>bif p k then k else nP p m (k+1)
theorem KL {p:Nat→Bool} {m k:Nat} (h:p k=true):nP p (m+1) k=k:=by simp [nP,h]
theorem Hs {p:Nat→Bool} {m k:Nat} (h:p k=false):nP p (m+1) k=nP p m (k+1):=by simp [nP,h]
theorem Jm {p:Nat→Bool}:∀ {m k:Nat},(bif decide (gu p m k<0) then ((k+m:Nat):Int) else gu p m k)=(nP p m k:Int)
 | 0,k=>by simp [gu,nP]
 | m+1,k=>by
   cases hp:p k with
   | true=>
     have:¬ ((k:Int)<0):=by omega
     simp [gu,nP,hp,this]
   | false=>
     have:=Jm (p:=p) (m:=m) (k:=k+1)
     simp only [gu,nP,hp,cond_false]
     rw [← this,show k+(m+1)=k+1+m by omega]
def bS (p:Nat→Bool):Nat→Nat→Bool
 | 0,_=>true
 | m+1,k=>bif p k then bS p m (k+1) else false
def dn (p:Nat→Bool) (n:Nat):Bool:=bS p n 0
theorem xR {p:Nat→Bool}:∀ {m k:Nat},(gu p m k = -1∧∀ i,k≤i→i<k+m→p i=false)∨∃ i:Nat,gu p m k=(i:Int)∧k≤i∧i<k+m∧p i=true∧∀ j,k≤j→j<i→p j=false
 | 0,k=>.inl ⟨rfl,fun i h1 h2=>by omega⟩
 | m+1,k=>by
   unfold gu
   cases hp:p k with
   | true=>exact .inr ⟨k,rfl,by omega,by omega,hp,fun j h1 h2=>by omega⟩
   | false=>
     simp only [cond_false]
     rcases xR (p:=p) (m:=m) (k:=k+1) with ⟨h1,h2⟩|⟨i,h1,h2,h3,h4,h5⟩
     ·refine .inl ⟨h1,fun i h3 h4=>?_⟩
      by_cases e:i=k
      ·subst e; exact hp
      ·exact h2 i (by omega) (by omega)
     ·refine .inr ⟨i,h1,by omega,by omega,h4,fun j h6 h7=>?_⟩
      by_cases e:j=k
      ·subst e; exact hp
      ·exact h5 j (by omega) h7
theorem te (p:Nat→Bool) (n:Nat):(cU p n = -1∧∀ i,i<n→p i=false)∨∃ i:Nat,cU p n=(i:Int)∧i<n∧p i=true∧∀ j,j<i→p j=false:=by
 rcases xR (p:=p) (m:=n) (k:=0) with ⟨h1,h2⟩|⟨i,h1,h2,h3,h4,h5⟩
 ·exact .inl ⟨h1,fun i hi=>h2 i (bu _) (by omega)⟩
 ·exact .inr ⟨i,h1,by omega,h4,fun j hj=>h5 j (bu _) hj⟩
theorem Ab {p:Nat→Bool}:∀ {m k:Nat},bS p m k=true↔∀ i,k≤i→i<k+m→p i=true
 | 0,k=>⟨fun _ i h1 h2=>by omega,fun _=>rfl⟩
 | m+1,k=>by
   unfold bS
   cases hp:p k with
   | false=>
     simp only [cond_false]
     exact ⟨fun h=>by simp at h,fun h=>by rw [h k (bk _) (by omega)] at hp; simp at hp⟩
   | true=>
     simp only [cond_true]
     rw [Ab]
     refine ⟨fun h i h1 h2=>?_,fun h i h1 h2=>h i (by omega) (by omega)⟩
     by_cases e:i=k
     ·subst e; exact hp
     ·exact h i (by omega) (by omega)
theorem la {p:Nat→Bool} {n:Nat}:dn p n=true↔∀ i,i<n→p i=true:=by
 unfold dn
 rw [Ab]
 exact ⟨fun h i hi=>h i (bu _) (by omega),fun h i _ hi=>h i (by omega)⟩
theorem gY {p:Nat→Bool} {m k:Nat} (h:p k=true):gu p (m+1) k=(k:Int):=by simp [gu,h]
theorem fI {p:Nat→Bool} {m k:Nat} (h:p k=false):gu p (m+1) k=gu p m (k+1):=by simp [gu,h]
theorem cO {p:Nat→Bool} {m k:Nat} (h:p k=false):bS p (m+1) k=false:=by simp [bS,h]
theorem dI {p:Nat→Bool} {m k:Nat} (h:p k=true):bS p (m+1) k=bS p m (k+1):=by simp [bS,h]
theorem int_ne (m n:Nat):((m:Int)!=(n:Int)) = !(m==n):=by
 rw [fg]
 simp
 omega
theorem int_eq (m n:Nat):((m:Int)==(n:Int))=(m==n):=by
 rw [fg]
 simp
 omega
theorem bJ {n:Nat} {C:Prop} (h:decide ((n:Int)<(n:Int))=true):C:=by simp at h
def jL (a b:ByteArray):Bool:=a.toList==b.toList
theorem Fm (a b:ByteArray):jL a b=jL b a:=by
 unfold jL
 rw [fg,beq_iff_eq,beq_iff_eq]
 exact eq_comm
def cr {α:Type} (e:α→α→Bool) (x y:Sq α):Bool:=(x.n==y.n)&&dn (fun i=>e (x.get i) (y.get i)) x.n
open Go Go.V
noncomputable def NM:hX:={ F:=F1 }
def Ms:Nat→Bool:=fun i=>Nat.beq i 2
theorem Yl:Fn 67:=⟨by kernel_rfl,by kernel_rfl⟩
abbrev gF:=Tmp×D×ft
noncomputable abbrev mE (ax:Sq Int):D:=.c (.im (.sl 1 ax.1 (fun i=>b8 (ax.2 i))))
noncomputable abbrev s8 (ax:Sq Int):gF:=(0,((mE ax),[]))
noncomputable abbrev qG (ax:Sq Int):D:=int (↑ax.1:Int)
noncomputable abbrev oN:gF:=(8,((int 0),[]))
theorem ap5 (L:LP) (QD:D→Prop) (x:Sq Int) (v:Int) (h:L (ag 67 2) ⟨[(s8 x),(1,((int v),[])),(7,((qG x),[])),oN],[],[]⟩):fS NM 67 Ms L (aZ QD) [eT 1 b8 x,int v] []:=Eq.mp (by kernel_rfl) h
noncomputable def O2 (x:Sq Int) (v:Int) (k:Nat):VS:=⟨[(0,(mE x),[]),(1,(int v),[]),(7,(qG x),[]),(8,int k,[])],[],[]⟩
theorem LX (L:LP) (QD:D→Prop) (x:Sq Int) (v:Int) (k:Nat) (h:br (decide ((↑k:Int)<(↑x.n:Int))) (nd (cd (↑k:Int) x.1) (br (v==x.2 k) (QD (int (↑k:Int))) (L (ag 67 2) ⟨[(s8 x),(1,((int v),[])),(7,((qG x),[])),(8,((int (IntKind.i64.wrap ((↑k:Int)+1))),[]))],[],[]⟩))) (QD (int (-1)))):dq NM 67 Ms L (aZ QD) 2 (O2 x v k):=Eq.mp (by kernel_rfl) h
theorem an0 (x:Sq Int) (v:Int) (a:Int) (hx:x.n≤maxLen)  : ∀ k,k≤x.n→gu (fun i=>v==x.get i) (x.n-k) k=a→af 67 0 (aW (int a)) (ag 67 2) (O2 x v k):=by
 refine aL (fun k hk ih ha=>?_) (fun ha=>?_)
 ·have e:x.n-k=(x.n-(k+1))+1:=by omega
  rw [e] at ha
  refine aH (X:=NM) (stop:=Ms) (LX _ _ x v k ?_)
  refine ak (fun h=>?_) (fun h=>(dec_lt h hk).elim)
  refine aw (aA (by omega)) ?_
  refine ak (fun h1=>?_) (fun h1=>?_)
  ·rw [gY (p:=(fun i=>v==x.get i)) (by simpa using h1)] at ha
   subst ha
   exact aX.refl _
  ·rw [fI (p:=(fun i=>v==x.get i)) (by simpa using h1)] at ha
   rw [bR hk hx]
   exact ih ha
 ·rw [Nat.sub_self] at ha
  refine aH (X:=NM) (stop:=Ms) (LX _ _ x v _ ?_)
  refine ak (fun h=>?_) (fun h=>?_)
  ·exact bJ h
  ·subst ha
   exact aX.refl _
theorem Zq (x:Sq Int) (v:Int):LC 67 [eT 1 b8 x,int v] [] (int (cU (fun i=>v==x.get i) x.n)) []:=
 cu.with Yl (p:=x.n≤maxLen) (fun E av w vs h=>by cases h with|cons q _=>exact jc q) fun hx=>
  aU (X:=NM) (stop:=Ms) Yl (bg (by kernel_rfl)) (ap5 _ _ x v (an0 x v _ hx 0 (bu _) rfl))
noncomputable def EL:hX:={ F:=F1 }
def Fi:Nat→Bool:=fun i=>Nat.beq i 2
theorem UM:Fn 98:=⟨by kernel_rfl,by kernel_rfl⟩
noncomputable abbrev jt (ax:Sq ByteArray):D:=.c (.im (.sl 1 ax.1 (fun i=>eD (ax.2 i))))
noncomputable abbrev kc (ax:Sq ByteArray):gF:=(0,((jt ax),[]))
noncomputable abbrev tr (ax:ByteArray):D:=.c (.im (.v (.string ax)))
noncomputable abbrev nw (ax:Sq ByteArray):D:=int (↑ax.1:Int)
theorem Yc (L:LP) (QD:D→Prop) (x:Sq ByteArray) (v:ByteArray) (h:L (ag 98 2) ⟨[(kc x),(1,((tr v),[])),(7,((nw x),[])),oN],[],[]⟩):fS EL 98 Fi L (aZ QD) [eT 1 eD x,Q3 v] []:=Eq.mp (by kernel_rfl) h
noncomputable def Jf (x:Sq ByteArray) (v:ByteArray) (k:Nat):VS:=⟨[(0,(jt x),[]),(1,(tr v),[]),(7,(nw x),[]),(8,int k,[])],[],[]⟩
theorem IF (L:LP) (QD:D→Prop) (x:Sq ByteArray) (v:ByteArray) (k:Nat) (h:br (decide ((↑k:Int)<(↑x.n:Int))) (nd (cd (↑k:Int) x.1) (br (v.toList==(x.2 k).toList) (QD (int (↑k:Int))) (L (ag 98 2) ⟨[(kc x),(1,((tr v),[])),(7,((nw x),[])),(8,((int (IntKind.i64.wrap ((↑k:Int)+1))),[]))],[],[]⟩))) (QD (int (-1)))):dq EL 98 Fi L (aZ QD) 2 (Jf x v k):=Eq.mp (by kernel_rfl) h
theorem ZA (x:Sq ByteArray) (v:ByteArray) (a:Int) (hx:x.n≤maxLen)  : ∀ k,k≤x.n→gu (fun i=>v.toList==(x.get i).toList) (x.n-k) k=a→af 98 0 (aW (int a)) (ag 98 2) (Jf x v k):=by
 refine aL (fun k hk ih ha=>?_) (fun ha=>?_)
 ·have e:x.n-k=(x.n-(k+1))+1:=by omega
  rw [e] at ha
  refine aH (X:=EL) (stop:=Fi) (IF _ _ x v k ?_)
  refine ak (fun h=>?_) (fun h=>(dec_lt h hk).elim)
  refine aw (aA (by omega)) ?_
  refine ak (fun h1=>?_) (fun h1=>?_)
  ·rw [gY (p:=(fun i=>v.toList==(x.get i).toList)) (by simpa using h1)] at ha
   subst ha
   exact aX.refl _
  ·rw [fI (p:=(fun i=>v.toList==(x.get i).toList)) (by simpa using h1)] at ha
   rw [bR hk hx]
   exact ih ha
 ·rw [Nat.sub_self] at ha
  refine aH (X:=EL) (stop:=Fi) (IF _ _ x v _ ?_)
  refine ak (fun h=>?_) (fun h=>?_)
  ·exact bJ h
  ·subst ha
   exact aX.refl _
theorem VH (x:Sq ByteArray) (v:ByteArray):LC 98 [eT 1 eD x,Q3 v] [] (int (cU (fun i=>v.toList==(x.get i).toList) x.n)) []:=
 cu.with UM (p:=x.n≤maxLen) (fun E av w vs h=>by cases h with|cons q _=>exact jc q) fun hx=>
  aU (X:=EL) (stop:=Fi) UM (bg (by kernel_rfl)) (Yc _ _ x v (ZA x v _ hx 0 (bu _) rfl))
noncomputable def DK:hX:={ F:=F1 }
def D1:Nat→Bool:=fun i=>Nat.beq i 2
theorem Up:Fn 102:=⟨by kernel_rfl,by kernel_rfl⟩
noncomputable abbrev nv:gF:=(5,((int 0),[]))
theorem Z4 (L:LP) (QD:D→Prop) (x:Sq ByteArray) (v:ByteArray) (h:L (ag 102 2) ⟨[(kc x),(1,((tr v),[])),nv],[],[]⟩):fS DK 102 D1 L (aZ QD) [eT 1 eD x,Q3 v] []:=Eq.mp (by kernel_rfl) h
noncomputable def Ir (x:Sq ByteArray) (v:ByteArray) (k:Nat):VS:=⟨[(0,(jt x),[]),(1,(tr v),[]),(5,int k,[])],[],[]⟩
theorem I1 (L:LP) (QD:D→Prop) (x:Sq ByteArray) (v:ByteArray) (k:Nat) (h:br (decide ((↑k:Int)<(↑x.n:Int))) (nd (cd (↑k:Int) x.1) (br ((x.2 k).toList==v.toList) (QD (int (↑k:Int))) (L (ag 102 2) ⟨[(kc x),(1,((tr v),[])),(5,((int (IntKind.i64.wrap ((↑k:Int)+1))),[]))],[],[]⟩))) (QD (int (-1)))):dq DK 102 D1 L (aZ QD) 2 (Ir x v k):=Eq.mp (by kernel_rfl) h
theorem Zh (x:Sq ByteArray) (v:ByteArray) (a:Int) (hx:x.n≤maxLen)  : ∀ k,k≤x.n→gu (fun i=>(x.get i).toList==v.toList) (x.n-k) k=a→af 102 0 (aW (int a)) (ag 102 2) (Ir x v k):=by
 refine aL (fun k hk ih ha=>?_) (fun ha=>?_)
 ·have e:x.n-k=(x.n-(k+1))+1:=by omega
  rw [e] at ha
  refine aH (X:=DK) (stop:=D1) (I1 _ _ x v k ?_)
  refine ak (fun h=>?_) (fun h=>(dec_lt h hk).elim)
  refine aw (aA (by omega)) ?_
  refine ak (fun h1=>?_) (fun h1=>?_)
  ·rw [gY (p:=(fun i=>(x.get i).toList==v.toList)) (by simpa using h1)] at ha
   subst ha
   exact aX.refl _
  ·rw [fI (p:=(fun i=>(x.get i).toList==v.toList)) (by simpa using h1)] at ha
   rw [bR hk hx]
   exact ih ha
 ·rw [Nat.sub_self] at ha
  refine aH (X:=DK) (stop:=D1) (I1 _ _ x v _ ?_)
  refine ak (fun h=>?_) (fun h=>?_)
  ·exact bJ h
  ·subst ha
   exact aX.refl _
theorem Vu (x:Sq ByteArray) (v:ByteArray):LC 102 [eT 1 eD x,Q3 v] [] (int (cU (fun i=>(x.get i).toList==v.toList) x.n)) []:=
 cu.with Up (p:=x.n≤maxLen) (fun E av w vs h=>by cases h with|cons q _=>exact jc q) fun hx=>
  aU (X:=DK) (stop:=D1) Up (bg (by kernel_rfl)) (Z4 _ _ x v (Zh x v _ hx 0 (bu _) rfl))
noncomputable def L0:hX:={ F:=F1 }
def Ou:Nat→Bool:=fun i=>Nat.beq i 4
theorem Y7:Fn 86:=⟨by kernel_rfl,by kernel_rfl⟩
theorem au6 (L:LP) (QD:D→Prop) (x y:Sq ByteArray) (h:br ((↑x.1:Int)!=(↑y.1:Int)) (QD (bool false)) (L (ag 86 4) ⟨[(kc x),(1,((jt y),[])),(12,((nw x),[])),(13,((int 0),[]))],[],[]⟩)):fS L0 86 Ou L (aZ QD) [eT 1 eD x,eT 1 eD y] []:=Eq.mp (by kernel_rfl) h
noncomputable def OL (x y:Sq ByteArray) (k:Nat):VS:=⟨[(0,(jt x),[]),(1,(jt y),[]),(12,(nw x),[]),(13,int k,[])],[],[]⟩
theorem MF (L:LP) (QD:D→Prop) (x y:Sq ByteArray) (k:Nat) (h:br (decide ((↑k:Int)<(↑x.n:Int))) (nd (cd (↑k:Int) x.1) (nd (cd (↑k:Int) y.1) (br (!(x.2 k).toList==(y.2 k).toList) (QD (bool false)) (L (ag 86 4) ⟨[(kc x),(1,((jt y),[])),(12,((nw x),[])),(13,((int (IntKind.i64.wrap ((↑k:Int)+1))),[]))],[],[]⟩)))) (QD (bool true))):dq L0 86 Ou L (aZ QD) 4 (OL x y k):=Eq.mp (by kernel_rfl) h
theorem aq2 (x y:Sq ByteArray) (a:Bool) (hx:x.n≤maxLen) (hxy:x.n=y.n):∀ k,k≤x.n→bS (fun i=>jL (x.get i) (y.get i)) (x.n-k) k=a→af 86 0 (aW (bool a)) (ag 86 4) (OL x y k):=by
 refine aL (fun k hk ih ha=>?_) (fun ha=>?_)
 ·have e:x.n-k=(x.n-(k+1))+1:=by omega
  rw [e] at ha
  refine aH (X:=L0) (stop:=Ou) (MF _ _ x y k ?_)
  refine ak (fun h=>?_) (fun h=>(dec_lt h hk).elim)
  refine aw (aA (by omega)) ?_
  refine aw (aA (by omega)) ?_
  refine ak (fun h1=>?_) (fun h1=>?_)
  ·rw [cO (p:=(fun i=>jL (x.get i) (y.get i))) (by simpa [jL] using h1)] at ha
   subst ha
   exact aX.refl _
  ·rw [dI (p:=(fun i=>jL (x.get i) (y.get i))) (by simpa [jL] using h1)] at ha
   rw [bR hk hx]
   exact ih ha
 ·rw [Nat.sub_self] at ha
  refine aH (X:=L0) (stop:=Ou) (MF _ _ x y _ ?_)
  refine ak (fun h=>?_) (fun h=>?_)
  ·exact bJ h
  ·subst ha
   exact aX.refl _
theorem ac2 (x y:Sq ByteArray):LC 86 [eT 1 eD x,eT 1 eD y] [] (bool (cr jL x y)) []:=
 cu.with Y7 (p:=x.n≤maxLen) (fun E av w vs h=>by cases h with|cons q _=>exact jc q) fun hx=>
  aU (X:=L0) (stop:=Ou) Y7 (bg (by kernel_rfl)) (au6 _ _ x y (by
   refine ak (fun h=>?_) (fun h=>?_)
   ·rw [int_ne] at h
    simp only [Bool.not_eq_true'] at h
    have e:cr jL x y=false:=by simp only [cr,h,Bool.false_and]
    rw [e]; exact aX.refl _
   ·rw [int_ne] at h
    simp only [Bool.not_eq_false'] at h
    have e:cr jL x y=dn (fun i=>jL (x.get i) (y.get i)) x.n:=by simp only [cr,h,Bool.true_and]
    rw [e]
    exact aq2 x y _ hx (eq_of_beq h) 0 (bu _) rfl))
noncomputable def MI:hX:={ F:=F1 }
def OJ:Nat→Bool:=fun i=>Nat.beq i 4
theorem Ye:Fn 97:=⟨by kernel_rfl,by kernel_rfl⟩
theorem ai6 (L:LP) (QD:D→Prop) (x y:Sq ByteArray) (h:br ((↑x.1:Int)!=(↑y.1:Int)) (QD (bool false)) (L (ag 97 4) ⟨[(kc x),(1,((jt y),[])),nv],[],[]⟩)):fS MI 97 OJ L (aZ QD) [eT 1 eD x,eT 1 eD y] []:=Eq.mp (by kernel_rfl) h
noncomputable def MN (x y:Sq ByteArray) (k:Nat):VS:=⟨[(0,(jt x),[]),(1,(jt y),[]),(5,int k,[])],[],[]⟩
theorem OG (L:LP) (QD:D→Prop) (x y:Sq ByteArray) (k:Nat) (h:br (decide ((↑k:Int)<(↑x.n:Int))) (nd (cd (↑k:Int) x.1) (nd (cd (↑k:Int) y.1) (br (!(x.2 k).toList==(y.2 k).toList) (QD (bool false)) (L (ag 97 4) ⟨[(kc x),(1,((jt y),[])),(5,((int (IntKind.i64.wrap ((↑k:Int)+1))),[]))],[],[]⟩)))) (QD (bool true))):dq MI 97 OJ L (aZ QD) 4 (MN x y k):=Eq.mp (by kernel_rfl) h
theorem as5 (x y:Sq ByteArray) (a:Bool) (hx:x.n≤maxLen) (hxy:x.n=y.n):∀ k,k≤x.n→bS (fun i=>jL (x.get i) (y.get i)) (x.n-k) k=a→af 97 0 (aW (bool a)) (ag 97 4) (MN x y k):=by
 refine aL (fun k hk ih ha=>?_) (fun ha=>?_)
 ·have e:x.n-k=(x.n-(k+1))+1:=by omega
  rw [e] at ha
  refine aH (X:=MI) (stop:=OJ) (OG _ _ x y k ?_)
  refine ak (fun h=>?_) (fun h=>(dec_lt h hk).elim)
  refine aw (aA (by omega)) ?_
  refine aw (aA (by omega)) ?_
  refine ak (fun h1=>?_) (fun h1=>?_)
  ·rw [cO (p:=(fun i=>jL (x.get i) (y.get i))) (by simpa [jL] using h1)] at ha
   subst ha
   exact aX.refl _
  ·rw [dI (p:=(fun i=>jL (x.get i) (y.get i))) (by simpa [jL] using h1)] at ha
   rw [bR hk hx]
   exact ih ha
 ·rw [Nat.sub_self] at ha
  refine aH (X:=MI) (stop:=OJ) (OG _ _ x y _ ?_)
  refine ak (fun h=>?_) (fun h=>?_)
  ·exact bJ h
  ·subst ha
   exact aX.refl _
theorem TS (x y:Sq ByteArray):LC 97 [eT 1 eD x,eT 1 eD y] [] (bool (cr jL x y)) []:=
 cu.with Ye (p:=x.n≤maxLen) (fun E av w vs h=>by cases h with|cons q _=>exact jc q) fun hx=>
  aU (X:=MI) (stop:=OJ) Ye (bg (by kernel_rfl)) (ai6 _ _ x y (by
   refine ak (fun h=>?_) (fun h=>?_)
   ·rw [int_ne] at h
    simp only [Bool.not_eq_true'] at h
    have e:cr jL x y=false:=by simp only [cr,h,Bool.false_and]
    rw [e]; exact aX.refl _
   ·rw [int_ne] at h
    simp only [Bool.not_eq_false'] at h
    have e:cr jL x y=dn (fun i=>jL (x.get i) (y.get i)) x.n:=by simp only [cr,h,Bool.true_and]
    rw [e]
    exact as5 x y _ hx (eq_of_beq h) 0 (bu _) rfl))
noncomputable def Oe:hX:={ F:=F1 }
def OQ:Nat→Bool:=fun i=>Nat.beq i 4
theorem aa5:Fn 104:=⟨by kernel_rfl,by kernel_rfl⟩
theorem ak8 (L:LP) (QD:D→Prop) (x y:Sq Int) (h:br ((↑x.1:Int)!=(↑y.1:Int)) (QD (bool false)) (L (ag 104 4) ⟨[(s8 x),(1,((mE y),[])),nv],[],[]⟩)):fS Oe 104 OQ L (aZ QD) [eT 1 b8 x,eT 1 b8 y] []:=Eq.mp (by kernel_rfl) h
noncomputable def P9 (x y:Sq Int) (k:Nat):VS:=⟨[(0,(mE x),[]),(1,(mE y),[]),(5,int k,[])],[],[]⟩
theorem NX (L:LP) (QD:D→Prop) (x y:Sq Int) (k:Nat) (h:br (decide ((↑k:Int)<(↑x.n:Int))) (nd (cd (↑k:Int) x.1) (nd (cd (↑k:Int) y.1) (br (x.2 k != y.2 k) (QD (bool false)) (L (ag 104 4) ⟨[(s8 x),(1,((mE y),[])),(5,((int (IntKind.i64.wrap ((↑k:Int)+1))),[]))],[],[]⟩)))) (QD (bool true))):dq Oe 104 OQ L (aZ QD) 4 (P9 x y k):=Eq.mp (by kernel_rfl) h
theorem at0 (x y:Sq Int) (a:Bool) (hx:x.n≤maxLen) (hxy:x.n=y.n):∀ k,k≤x.n→bS (fun i=>(fun a b:Int=>a==b) (x.get i) (y.get i)) (x.n-k) k=a→af 104 0 (aW (bool a)) (ag 104 4) (P9 x y k):=by
 refine aL (fun k hk ih ha=>?_) (fun ha=>?_)
 ·have e:x.n-k=(x.n-(k+1))+1:=by omega
  rw [e] at ha
  refine aH (X:=Oe) (stop:=OQ) (NX _ _ x y k ?_)
  refine ak (fun h=>?_) (fun h=>(dec_lt h hk).elim)
  refine aw (aA (by omega)) ?_
  refine aw (aA (by omega)) ?_
  refine ak (fun h1=>?_) (fun h1=>?_)
  ·rw [cO (p:=(fun i=>(fun a b:Int=>a==b) (x.get i) (y.get i))) (by simpa [jL] using h1)] at ha
   subst ha
   exact aX.refl _
  ·rw [dI (p:=(fun i=>(fun a b:Int=>a==b) (x.get i) (y.get i))) (by simpa [jL] using h1)] at ha
   rw [bR hk hx]
   exact ih ha
 ·rw [Nat.sub_self] at ha
  refine aH (X:=Oe) (stop:=OQ) (NX _ _ x y _ ?_)
  refine ak (fun h=>?_) (fun h=>?_)
  ·exact bJ h
  ·subst ha
   exact aX.refl _
theorem Yt (x y:Sq Int):LC 104 [eT 1 b8 x,eT 1 b8 y] [] (bool (cr (fun a b:Int=>a==b) x y)) []:=
 cu.with aa5 (p:=x.n≤maxLen) (fun E av w vs h=>by cases h with|cons q _=>exact jc q) fun hx=>
  aU (X:=Oe) (stop:=OQ) aa5 (bg (by kernel_rfl)) (ak8 _ _ x y (by
   refine ak (fun h=>?_) (fun h=>?_)
   ·rw [int_ne] at h
    simp only [Bool.not_eq_true'] at h
    have e:cr (fun a b:Int=>a==b) x y=false:=by simp only [cr,h,Bool.false_and]
    rw [e]; exact aX.refl _
   ·rw [int_ne] at h
    simp only [Bool.not_eq_false'] at h
    have e:cr (fun a b:Int=>a==b) x y=dn (fun i=>(fun a b:Int=>a==b) (x.get i) (y.get i)) x.n:=by simp only [cr,h,Bool.true_and]
    rw [e]
    exact at0 x y _ hx (eq_of_beq h) 0 (bu _) rfl))
end Go.Proofs.YtghfgcfabbbbbaaDoor
namespace Go.Proofs
open Go.Shelf
open Go.RowKit Go.Lib in
open Go.RowKit Go.Lib in
def Tryd.B0:Go.Shelf.Ren:=⟨fun|17=>87|15=>99|20=>105|n=>n,fun|9=>9|23=>131|4=>4|3=>3|0=>0|21=>21|n=>n,fun|n=>n⟩
theorem Tryd.PF:Go.Proofs.LaysGw.n17 Tryd.prog Tryd.B0:={
 mixed:=by kernel_rfl
 f15:=Tryd.func99.trans (congrArg some (by kernel_rfl))
 f17:=Tryd.func87.trans (congrArg some (by kernel_rfl))
 f20:=Tryd.func105.trans (congrArg some (by kernel_rfl))
 t0:=Tryd.underlying0
 a0:=Tryd.isAgg0
 z0:=Tryd.sizeOf0
 v0:=Tryd.zeroValue0
 i0:=by kernel_rfl
 t3:=Tryd.underlying3
 a3:=Tryd.isAgg3
 z3:=Tryd.sizeOf3
 v3:=Tryd.zeroValue3
 i3:=by kernel_rfl
 t4:=Tryd.underlying4
 a4:=Tryd.isAgg4
 z4:=Tryd.sizeOf4
 v4:=Tryd.zeroValue4
 i4:=by kernel_rfl
 t9:=Tryd.underlying9
 a9:=Tryd.isAgg9
 z9:=Tryd.sizeOf9
 v9:=Tryd.zeroValue9
 i9:=by kernel_rfl
 t21:=Tryd.underlying21
 a21:=Tryd.isAgg21
 z21:=Tryd.sizeOf21
 v21:=Tryd.zeroValue21
 i21:=by kernel_rfl
 t23:=Tryd.underlying131
 a23:=Tryd.isAgg131
 z23:=Tryd.sizeOf131
 v23:=Tryd.zeroValue131
 i23:=by kernel_rfl }
open Go.RowKit Go.Lib in
theorem Tryd.strings_ContainsFunc (g:Nat) (lb:Array Value) (eg:∀ args w,(callFunc g args).run Tryd.prog w=.ok (.enter g args) w) (p:Nat→Bool) (s:ByteArray) (w:World) (hp:PredAt Tryd.prog g lb encR p w) :
  Calls Tryd.prog 87 #[.string s,.func (.func g) #[] lb] w fun e w'=>e=.returned (.bool (decide (0≤Lib.idxFunc p true s)))∧Below w.heap.size w w':=Any.strings_ContainsFunc Tryd.PF g lb eg p s w hp
end Go.Proofs
namespace Go.Proofs.YtghfgcfabbbbbaaDoor
open Go Go.RowKit
def jJ (r:Nat):Bool:=decide ((r:Int)<32)||decide ((r:Int)>126)
theorem Vj (w:World):PredAt Tryd.prog 88 #[] encR jJ w:=fun W r _=>by
 unfold FnGives
 unfold jJ
 by_cases h1:(r:Int)<32<;>by_cases h2:(r:Int)>126
 all_goals
  go_enter Tryd.func88,Tryd.ntmps88
  go_wp2
  all_goals first|(exfalso; omega)|(go_ret; exact ⟨by simp [h1,h2],0,rfl⟩)
def vv (s:ByteArray) (k:Nat):Prop:=∀ i (h:i<s.size),i<k→32≤s[i].toNat∧s[i].toNat≤126
theorem zk {s:ByteArray} (h:vv s s.size):∀ f pos,Lib.idxFuncFrom jJ true s f pos = -1
 | 0,pos=>rfl
 | f+1,pos=>by
   unfold Lib.idxFuncFrom
   split
   ·rename_i hp
    obtain ⟨h1,h2⟩:=h pos hp hp
    rw [decode_ascii s pos hp (by omega)]
    have:jJ s[pos].toNat=false:=by simp [jJ]; omega
    rw [if_neg (by simp [this])]
    exact zk h f _
   ·rfl
theorem Jz {s:ByteArray} {i:Nat} (hi:i<s.size) (hb:¬ (32≤s[i].toNat∧s[i].toNat≤126)):∀ f pos,s.size≤pos+f→pos≤i→0≤Lib.idxFuncFrom jJ true s f pos
 | 0,pos,h1,h2=>by omega
 | f+1,pos,h1,h2=>by
   have hp:pos<s.size:=by omega
   unfold Lib.idxFuncFrom
   rw [if_pos hp]
   split
   ·omega
   ·rename_i hodd
    rcases Nat.lt_or_ge s[pos].toNat 128 with dD|hge
    ·rw [decode_ascii s pos hp dD] at hodd ⊢
     have hfine:32≤s[pos].toNat∧s[pos].toNat≤126:=by simp [jJ] at hodd; omega
     have rA:pos≠i:=fun e=>by subst e; exact hb hfine
     exact Jz hi hb f _ (by simp only; omega) (by simp only; omega)
    ·have:=(decode_high s pos hp hge).1
     exact (hodd (by simp [jJ]; omega)).elim
def LL (s:ByteArray):Bool:=decide (0≤Lib.idxFunc jJ true s)
theorem K0 {s:ByteArray} (h:vv s s.size):LL s=false:=by
 unfold LL Lib.idxFunc
 rw [zk h]; rfl
theorem yd {s:ByteArray} {i:Nat} (hi:i<s.size) (hb:¬ (32≤s[i].toNat∧s[i].toNat≤126)):LL s=true:=by
 unfold LL Lib.idxFunc
 have:=Jz hi hb s.size 0 (by omega) (by omega)
 simpa using this
theorem aY {a b:Bool} (h:a=b):Ending.returned (.bool a)=.returned (.bool b):=by rw [h]
theorem La (s:ByteArray) (w:World) (hs:s.size≤maxLen):Calls Tryd.prog 106 #[.string s] w fun e w'=>e=.returned (.bool (!LL s&&decide (s.size≤200)))∧w'=w:=by
 unfold maxLen at hs
 go_enter Tryd.func106,Tryd.ntmps106
 go_wp2
 go_loop [3] (fun i=>∃ k:Nat,k≤s.size∧i=.int .i64 k∧vv s k) (fun i=>s.size-(intOf i).toNat)
 case atStart=>exact ⟨0,bu _,rfl,fun i _ h=>by omega⟩
 case round=>
  obtain ⟨k,hk,rfl,zm⟩:=hrel
  by_cases dD:k<s.size
  ·by_cases h1:(s[k].toNat:Int)<32<;>by_cases h2:(s[k].toNat:Int)>126
   ·have hod:=yd dD (by omega)
    go_wp2
    go_ret
    exact ⟨by first|rfl|exact aY (by rw [hod]; rfl),rfl⟩
   ·have hod:=yd dD (by omega)
    go_wp2
    go_ret
    exact ⟨by first|rfl|exact aY (by rw [hod]; rfl),rfl⟩
   ·have hod:=yd dD (by omega)
    go_wp2
    go_ret
    exact ⟨by first|rfl|exact aY (by rw [hod]; rfl),rfl⟩
   ·have jU:vv s (k+1):=fun i h hi=>by
     rcases Nat.lt_or_ge i k with hik|hik
     ·exact zm i h hik
     ·have:i=k:=by omega
      subst this
      omega
    go_wp2
    go_round
    case rel=>exact ⟨k+1,by omega,by go_num,jU⟩
    case measure=>simp [intOf]; omega
  ·have hof:LL s=false:=K0 fun i h _=>zm i h (by omega)
   by_cases h200:(s.size:Int)≤200
   ·have hd:decide (s.size≤200)=true:=by simp; omega
    go_wp2
    go_ret
    exact ⟨by first|rfl|exact aY (by rw [hof,hd]; rfl),rfl⟩
   ·have hd:decide (s.size≤200)=false:=by simp; omega
    go_wp2
    go_ret
    exact ⟨by first|rfl|exact aY (by rw [hof,hd]; rfl),rfl⟩
def lA (kind n:Int):Bool:=if kind=0∨kind=1 then decide (n=0) else if kind=2 then decide (0≤n∧n≤1) else if kind=3 then decide (-1000000000000000≤n∧n≤1000000000000000)
 else if kind=5 then decide (0≤n∧n≤1000000000) else if kind=6 then decide (0≤n∧n≤23) else false
def bO (kind n:Int) (s:ByteArray):Bool:=if kind=4 then (decide (n=0)&&(decide (s.size≤200) && !LL s)) else (decide (s.toList=[])&&lA kind n)
set_option maxHeartbeats 4000000 in
theorem PJ (kind n:Int) (s:ByteArray) (w:World):Calls Tryd.prog 66 #[.agg #[.int .i64 kind,.int .i64 n,.string s]] w fun e w'=>e=.returned (.bool (bO kind n s))∧Below w.heap.size w w':=by
 have hC:∀ W,Calls Tryd.prog 87 #[.string s,.func (.func 88) #[] #[]] W fun e w'=>e=.returned (.bool (LL s))∧Below W.heap.size W w':=fun W=>Tryd.strings_ContainsFunc 88 #[] (enters_of Tryd.func88 (by kernel_rfl) rfl) jJ s W (Vj W)
 by_cases k4:kind=4
 ·subst k4
  obtain ⟨o,ho⟩:∃ o,LL s=o:=⟨_,rfl⟩
  have hv:bO 4 n s=(decide (n=0)&&(decide (s.size≤200) && !o)):=by simp [bO,ho]
  rw [hv]
  simp only [ho] at hC
  clear hv
  by_cases hn:n=0
  ·subst hn
   by_cases h2:(s.size:Int)≤200
   ·have hd:decide (s.size≤200)=true:=by simp; omega
    rw [hd]
    clear hd ho
    cases o
    all_goals
     go_enter Tryd.func66,Tryd.ntmps66
     go_wp2_with (go_at_call 87; refine (hC _).mono ?_; rintro e w' ⟨rfl,hb⟩; have hb1:w'.cell? ⟨w.heap.size,1,none⟩=some (.int .i64 0):=(hb.cell (p:=⟨w.heap.size,1,none⟩) (by simp)).trans (by simp); have hb2:w'.cell? ⟨w.heap.size,2,none⟩=some (.string s):=(hb.cell (p:=⟨w.heap.size,2,none⟩) (by simp)).trans (by simp))
     go_ret
     exact ⟨rfl,((Below.refl _ w).alloc (bk _) _).trans (hb.mono (by simp))⟩
   ·have hd:decide (s.size≤200)=false:=by simp; omega
    rw [hd]
    clear hd ho
    go_enter Tryd.func66,Tryd.ntmps66
    go_wp2_with (go_at_call 87; refine (hC _).mono ?_; rintro e w' ⟨rfl,hb⟩; have hb1:w'.cell? ⟨w.heap.size,1,none⟩=some (.int .i64 0):=(hb.cell (p:=⟨w.heap.size,1,none⟩) (by simp)).trans (by simp); have hb2:w'.cell? ⟨w.heap.size,2,none⟩=some (.string s):=(hb.cell (p:=⟨w.heap.size,2,none⟩) (by simp)).trans (by simp))
    go_ret
    exact ⟨rfl,((Below.refl _ w).alloc (bk _) _).trans (hb.mono (by simp))⟩
  ·have hd:decide (n=0)=false:=by simpa using hn
   rw [hd]
   clear hd ho
   go_enter Tryd.func66,Tryd.ntmps66
   go_wp2_with (go_at_call 87; refine (hC _).mono ?_; rintro e w' ⟨rfl,hb⟩; have hb1:w'.cell? ⟨w.heap.size,1,none⟩=some (.int .i64 n):=(hb.cell (p:=⟨w.heap.size,1,none⟩) (by simp)).trans (by simp); have hb2:w'.cell? ⟨w.heap.size,2,none⟩=some (.string s):=(hb.cell (p:=⟨w.heap.size,2,none⟩) (by simp)).trans (by simp))
   go_ret
   exact ⟨rfl,((Below.refl _ w).alloc (bk _) _).trans (hb.mono (by simp))⟩
 clear hC
 by_cases k0:kind=0
 ·subst k0
  by_cases hs:s.toList=[]<;>by_cases h1:0≤n<;>by_cases h2:n≤0
  all_goals first
  | (exfalso; omega)
  | (go_enter Tryd.func66,Tryd.ntmps66
     go_wp2
     go_ret
     exact ⟨by first|(refine aY ?_; simp [bO,lA,hs]; done)|(refine aY ?_; simp [bO,lA,hs]; omega),(Below.refl _ w).alloc (bk _) _⟩)
 by_cases k1:kind=1
 ·subst k1
  by_cases hs:s.toList=[]<;>by_cases h1:0≤n<;>by_cases h2:n≤0
  all_goals first
  | (exfalso; omega)
  | (go_enter Tryd.func66,Tryd.ntmps66
     go_wp2
     go_ret
     exact ⟨by first|(refine aY ?_; simp [bO,lA,hs]; done)|(refine aY ?_; simp [bO,lA,hs]; omega),(Below.refl _ w).alloc (bk _) _⟩)
 by_cases k2:kind=2
 ·subst k2
  by_cases hs:s.toList=[]<;>by_cases h1:0≤n<;>by_cases h2:n≤1
  all_goals first
  | (exfalso; omega)
  | (go_enter Tryd.func66,Tryd.ntmps66
     go_wp2
     go_ret
     exact ⟨by first|(refine aY ?_; simp [bO,lA,hs]; done)|(refine aY ?_; simp [bO,lA,hs]; omega),(Below.refl _ w).alloc (bk _) _⟩)
 by_cases k3:kind=3
 ·subst k3
  by_cases hs:s.toList=[]<;>by_cases h1 : -1000000000000000≤n<;>by_cases h2:n≤1000000000000000
  all_goals first
  | (exfalso; omega)
  | (go_enter Tryd.func66,Tryd.ntmps66
     go_wp2
     go_ret
     exact ⟨by first|(refine aY ?_; simp [bO,lA,hs]; done)|(refine aY ?_; simp [bO,lA,hs]; omega),(Below.refl _ w).alloc (bk _) _⟩)
 by_cases k5:kind=5
 ·subst k5
  by_cases hs:s.toList=[]<;>by_cases h1:0≤n<;>by_cases h2:n≤1000000000
  all_goals first
  | (exfalso; omega)
  | (go_enter Tryd.func66,Tryd.ntmps66
     go_wp2
     go_ret
     exact ⟨by first|(refine aY ?_; simp [bO,lA,hs]; done)|(refine aY ?_; simp [bO,lA,hs]; omega),(Below.refl _ w).alloc (bk _) _⟩)
 by_cases k6:kind=6
 ·subst k6
  by_cases hs:s.toList=[]<;>by_cases h1:0≤n<;>by_cases h2:n≤23
  all_goals first
  | (exfalso; omega)
  | (go_enter Tryd.func66,Tryd.ntmps66
     go_wp2
     go_ret
     exact ⟨by first|(refine aY ?_; simp [bO,lA,hs]; done)|(refine aY ?_; simp [bO,lA,hs]; omega),(Below.refl _ w).alloc (bk _) _⟩)
 go_enter Tryd.func66,Tryd.ntmps66
 go_wp2
 go_ret
 exact ⟨by refine aY ?_; simp [bO,lA,k0,k1,k2,k3,k4,k5,k6],(Below.refl _ w).alloc (bk _) _⟩
set_option maxHeartbeats 4000000 in
theorem L3 (kind n:Int) (s:ByteArray) (w:World) (fF:s.size≤maxLen):Calls Tryd.prog 103 #[.agg #[.int .i64 kind,.int .i64 n,.string s]] w fun e w'=>e=.returned (.bool (bO kind n s))∧Below w.heap.size w w':=by
 have hC:∀ W,Calls Tryd.prog 106 #[.string s] W fun e w'=>e=.returned (.bool (!LL s&&decide (s.size≤200)))∧w'=W:=fun W=>La s W fF
 by_cases k4:kind=4
 ·subst k4
  obtain ⟨o,ho⟩:∃ o,(!LL s&&decide (s.size≤200))=o:=⟨_,rfl⟩
  have hv:bO 4 n s=(decide (n=0)&&o):=by
   rw [← ho]
   simp only [bO,if_true]
   cases LL s<;>cases decide (s.size≤200)<;>rfl
  rw [hv]
  simp only [ho] at hC
  clear hv ho
  by_cases hn:n=0
  ·subst hn
   cases o
   all_goals
    go_enter Tryd.func103,Tryd.ntmps103
    go_wp2_with (go_at_call 106; refine (hC _).mono ?_; rintro e w' ⟨rfl,rfl⟩)
    go_ret
    exact ⟨rfl,(Below.refl _ w).alloc (bk _) _⟩
  ·have hd:decide (n=0)=false:=by simpa using hn
   rw [hd]
   clear hd
   cases o
   all_goals
    go_enter Tryd.func103,Tryd.ntmps103
    go_wp2_with (go_at_call 106; refine (hC _).mono ?_; rintro e w' ⟨rfl,rfl⟩)
    go_ret
    exact ⟨by first|rfl|exact aY (by simp [hn]),(Below.refl _ w).alloc (bk _) _⟩
 clear hC
 have hse:s.toList.isEmpty=decide (s.toList=[]):=by cases s.toList<;>rfl
 by_cases hs:s.toList=[]
 ·have he:s.toList.isEmpty=true:=by rw [hse]; simpa using hs
  clear hse
  by_cases k0:kind=0
  ·subst k0
   by_cases h1:n=0
   ·subst h1
    go_enter Tryd.func103,Tryd.ntmps103
    go_wp2
    go_ret
    exact ⟨by first|rfl|(refine aY ?_; simp [bO,lA,hs]; done)|(refine aY ?_; simp [bO,lA,hs]; omega)|(refine aY ?_; simp [bO,lA,hs, *]; done),(Below.refl _ w).alloc (bk _) _⟩
   ·go_enter Tryd.func103,Tryd.ntmps103
    go_wp2
    go_ret
    exact ⟨by first|rfl|(refine aY ?_; simp [bO,lA,hs]; done)|(refine aY ?_; simp [bO,lA,hs]; omega)|(refine aY ?_; simp [bO,lA,hs, *]; done),(Below.refl _ w).alloc (bk _) _⟩
  by_cases k1:kind=1
  ·subst k1
   by_cases h1:n=0
   ·subst h1
    go_enter Tryd.func103,Tryd.ntmps103
    go_wp2
    go_ret
    exact ⟨by first|rfl|(refine aY ?_; simp [bO,lA,hs]; done)|(refine aY ?_; simp [bO,lA,hs]; omega)|(refine aY ?_; simp [bO,lA,hs, *]; done),(Below.refl _ w).alloc (bk _) _⟩
   ·go_enter Tryd.func103,Tryd.ntmps103
    go_wp2
    go_ret
    exact ⟨by first|rfl|(refine aY ?_; simp [bO,lA,hs]; done)|(refine aY ?_; simp [bO,lA,hs]; omega)|(refine aY ?_; simp [bO,lA,hs, *]; done),(Below.refl _ w).alloc (bk _) _⟩
  by_cases k2:kind=2
  ·subst k2
   by_cases h1:n=0
   ·subst h1
    go_enter Tryd.func103,Tryd.ntmps103
    go_wp2
    go_ret
    exact ⟨by first|rfl|(refine aY ?_; simp [bO,lA,hs]; done)|(refine aY ?_; simp [bO,lA,hs]; omega)|(refine aY ?_; simp [bO,lA,hs, *]; done),(Below.refl _ w).alloc (bk _) _⟩
   ·by_cases h2:n=1
    ·subst h2
     go_enter Tryd.func103,Tryd.ntmps103
     go_wp2
     go_ret
     exact ⟨by first|rfl|(refine aY ?_; simp [bO,lA,hs]; done)|(refine aY ?_; simp [bO,lA,hs]; omega)|(refine aY ?_; simp [bO,lA,hs, *]; done),(Below.refl _ w).alloc (bk _) _⟩
    ·have h3:¬ (0≤n∧n≤1):=by omega
     go_enter Tryd.func103,Tryd.ntmps103
     go_wp2
     go_ret
     exact ⟨by first|rfl|(refine aY ?_; simp [bO,lA,hs]; done)|(refine aY ?_; simp [bO,lA,hs]; omega)|(refine aY ?_; simp [bO,lA,hs, *]; done),(Below.refl _ w).alloc (bk _) _⟩
  by_cases k3:kind=3
  ·subst k3
   by_cases h1 : -1000000000000000≤n<;>by_cases h2:n≤1000000000000000
   all_goals first
   | (exfalso; omega)
   | (go_enter Tryd.func103,Tryd.ntmps103
      go_wp2
      go_ret
      exact ⟨by first|rfl|(refine aY ?_; simp [bO,lA,hs]; done)|(refine aY ?_; simp [bO,lA,hs]; omega),(Below.refl _ w).alloc (bk _) _⟩)
  by_cases k5:kind=5
  ·subst k5
   by_cases h1:0≤n<;>by_cases h2:n≤1000000000
   all_goals first
   | (exfalso; omega)
   | (go_enter Tryd.func103,Tryd.ntmps103
      go_wp2
      go_ret
      exact ⟨by first|rfl|(refine aY ?_; simp [bO,lA,hs]; done)|(refine aY ?_; simp [bO,lA,hs]; omega),(Below.refl _ w).alloc (bk _) _⟩)
  by_cases k6:kind=6
  ·subst k6
   by_cases h1:0≤n<;>by_cases h2:n<24
   all_goals first
   | (exfalso; omega)
   | (go_enter Tryd.func103,Tryd.ntmps103
      go_wp2
      go_ret
      exact ⟨by first|rfl|(refine aY ?_; simp [bO,lA,hs]; done)|(refine aY ?_; simp [bO,lA,hs]; omega),(Below.refl _ w).alloc (bk _) _⟩)
  go_enter Tryd.func103,Tryd.ntmps103
  go_wp2
  go_ret
  exact ⟨by first|rfl|(refine aY ?_; simp [bO,lA,hs]; done)|(refine aY ?_; simp [bO,lA,hs]; omega)|(refine aY ?_; simp [bO,lA,hs,k0,k1,k2,k3,k4,k5,k6]; done),(Below.refl _ w).alloc (bk _) _⟩
 ·have he:s.toList.isEmpty=false:=by rw [hse]; simpa using hs
  clear hse
  go_enter Tryd.func103,Tryd.ntmps103
  go_wp2
  go_ret
  exact ⟨by first|rfl|(refine aY ?_; simp [bO,lA,hs]; done)|(refine aY ?_; simp [bO,lA,hs]; omega)|(refine aY ?_; simp [bO,hs,k4]; done),(Below.refl _ w).alloc (bk _) _⟩
open Go Go.V
theorem Ix {E:Env} {av:Nat→Prop} {w:World} {v:pZ} {x:Value} (h:a7 E av w (HW v) x):x=.agg #[.int .i64 v.kind,.int .i64 v.n,.string v.s]:=by
 obtain ⟨⟨l⟩,rfl,h⟩:=h
 cases h with
 | cons h1 h=>cases h with
   | cons h2 h=>cases h with
     | cons h3 h=>cases h with
       | nil=>rw [h1.1,h2.1,h3.1]
theorem Zd:Fn 66:=⟨by kernel_rfl,by kernel_rfl⟩
theorem aa6:Fn 103:=⟨by kernel_rfl,by kernel_rfl⟩
noncomputable def np (v:pZ):Bool:=bO v.kind v.n v.s
theorem VV (v:pZ):LC 66 [HW v] [] (bool (np v)) []:=
 ⟨Zd.enters,fun N ay w0 sp sl df a w E vs hR hv=>by
  cases hv with
  | cons q k=>
    cases k
    rw [Ix q]
    refine (PJ v.kind v.n v.s w).mono ?_
    rintro en w' ⟨rfl,hb⟩
    exact ⟨_,E,rfl,Kept.refl E,hR.grown hb,rfl,rfl⟩⟩
theorem W7 (v:pZ) (hs:v.s.size≤maxLen):LC 103 [HW v] [] (bool (np v)) []:=
 ⟨aa6.enters,fun N ay w0 sp sl df a w E vs hR hv=>by
  cases hv with
  | cons q k=>
    cases k
    rw [Ix q]
    refine (L3 v.kind v.n v.s w hs).mono ?_
    rintro en w' ⟨rfl,hb⟩
    exact ⟨_,E,rfl,Kept.refl E,hR.grown hb,rfl,rfl⟩⟩
noncomputable def F2L:List (Nat×(List D→List ah→Out)):=[
 (67,fun ds rs=>(int (cU (fun i=>aI ds 1==(OO ds 0).get i) (OO ds 0).n),[],[])),
 (98,fun ds rs=>(int (cU (fun i=>(aS ds 1).toList==((yB ds 0).get i).toList) (yB ds 0).n),[],[])),
 (102,fun ds rs=>(int (cU (fun i=>((yB ds 0).get i).toList==(aS ds 1).toList) (yB ds 0).n),[],[])),
 (86,fun ds rs=>(bool (cr jL (yB ds 0) (yB ds 1)),[],[])),
 (97,fun ds rs=>(bool (cr jL (yB ds 0) (yB ds 1)),[],[])),
 (104,fun ds rs=>(bool (cr (fun a b:Int=>a==b) (OO ds 0) (OO ds 1)),[],[])),
 (66,fun ds rs=>(bool (np (Rj ds 0)),[],[])),
 (103,fun ds rs=>(bool (np (Rj ds 0)),[],[]))]
noncomputable def F2:FuncId→List D→List ah→Out:=fun f ds rs=>match findF f F2L with
 | some g=>g ds rs
 | none=>F1 f ds rs
abbrev CA:=List (Nat×(List D→List ah→Out))
noncomputable def ext (F:FuncId→List D→List ah→Out) (l:CA):FuncId→List D→List ah→Out:=fun f ds rs=>match findF f l with
 | some g=>g ds rs
 | none=>F f ds rs
def Ci (v:Int) (x:Sq Int):Bool:=decide (cU (fun i=>v==x.get i) x.n≥0)
def cC (v:Int):List Int→Bool
 | []=>false
 | y::l=>(v==y)||cC v l
theorem DV {v:Int}:∀ {l:List Int},cC v l=true↔v∈l
 | []=>by simp [cC]
 | y::l=>by simp [cC,DV]
theorem Mz {v:Int} {x:Sq Int}:Ci v x=true↔∃ i,i<x.n∧v=x.get i:=by
 unfold Ci
 rcases te (fun i=>v==x.get i) x.n with ⟨h1,h2⟩|⟨i,h1,h2,h3,_⟩
 ·rw [h1]
  constructor
  ·intro h; simp at h
  ·rintro ⟨i,hi,e⟩
   have:=h2 i hi
   simp [e] at this
 ·rw [h1]
  constructor
  ·intro _; exact ⟨i,h2,by simpa using h3⟩
  ·intro _; simp
theorem MB {v:Int} {x:Sq Int} (l:List Int) (hn:x.n=l.length) (h:∀ i,i<l.length→x.get i=l.getD i 0):Ci v x=cC v l:=by
 rw [fg,Mz,DV]
 constructor
 ·rintro ⟨i,hi,e⟩
  rw [hn] at hi
  rw [e,h i hi,List.getD_eq_getElem?_getD,eY hi]
  simp
 ·intro hm
  obtain ⟨i,hi,e⟩:=List.getElem_of_mem hm
  refine ⟨i,by omega,?_⟩
  rw [h i hi,List.getD_eq_getElem?_getD,eY hi,← e]
  simp
theorem JY {n sz:Nat} {get get':Nat→Nat→I} (h:∀ i,i<n→∀ j,j<sz→dr (get i j) (get' i j)):aX (.c (.im (.sl sz n get))) (.c (.im (.sl sz n get'))):=by
 rintro E av w v ⟨a,cap,rfl,h1,h2,h3⟩
 refine ⟨a,cap,rfl,h1,h2,fun h0=>?_⟩
 obtain ⟨ad,h4,h5,h6,h7,h8⟩:=h3 h0
 refine ⟨ad,h4,h5,h6,h7,fun i hi j hj=>?_⟩
 obtain ⟨x,h9,nN⟩:=h8 i hi j hj
 exact ⟨x,h9,h i hi j hj _ _ _ nN⟩
theorem Vd {n:Nat} {get:Nat→Nat→I} (h:∀ i,i<n→∃ m,get i 0=iI m):aX (.c (.im (.sl 1 n get))) (eT 1 b8 ⟨n,fun i=>rI (get i)⟩):=
 JY fun i hi j hj=>by
  obtain ⟨m,e⟩:=h i hi
  have hj0:j=0:=by omega
  subst hj0
  show dr (get i 0) (iI (cE (get i 0)))
  rw [e]
  exact dr.refl _
theorem mM {q:Nat}:∀ {l:List Int},q<l.length→bH (l.map iI) q=iI (l.getD q 0)
 | [],h=>by simp at h
 | y::l,h=>by
   cases q with
   | zero=>rfl
   | succ q=>exact mM (q:=q) (l:=l) (by simpa using h)
theorem G0 (l:List Int):aX (.c (.im (.sl 1 l.length (flat 1 (l.map iI))))) (eT 1 b8 ⟨l.length,fun i=>rI (flat 1 (l.map iI) i)⟩):=
 Vd fun i hi=>⟨_,by show bH (l.map iI) (i*1+0)=_; rw [Nat.mul_one]; exact mM hi⟩
theorem B8 (v:Int) (l:List Int):Ci v ⟨l.length,fun i=>rI (flat 1 (l.map iI) i)⟩=cC v l:=
 MB l rfl fun i hi=>by
  show cE (bH (l.map iI) (i*1+0))=_
  rw [Nat.mul_one,Nat.add_zero,mM hi]; rfl
theorem nil_le {α:Type} {sz:Nat} {e:α→Nat→I} {g:Nat→α}:aX (.c (.im (.v (.slice none 0 0)))) (eT sz e ⟨0,g⟩):=fun E av w v h=>dr.nil sz _ av w v h
theorem VI {f:FuncId} {a a':D} {l:List D} {rs aG:List ah} {d:D} (h:aX a a') (k:LC f (a'::l) rs d aG):LC f (a::l) rs d aG:=
 cu.pre k (.cons h (allRefl l))
where allRefl:∀ l:List D,aB aX l l
 | []=>.nil
 | _::l=>.cons (aX.refl _) (allRefl l)
open Go Go.V
noncomputable def aC (x:aj):Sq Int:=bif x.op==20 then x.args else ⟨(fM x.op).toNat,fun i=>[x.a,x.b,x.c].getD i 0⟩
noncomputable def Le (x:Sq aj):Int:=cU (fun i=>H8 (x.get i)) x.n
theorem MJ (x:aj):H8 x=(x.op != 1):=rfl
noncomputable def js (x:Sq aj):Nat:=nP (fun i=>H8 (x.get i)) x.n 0
def sR (op:Int):Bool:=cC op [5,6,7,8,9,15,18,21]||(op==3||op==4)
noncomputable def eN (v:pZ):Bool:=np v&&(v.kind != 0 && v.kind != 5)
noncomputable def xq:ByteArray:=ByteArray.mk #[]
noncomputable def kP (x:Sq ByteArray) (k:Nat):Bool := !jL (x.get k) xq&&(cU (fun i=>jL (x.get i) (x.get k)) x.n==(k:Int))
noncomputable def kL (x:Sq ByteArray):Bool:=dn (kP x) x.n&&decide ((x.n:Int)≤64)
noncomputable def gR (op:Int):Int×Int:=
 bif op==3 then (3,4) else bif op==4 then (5,14) else bif op==5 then (0,1) else bif op==6 then (1,6) else bif op==10 then (0,63) else bif op==11 then (0,63) else bif op==15 then (0,600) else bif op==18 then (1,200)
 else bif op==7 then (0,9223372036854775807) else bif op==16 then (0,9223372036854775807) else bif op==17 then (0,9223372036854775807) else (0,0)
def Uw (x:Int×Int):D:=.t [(false,[.im (iI x.1)]),(false,[.im (iI x.2)])]
noncomputable def F3L:CA:=[
 (50,fun ds rs=>(bool (Ci (aI ds 1) (OO ds 0)),[],[])),
 (51,fun ds rs=>(bool (cC (aI ds 0) [1,2,3,4,10,12,14,16,17]),[],[])),
 (62,fun ds rs=>(bool (cC (aI ds 0) [5,6,7,8,9,15,18,21]),[],[])),
 (54,fun ds rs=>(bool (cC (aI ds 0) [2,3,4,5,6,7,8,9,10,12,14]),[],[])),
 (58,fun ds rs=>(int (Le (Ic jo (gD (aD ds 0) 0))),[],[])),
 (61,fun ds rs=>(bool (sR (aI ds 0)),[],[])),
 (41,fun ds rs=>(int (js (gj ds 0).ins),[],[])),
 (78,fun ds rs=>(int (js (gj ds 0).ins),[],[])),
 (49,fun ds rs=>(bool (eN (Rj ds 0)),[],[])),
 (94,fun ds rs=>(bool (eN (Rj ds 0)),[],[])),
 (84,fun ds rs=>(Uw (gR (aI ds 0)),[],[])),
 (85,fun ds rs=>(bool (kL (yB ds 0)),[],[])),
 (93,fun ds rs=>(bool (kL (yB ds 0)),[],[])),
 (63,fun ds rs=>(eT 1 b8 (aC (si ds 0)),[],[])),
 (40,fun ds rs=>(eT 1 b8 (aC (si ds 0)),[],[]))]
noncomputable def F3:=ext F2 F3L
noncomputable def TU (j:Int):hX:={ F:=ext F2 [(70,fun ds rs=>(int j,[],[]))] }
noncomputable def ZI:hX:={ F:=F3 }
def YM:Nat→Bool:=cw
theorem au7:Fn 50:=⟨by kernel_rfl,by kernel_rfl⟩
theorem ar7 (L:LP) (QD:D→Prop) (x:Sq Int) (v:Int) (h:(LC 67 [(mE x),(int v)] [] (int (cU (fun i=>v==x.2 i) x.1)) []∧QD (bool (decide (cU (fun i=>v==x.2 i) x.1≥0))))):fS ZI 50 YM L (aZ QD) [eT 1 b8 x,int v] []:=Eq.mp (by kernel_rfl) h
theorem M8 (x:Sq Int) (v:Int):LC 50 [eT 1 b8 x,int v] [] (bool (Ci v x)) []:=
 aU (X:=ZI) (stop:=YM) au7 (bg (by kernel_rfl)) (ar7 _ _ x v ⟨Zq _ _,aX.refl _⟩)
noncomputable def Uc:hX:={ F:=F3 }
def Ui:Nat→Bool:=cw
theorem Zg:Fn 51:=⟨by kernel_rfl,by kernel_rfl⟩
noncomputable abbrev UU (ax:Int):D:=bool (Ci ax { n:=9,get:=fun i=>rI (flat 1 [I.v (Value.int IntKind.i64 1),I.v (Value.int IntKind.i64 2),I.v (Value.int IntKind.i64 3),I.v (Value.int IntKind.i64 4),I.v (Value.int IntKind.i64 10),I.v (Value.int IntKind.i64 12),I.v (Value.int IntKind.i64 14),I.v (Value.int IntKind.i64 16),I.v (Value.int IntKind.i64 17)] i) })
theorem aa4 (L:LP) (QD:D→Prop) (op:Int) (h:(LC 50 [(.c (.im (.sl 1 9 (flat 1 [I.v (Value.int IntKind.i64 1),I.v (Value.int IntKind.i64 2),I.v (Value.int IntKind.i64 3),I.v (Value.int IntKind.i64 4),I.v (Value.int IntKind.i64 10),I.v (Value.int IntKind.i64 12),I.v (Value.int IntKind.i64 14),I.v (Value.int IntKind.i64 16),I.v (Value.int IntKind.i64 17)])))),(int op)] [] (UU op) []∧QD (UU op))):fS Uc 51 Ui L (aZ QD) [int op] []:=Eq.mp (by kernel_rfl) h
theorem Gu (op:Int):LC 51 [int op] [] (bool (cC op [1,2,3,4,10,12,14,16,17])) []:=by
 refine aU (X:=Uc) (stop:=Ui) Zg (bg (by kernel_rfl)) (aa4 _ _ op ⟨VI (G0 [1,2,3,4,10,12,14,16,17]) (M8 _ _),?_⟩)
 have e:=B8 op [1,2,3,4,10,12,14,16,17]
 rw [← e]
 exact aX.refl _
noncomputable def ac4:hX:={ F:=F3 }
def Yn:Nat→Bool:=cw
theorem am4:Fn 62:=⟨by kernel_rfl,by kernel_rfl⟩
noncomputable abbrev PB (ax:Int):D:=bool (Ci ax { n:=8,get:=fun i=>rI (flat 1 [I.v (Value.int IntKind.i64 5),I.v (Value.int IntKind.i64 6),I.v (Value.int IntKind.i64 7),I.v (Value.int IntKind.i64 8),I.v (Value.int IntKind.i64 9),I.v (Value.int IntKind.i64 15),I.v (Value.int IntKind.i64 18),I.v (Value.int IntKind.i64 21)] i) })
theorem am0 (L:LP) (QD:D→Prop) (op:Int) (h:(LC 50 [(.c (.im (.sl 1 8 (flat 1 [I.v (Value.int IntKind.i64 5),I.v (Value.int IntKind.i64 6),I.v (Value.int IntKind.i64 7),I.v (Value.int IntKind.i64 8),I.v (Value.int IntKind.i64 9),I.v (Value.int IntKind.i64 15),I.v (Value.int IntKind.i64 18),I.v (Value.int IntKind.i64 21)])))),(int op)] [] (PB op) []∧QD (PB op))):fS ac4 62 Yn L (aZ QD) [int op] []:=Eq.mp (by kernel_rfl) h
theorem UH (op:Int):LC 62 [int op] [] (bool (cC op [5,6,7,8,9,15,18,21])) []:=by
 refine aU (X:=ac4) (stop:=Yn) am4 (bg (by kernel_rfl)) (am0 _ _ op ⟨VI (G0 [5,6,7,8,9,15,18,21]) (M8 _ _),?_⟩)
 have e:=B8 op [5,6,7,8,9,15,18,21]
 rw [← e]
 exact aX.refl _
noncomputable def YK:hX:={ F:=F3 }
def YY:Nat→Bool:=cw
theorem ak9:Fn 54:=⟨by kernel_rfl,by kernel_rfl⟩
noncomputable abbrev Ux (ax:Int):D:=bool (Ci ax { n:=11,get:=fun i=>rI (flat 1 [I.v (Value.int IntKind.i64 2),I.v (Value.int IntKind.i64 3),I.v (Value.int IntKind.i64 4),I.v (Value.int IntKind.i64 5),I.v (Value.int IntKind.i64 6),I.v (Value.int IntKind.i64 7),I.v (Value.int IntKind.i64 8),I.v (Value.int IntKind.i64 9),I.v (Value.int IntKind.i64 10),I.v (Value.int IntKind.i64 12),I.v (Value.int IntKind.i64 14)] i) })
theorem at6 (L:LP) (QD:D→Prop) (op:Int) (h:(LC 50 [(.c (.im (.sl 1 11 (flat 1 [I.v (Value.int IntKind.i64 2),I.v (Value.int IntKind.i64 3),I.v (Value.int IntKind.i64 4),I.v (Value.int IntKind.i64 5),I.v (Value.int IntKind.i64 6),I.v (Value.int IntKind.i64 7),I.v (Value.int IntKind.i64 8),I.v (Value.int IntKind.i64 9),I.v (Value.int IntKind.i64 10),I.v (Value.int IntKind.i64 12),I.v (Value.int IntKind.i64 14)])))),(int op)] [] (Ux op) []∧QD (Ux op))):fS YK 54 YY L (aZ QD) [int op] []:=Eq.mp (by kernel_rfl) h
theorem T7 (op:Int):LC 54 [int op] [] (bool (cC op [2,3,4,5,6,7,8,9,10,12,14])) []:=by
 refine aU (X:=YK) (stop:=YY) ak9 (bg (by kernel_rfl)) (at6 _ _ op ⟨VI (G0 [2,3,4,5,6,7,8,9,10,12,14]) (M8 _ _),?_⟩)
 have e:=B8 op [2,3,4,5,6,7,8,9,10,12,14]
 rw [← e]
 exact aX.refl _
noncomputable def Yf:hX:={ F:=F3 }
def ZY:Nat→Bool:=cw
theorem am5:Fn 61:=⟨by kernel_rfl,by kernel_rfl⟩
theorem an6 (L:LP) (QD:D→Prop) (op:Int) (h:(LC 62 [(int op)] [] (bool (cC op [5,6,7,8,9,15,18,21])) []∧br (cC op [5,6,7,8,9,15,18,21]) (QD (bool true)) (br (op==3) (QD (bool true)) (QD (bool (op==4)))))):fS Yf 61 ZY L (aZ QD) [int op] []:=Eq.mp (by kernel_rfl) h
theorem ZD (op:Int):LC 61 [int op] [] (bool (sR op)) []:=by
 refine aU (X:=Yf) (stop:=ZY) am5 (bg (by kernel_rfl)) (an6 _ _ op ⟨UH _,?_⟩)
 refine ak (fun h=>?_) (fun h=>ak (fun h2=>?_) (fun h2=>?_))
 ·have e:sR op=true:=by simp only [sR,h,Bool.true_or]
  rw [e]; exact aX.refl _
 ·have e:sR op=true:=by simp only [sR,h2,Bool.true_or,Bool.or_true]
  rw [e]; exact aX.refl _
 ·have e:sR op=(op==4):=by simp only [sR,h,h2,Bool.false_or]
  rw [e]; exact aX.refl _
noncomputable def Oi:hX:={ F:=F3 }
def Mx:Nat→Bool:=fun i=>Nat.beq i 2
theorem YO:Fn 58:=⟨by kernel_rfl,by kernel_rfl⟩
noncomputable abbrev Ac (ax:Sq aj):D:=.c (.im (.sl 14 ax.1 (fun i=>cy (ax.2 i))))
noncomputable abbrev sU (ax:Sq aj):gF:=(0,((Ac ax),[]))
noncomputable abbrev ep (ax:Sq aj):D:=int (↑ax.1:Int)
noncomputable abbrev tM (ax:Sq aj):gF:=(7,((ep ax),[]))
theorem ar4 (L:LP) (QD:D→Prop) (x:Sq aj) (h:L (ag 58 2) ⟨[(sU x),(1,((.c (.im (.fn 59 0 (fun x=>I.v (Value.bool false))))),[])),(tM x),oN],[],[]⟩):fS Oi 58 Mx L (aZ QD) [eT 14 cy x,.c (.im (.fn 59 0 fun _=>.v (.bool false)))] []:=Eq.mp (by kernel_rfl) h
noncomputable def Md (x:Sq aj) (k:Nat):VS:=⟨[(0,(Ac x),[]),(1,(.c (.im (.fn 59 0 (fun x=>I.v (Value.bool false))))),[]),(7,(ep x),[]),(8,int k,[])],[],[]⟩
theorem OB (L:LP) (QD:D→Prop) (x:Sq aj) (k:Nat) (h:br (decide ((↑k:Int)<(↑x.1:Int))) (nd (cd (↑k:Int) x.1) ((LC 59 [(.a (lift (aT (x.2 k))))] [] (bool (H8 (x.2 k))) []∧br (H8 (x.2 k)) (QD (int (↑k:Int))) (L (ag 58 2) ⟨[(sU x),(1,((.c (.im (.fn 59 0 (fun x=>I.v (Value.bool false))))),[])),(tM x),(8,((int (IntKind.i64.wrap ((↑k:Int)+1))),[]))],[],[]⟩)))) (QD (int (-1)))):dq Oi 58 Mx L (aZ QD) 2 (Md x k):=Eq.mp (by kernel_rfl) h
theorem al1 (x:Sq aj) (a:Int) (hx:x.n≤maxLen):∀ k,k≤x.n→gu (fun i=>H8 (x.get i)) (x.n-k) k=a→af 58 0 (aW (int a)) (ag 58 2) (Md x k):=by
 refine aL (fun k hk ih ha=>?_) (fun ha=>?_)
 ·have e:x.n-k=(x.n-(k+1))+1:=by omega
  rw [e] at ha
  refine aH (X:=Oi) (stop:=Mx) (OB _ _ x k ?_)
  refine ak (fun h=>?_) (fun h=>(dec_lt h hk).elim)
  refine aw (aA hk) ⟨ae4 _,?_⟩
  refine ak (fun h1=>?_) (fun h1=>?_)
  ·rw [gY (p:=fun i=>H8 (x.get i)) h1] at ha
   subst ha; exact aX.refl _
  ·rw [fI (p:=fun i=>H8 (x.get i)) h1] at ha
   rw [bR hk hx]
   exact ih ha
 ·rw [Nat.sub_self] at ha
  refine aH (X:=Oi) (stop:=Mx) (OB _ _ x _ ?_)
  refine ak (fun h=>bJ h) (fun h=>?_)
  subst ha; exact aX.refl _
theorem YN (x:Sq aj):LC 58 [eT 14 cy x,.c (.im (.fn 59 0 fun _=>.v (.bool false)))] [] (int (Le x)) []:=
 cu.with YO (p:=x.n≤maxLen) (fun E av w vs h=>by cases h with|cons q _=>exact jc q) fun hx=>
  aU (X:=Oi) (stop:=Mx) YO (bg (by kernel_rfl)) (ar4 _ _ x (al1 x _ hx 0 (bu _) rfl))
noncomputable def Zz:hX:={ F:=F3 }
def aa9:Nat→Bool:=cw
theorem ap9:Fn 41:=⟨by kernel_rfl,by kernel_rfl⟩
noncomputable abbrev pk (ax:ae):D:=int (↑ax.2.1:Int)
theorem ao3 (L:LP) (QD:D→Prop) (t:ae) (h:(LC 58 [(.c (.im (.sl 14 t.2.1 (fun i=>cy (t.ins.2 i))))),(.c (.im (.fn 59 0 (fun x=>I.v (Value.bool false)))))] [] (int (Le t.2)) []∧br (decide (Le t.2<0)) (QD (pk t)) (QD (int (Le t.2))))):fS Zz 41 aa9 L (aZ QD) [bc t] []:=Eq.mp (by kernel_rfl) h
theorem ac5 (t:ae):LC 41 [bc t] [] (int (js t.ins)) []:=by
 have key:=Jm (p:=fun i=>H8 (t.ins.get i)) (m:=t.ins.n) (k:=0)
 rw [Nat.zero_add] at key
 refine aU (X:=Zz) (stop:=aa9) ap9 (bg (by kernel_rfl)) (ao3 _ _ t ⟨YN _,?_⟩)
 refine ak (fun h=>?_) (fun h=>?_)
 ·have e:(js t.ins:Int)=(t.ins.n:Int):=by unfold js; rw [← key]; exact (congrArg (fun b=>bif b then _ else _) h)
  rw [e]; exact aX.refl _
 ·have e:(js t.ins:Int)=Le t.ins:=by unfold js; rw [← key]; exact (congrArg (fun b=>bif b then _ else _) h)
  rw [e]; exact aX.refl _
noncomputable def DL:hX:={ F:=F3 }
def EF:Nat→Bool:=fun i=>Nat.beq i 2
theorem U7:Fn 78:=⟨by kernel_rfl,by kernel_rfl⟩
noncomputable abbrev b5:gF:=(1,((.c (.rt 0 0 0)),[]))
noncomputable abbrev bC (ax:ae):ah:=.box (lift (cB (ax)))
theorem Y8 (L:LP) (QD:D→Prop) (t:ae) (h:L (ag 78 2) ⟨[b5,(3,((int 0),[]))],[(bC t)],[]⟩):fS DL 78 EF L (aZ QD) [bc t] []:=Eq.mp (by kernel_rfl) h
noncomputable abbrev lV:gF:=(1,(.c (.rt 0 0 0)),[])
noncomputable def I9 (t:ae) (k:Nat):VS:=⟨[lV,(3,int k,[])],[(bC t)],[]⟩
theorem I3 (L:LP) (QD:D→Prop) (t:ae) (k:Nat) (h:br (decide ((↑k:Int)<(↑t.2.1:Int))) (nd (cd (↑k:Int) t.2.1) (br ((t.ins.2 k).1==1) (L (ag 78 2) ⟨[b5,(3,((int (IntKind.i64.wrap ((↑k:Int)+1))),[]))],[(bC t)],[]⟩) (QD (int (↑k:Int))))) (QD (int (↑k:Int)))):dq DL 78 EF L (aZ QD) 2 (I9 t k):=Eq.mp (by kernel_rfl) h
theorem Yh (t:ae) (a:Nat) (hx:t.ins.n≤maxLen):∀ k,k≤t.ins.n→nP (fun i=>H8 (t.ins.get i)) (t.ins.n-k) k=a→af 78 0 (aW (int a)) (ag 78 2) (I9 t k):=by
 refine aL (fun k hk ih ha=>?_) (fun ha=>?_)
 ·have e:t.ins.n-k=(t.ins.n-(k+1))+1:=by omega
  rw [e] at ha
  refine aH (X:=DL) (stop:=EF) (I3 _ _ t k ?_)
  refine ak (fun h=>?_) (fun h=>(dec_lt h hk).elim)
  refine aw (aA hk) ?_
  refine ak (fun h1=>?_) (fun h1=>?_)
  ·rw [Hs (p:=fun i=>H8 (t.ins.get i)) (by rw [MJ,bne,show ((t.ins.get k).op==1)=true from h1]; rfl)] at ha
   rw [bR hk hx]
   exact ih ha
  ·rw [KL (p:=fun i=>H8 (t.ins.get i)) (by rw [MJ,bne,show ((t.ins.get k).op==1)=false from h1]; rfl)] at ha
   subst ha; exact aX.refl _
 ·rw [Nat.sub_self] at ha
  refine aH (X:=DL) (stop:=EF) (I3 _ _ t _ ?_)
  refine ak (fun h=>bJ h) (fun h=>?_)
  subst ha; exact aX.refl _
theorem KF {t:ae} {E:Env} {av:Nat→Prop} {w:World} {v:Value} (h:a7 E av w (bc t) v):t.ins.n≤maxLen∧t.aa.n≤maxLen:=by
 obtain ⟨⟨cs⟩,rfl,h⟩:=h
 cases h with|cons _ h=>cases h with|cons _ h=>cases h with|cons h1 h=>cases h with|cons h2 h=>
  obtain ⟨_,_,_,_,h1,_⟩:=h1
  obtain ⟨_,_,_,_,h2,_⟩:=h2
  exact ⟨h1,h2⟩
theorem Vn (t:ae):LC 78 [bc t] [] (int (js t.ins)) []:=
 cu.with U7 (p:=t.ins.n≤maxLen) (fun E av w vs h=>by cases h with|cons q _=>exact (KF q).1) fun hx=>
  aU (X:=DL) (stop:=EF) U7 (bg (by kernel_rfl)) (Y8 _ _ t (Yh t _ hx 0 (bu _) rfl))
noncomputable def YR:hX:={ F:=F3 }
def ab8:Nat→Bool:=cw
theorem ak4:Fn 40:=⟨by kernel_rfl,by kernel_rfl⟩
noncomputable abbrev gz (ax:aj):D:=.c (.im (.sl 1 1 (flat 1 [iI ax.2])))
noncomputable abbrev nQ (ax:aj):D:=.c (.im (.sl 1 2 (flat 1 [iI ax.2,iI ax.3])))
noncomputable abbrev pq (ax:aj):C:=.im (.sl 1 ax.6.1 (fun i=>b8 (ax.args.2 i)))
noncomputable abbrev b6:C:=.im (.v (.slice .none 0 0))
theorem al9 (L:LP) (QD:D→Prop) (x:aj) (h:br (x.1==3) (QD (gz x)) (br (x.1==5) (QD (gz x)) (br (x.1==6) (QD (gz x)) (br (x.1==7) (QD (gz x)) (br (x.1==8) (QD (gz x)) (br (x.1==10) (QD (gz x)) (br (x.1==14) (QD (gz x)) (br (x.1==19) (QD (gz x)) (br (x.1==4) (QD (nQ x)) (br (x.1==9) (QD (nQ x)) (br (x.1==12) (QD (nQ x)) (br (x.1==11) (QD (nQ x)) (br (x.1==13) (QD (.c (.im (.sl 1 3 (flat 1 [iI x.2,iI x.3,iI x.4]))))) (br (x.1==20) (QD (.c (pq x))) (QD (.c b6)))))))))))))))):fS YR 40 ab8 L (aZ QD) [gT x] []:=Eq.mp (by kernel_rfl) h
theorem zP (x:aj):LC 40 [gT x] [] (eT 1 b8 (aC x)) []:=by
 have one:∀ (l:List Int) (n:Nat),n≤l.length→aX (.c (.im (.sl 1 n (flat 1 (l.map iI))))) (eT 1 b8 ⟨n,fun i=>l.getD i 0⟩):=fun l n hn=>JY fun i hi j hj=>by
  have:j=0:=by omega
  subst this
  show dr (bH (l.map iI) (i*1+0)) _
  rw [Nat.mul_one,Nat.add_zero,mM (by omega)]
  exact dr.refl _
 have sub:∀ (l m:List Int) (n:Nat),n≤l.length→(∀ i,i<n→l.getD i 0=m.getD i 0)→aX (.c (.im (.sl 1 n (flat 1 (l.map iI))))) (eT 1 b8 ⟨n,fun i=>m.getD i 0⟩):=fun l m n hn hm E av w v h=>by
  refine JY (fun i hi j hj=>?_) E av w v (one l n hn E av w v h)
  show dr (iI (l.getD i 0)) (iI (m.getD i 0))
  rw [hm i hi]; exact dr.refl _
 have c1:∀ op:Int,fM op=1→(op==20)=false→x.op=op→aX (.c (.im (.sl 1 1 (flat 1 [iI x.a])))) (eT 1 b8 (aC x)):=fun op h1 h2 h3=>by
  have e:aC x=⟨1,fun i=>[x.a,x.b,x.c].getD i 0⟩:=by unfold aC; rw [h3,h1,h2]; rfl
  rw [e]
  exact sub [x.a] [x.a,x.b,x.c] 1 (bk _) fun i hi=>by
                                   have:i=0:=by omega
                                   subst this; rfl
 have c2:∀ op:Int,fM op=2→(op==20)=false→x.op=op→aX (.c (.im (.sl 1 2 (flat 1 [iI x.a,iI x.b])))) (eT 1 b8 (aC x)):=fun op h1 h2 h3=>by
  have e:aC x=⟨2,fun i=>[x.a,x.b,x.c].getD i 0⟩:=by unfold aC; rw [h3,h1,h2]; rfl
  rw [e]
  exact sub [x.a,x.b] [x.a,x.b,x.c] 2 (bk _) fun i hi=>by
   match i,hi with
   | 0,_=>rfl
   | 1,_=>rfl
 refine aU (X:=YR) (stop:=ab8) ak4 (bg (by kernel_rfl)) (al9 _ _ x ?_)
 refine ak (fun h=>c1 3 rfl rfl (eq_of_beq h)) (fun h3=>?_)
 refine ak (fun h=>c1 5 rfl rfl (eq_of_beq h)) (fun h5=>?_)
 refine ak (fun h=>c1 6 rfl rfl (eq_of_beq h)) (fun h6=>?_)
 refine ak (fun h=>c1 7 rfl rfl (eq_of_beq h)) (fun h7=>?_)
 refine ak (fun h=>c1 8 rfl rfl (eq_of_beq h)) (fun h8=>?_)
 refine ak (fun h=>c1 10 rfl rfl (eq_of_beq h)) (fun nN=>?_)
 refine ak (fun h=>c1 14 rfl rfl (eq_of_beq h)) (fun h14=>?_)
 refine ak (fun h=>c1 19 rfl rfl (eq_of_beq h)) (fun h19=>?_)
 refine ak (fun h=>c2 4 rfl rfl (eq_of_beq h)) (fun h4=>?_)
 refine ak (fun h=>c2 9 rfl rfl (eq_of_beq h)) (fun h9=>?_)
 refine ak (fun h=>c2 12 rfl rfl (eq_of_beq h)) (fun yX=>?_)
 refine ak (fun h=>c2 11 rfl rfl (eq_of_beq h)) (fun uP=>?_)
 refine ak (fun h=>?_) (fun LO=>ak (fun h=>?_) (fun h20=>?_))
 ·have e:aC x=⟨3,fun i=>[x.a,x.b,x.c].getD i 0⟩:=by unfold aC; rw [show x.op=13 from eq_of_beq h]; rfl
  rw [e]
  exact one [x.a,x.b,x.c] 3 (bk _)
 ·have e:aC x=x.args:=by unfold aC; rw [show (x.op==20)=true from h]; rfl
  rw [e]; exact aX.refl _
 ·have e:aC x=⟨0,fun i=>[x.a,x.b,x.c].getD i 0⟩:=by
   have hm:fM x.op=0:=by simp only [fM,show (x.op==3)=false from h3,show (x.op==5)=false from h5,show (x.op==6)=false from h6,show (x.op==7)=false from h7,show (x.op==8)=false from h8,show (x.op==10)=false from nN,show (x.op==14)=false from h14,show (x.op==19)=false from h19,show (x.op==4)=false from h4,show (x.op==9)=false from h9,show (x.op==12)=false from yX,show (x.op==11)=false from uP,show (x.op==13)=false from LO,cond_false]
   unfold aC; rw [hm,show (x.op==20)=false from h20]; rfl
  rw [e]; exact nil_le
noncomputable def Um:hX:={ F:=F3 }
def U0:Nat→Bool:=cw
theorem Zw:Fn 49:=⟨by kernel_rfl,by kernel_rfl⟩
theorem Y2 (L:LP) (QD:D→Prop) (v:pZ) (h:(LC 66 [(.a (lift (Lh (v))))] [] (bool (np v)) []∧br (np v) (br (v.1 != 0) (QD (bool (v.1 != 5))) (QD (bool false))) (QD (bool false)))):fS Um 49 U0 L (aZ QD) [HW v] []:=Eq.mp (by kernel_rfl) h
theorem vN (v:pZ):LC 49 [HW v] [] (bool (eN v)) []:=by
 refine aU (X:=Um) (stop:=U0) Zw (bg (by kernel_rfl)) (Y2 _ _ v ⟨VV _,?_⟩)
 refine ak (fun h=>ak (fun h2=>?_) (fun h2=>?_)) (fun h=>?_)
 ·have e:eN v=(v.kind != 5):=by simp only [eN,h,show (v.kind != 0)=true from h2,Bool.true_and]
  rw [e]; exact aX.refl _
 ·have e:eN v=false:=by simp only [eN,h,show (v.kind != 0)=false from h2,Bool.true_and,Bool.false_and]
  rw [e]; exact aX.refl _
 ·have e:eN v=false:=by simp only [eN,h,Bool.false_and]
  rw [e]; exact aX.refl _
noncomputable def ZK:hX:={ F:=F3 }
def YL:Nat→Bool:=cw
theorem ar8:Fn 94:=⟨by kernel_rfl,by kernel_rfl⟩
theorem aj5 (L:LP) (QD:D→Prop) (v:pZ) (h:(LC 103 [(.a (lift (Lh (v))))] [] (bool (np v)) []∧br (np v) (br (v.1 != 0) (QD (bool (v.1 != 5))) (QD (bool false))) (QD (bool false)))):fS ZK 94 YL L (aZ QD) [HW v] []:=Eq.mp (by kernel_rfl) h
theorem af0 (v:pZ) (hs:v.s.size≤maxLen):LC 94 [HW v] [] (bool (eN v)) []:=by
 refine aU (X:=ZK) (stop:=YL) ar8 (bg (by kernel_rfl)) (aj5 _ _ v ⟨W7 _ hs,?_⟩)
 refine ak (fun h=>ak (fun h2=>?_) (fun h2=>?_)) (fun h=>?_)
 ·have e:eN v=(v.kind != 5):=by simp only [eN,h,show (v.kind != 0)=true from h2,Bool.true_and]
  rw [e]; exact aX.refl _
 ·have e:eN v=false:=by simp only [eN,h,show (v.kind != 0)=false from h2,Bool.true_and,Bool.false_and]
  rw [e]; exact aX.refl _
 ·have e:eN v=false:=by simp only [eN,h,Bool.false_and]
  rw [e]; exact aX.refl _
noncomputable def UI:hX:={ F:=F3 }
def U2:Nat→Bool:=cw
theorem Zt:Fn 84:=⟨by kernel_rfl,by kernel_rfl⟩
noncomputable abbrev FA:D:=.t [(.false,[(ci 0)]),(.false,[(ci 9223372036854775807)])]
theorem ac7 (L:LP) (QD:D→Prop) (op:Int) (h:br (op==3) (QD (.t [(.false,[(ci 3)]),(.false,[(ci 4)])])) (br (op==4) (QD (.t [(.false,[(ci 5)]),(.false,[(ci 14)])])) (br (op==5) (QD (.t [(.false,[(ci 0)]),(.false,[(ci 1)])])) (br (op==6) (QD (.t [(.false,[(ci 1)]),(.false,[(ci 6)])])) (br (op==10) (QD (.t [(.false,[(ci 0)]),(.false,[(ci 63)])])) (br (op==11) (QD (.t [(.false,[(ci 0)]),(.false,[(ci 63)])])) (br (op==15) (QD (.t [(.false,[(ci 0)]),(.false,[(ci 600)])])) (br (op==18) (QD (.t [(.false,[(ci 1)]),(.false,[(ci 200)])])) (br (op==7) (QD FA) (br (op==16) (QD FA) (br (op==17) (QD FA) (QD (.t [(.false,[(ci 0)]),(.false,[(ci 0)])]))))))))))))):fS UI 84 U2 L (aZ QD) [int op] []:=Eq.mp (by kernel_rfl) h
theorem WV (op:Int):LC 84 [int op] [] (Uw (gR op)) []:=by
 refine aU (X:=UI) (stop:=U2) Zt (bg (by kernel_rfl)) (ac7 _ _ op ?_)
 repeat' (refine ak (fun h=>?_) (fun h=>?_))
 all_goals (simp only [gR, *,cond_true,cond_false]; exact aX.refl _)
noncomputable def Ey:hX:={ F:=F3 }
def Dj:Nat→Bool:=fun i=>Nat.beq i 2
theorem T6:Fn 85:=⟨by kernel_rfl,by kernel_rfl⟩
theorem Y6 (L:LP) (QD:D→Prop) (x:Sq ByteArray) (h:L (ag 85 2) ⟨[(kc x),(5,((jt x),[])),(6,((nw x),[])),(7,((int 0),[]))],[],[]⟩):fS Ey 85 Dj L (aZ QD) [eT 1 eD x] []:=Eq.mp (by kernel_rfl) h
noncomputable def JH (x:Sq ByteArray) (k:Nat):VS:=⟨[(0,(jt x),[]),(5,(jt x),[]),(6,(nw x),[]),(7,int k,[])],[],[]⟩
theorem Jq (L:LP) (QD:D→Prop) (x:Sq ByteArray) (k:Nat) (h:br (decide ((↑k:Int)<(↑x.1:Int))) (nd (cd (↑k:Int) x.1) (br ((x.2 k).toList==(ByteArray.mk #[]).toList) (QD (bool false)) ((LC 98 [(jt x),(.c (.im (.v (.string (x.2 k)))))] [] (int (cU (fun i=>(x.2 k).toList==(x.2 i).toList) x.1)) []∧br (cU (fun i=>(x.2 k).toList==(x.2 i).toList) x.1 != (↑k:Int)) (QD (bool false)) (L (ag 85 2) ⟨[(kc x),(5,((jt x),[])),(6,((nw x),[])),(7,((int (IntKind.i64.wrap ((↑k:Int)+1))),[]))],[],[]⟩))))) (QD (bool (decide ((↑x.1:Int)≤64))))):dq Ey 85 Dj L (aZ QD) 2 (JH x k):=Eq.mp (by kernel_rfl) h
theorem Zf (x:Sq ByteArray) (a:Bool) (hx:x.n≤maxLen):∀ k,k≤x.n→(bS (kP x) (x.n-k) k&&decide ((x.n:Int)≤64))=a→af 85 0 (aW (bool a)) (ag 85 2) (JH x k):=by
 refine aL (fun k hk ih ha=>?_) (fun ha=>?_)
 ·have e:x.n-k=(x.n-(k+1))+1:=by omega
  rw [e] at ha
  refine aH (X:=Ey) (stop:=Dj) (Jq _ _ x k ?_)
  refine ak (fun h=>?_) (fun h=>(dec_lt h hk).elim)
  refine aw (aA hk) (ak (fun h1=>?_) (fun h1=>?_))
  ·rw [cO (p:=kP x) (by unfold kP; rw [show jL (x.get k) xq=true from h1]; rfl)] at ha
   subst ha; exact aX.refl _
  ·refine ⟨VH _ _,?_⟩
   have ee:cU (fun i=>(x.get k).toList==(x.get i).toList) x.n=cU (fun i=>jL (x.get i) (x.get k)) x.n:=congrArg (fun p=>cU p x.n) (funext fun i=>Fm _ _)
   refine ak (fun h2=>?_) (fun h2=>?_)
   ·rw [cO (p:=kP x) (by unfold kP; rw [← ee]; simp only [bne,Bool.not_eq_true'] at h2; rw [h2,Bool.and_false])] at ha
    subst ha; exact aX.refl _
   ·rw [dI (p:=kP x) (by unfold kP; rw [← ee]; simp only [bne,Bool.not_eq_false'] at h2; rw [h2,show jL (x.get k) xq=false from h1]; rfl)] at ha
    rw [bR hk hx]
    exact ih ha
 ·rw [Nat.sub_self] at ha
  refine aH (X:=Ey) (stop:=Dj) (Jq _ _ x _ ?_)
  refine ak (fun h=>bJ h) (fun h=>?_)
  subst ha; exact aX.refl _
theorem HF (x:Sq ByteArray):LC 85 [eT 1 eD x] [] (bool (kL x)) []:=
 cu.with T6 (p:=x.n≤maxLen) (fun E av w vs h=>by cases h with|cons q _=>exact jc q) fun hx=>
  aU (X:=Ey) (stop:=Dj) T6 (bg (by kernel_rfl)) (Y6 _ _ x (Zf x _ hx 0 (bu _) rfl))
noncomputable def Eg:hX:={ F:=F3 }
def DM:Nat→Bool:=fun i=>Nat.beq i 2
theorem UB:Fn 93:=⟨by kernel_rfl,by kernel_rfl⟩
theorem ab5 (L:LP) (QD:D→Prop) (x:Sq ByteArray) (h:L (ag 93 2) ⟨[(kc x),(3,((int 0),[]))],[],[]⟩):fS Eg 93 DM L (aZ QD) [eT 1 eD x] []:=Eq.mp (by kernel_rfl) h
noncomputable def IW (x:Sq ByteArray) (k:Nat):VS:=⟨[(0,(jt x),[]),(3,int k,[])],[],[]⟩
theorem Kb (L:LP) (QD:D→Prop) (x:Sq ByteArray) (k:Nat) (h:br (decide ((↑k:Int)<(↑x.1:Int))) (nd (cd (↑k:Int) x.1) (br ((x.2 k).toList==(ByteArray.mk #[]).toList) (QD (bool false)) (nd (cd (↑k:Int) x.1) ((LC 102 [(jt x),(.c (.im (.v (.string (x.2 k)))))] [] (int (cU (fun i=>(x.2 i).toList==(x.2 k).toList) x.1)) []∧br (cU (fun i=>(x.2 i).toList==(x.2 k).toList) x.1 != (↑k:Int)) (QD (bool false)) (L (ag 93 2) ⟨[(kc x),(3,((int (IntKind.i64.wrap ((↑k:Int)+1))),[]))],[],[]⟩)))))) (QD (bool (decide ((↑x.1:Int)≤64))))):dq Eg 93 DM L (aZ QD) 2 (IW x k):=Eq.mp (by kernel_rfl) h
theorem Yz (x:Sq ByteArray) (a:Bool) (hx:x.n≤maxLen):∀ k,k≤x.n→(bS (kP x) (x.n-k) k&&decide ((x.n:Int)≤64))=a→af 93 0 (aW (bool a)) (ag 93 2) (IW x k):=by
 refine aL (fun k hk ih ha=>?_) (fun ha=>?_)
 ·have e:x.n-k=(x.n-(k+1))+1:=by omega
  rw [e] at ha
  refine aH (X:=Eg) (stop:=DM) (Kb _ _ x k ?_)
  refine ak (fun h=>?_) (fun h=>(dec_lt h hk).elim)
  refine aw (aA hk) (ak (fun h1=>?_) (fun h1=>?_))
  ·rw [cO (p:=kP x) (by unfold kP; rw [show jL (x.get k) xq=true from h1]; rfl)] at ha
   subst ha; exact aX.refl _
  ·refine aw (aA hk) ⟨Vu _ _,?_⟩
   have ee:cU (fun i=>(x.get i).toList==(x.get k).toList) x.n=cU (fun i=>jL (x.get i) (x.get k)) x.n:=rfl
   refine ak (fun h2=>?_) (fun h2=>?_)
   ·rw [cO (p:=kP x) (by unfold kP; rw [← ee]; simp only [bne,Bool.not_eq_true'] at h2; rw [h2,Bool.and_false])] at ha
    subst ha; exact aX.refl _
   ·rw [dI (p:=kP x) (by unfold kP; rw [← ee]; simp only [bne,Bool.not_eq_false'] at h2; rw [h2,show jL (x.get k) xq=false from h1]; rfl)] at ha
    rw [bR hk hx]
    exact ih ha
 ·rw [Nat.sub_self] at ha
  refine aH (X:=Eg) (stop:=DM) (Kb _ _ x _ ?_)
  refine ak (fun h=>bJ h) (fun h=>?_)
  subst ha; exact aX.refl _
theorem HS (x:Sq ByteArray):LC 93 [eT 1 eD x] [] (bool (kL x)) []:=
 cu.with UB (p:=x.n≤maxLen) (fun E av w vs h=>by cases h with|cons q _=>exact jc q) fun hx=>
  aU (X:=Eg) (stop:=DM) UB (bg (by kernel_rfl)) (ab5 _ _ x (Yz x _ hx 0 (bu _) rfl))
open Go Go.V
noncomputable def cK (x y:aj):Bool:=x.op==y.op&&(x.a==y.a&&(x.b==y.b&&(x.c==y.c&&(x.n==y.n&&((x.k.kind==y.k.kind&&(x.k.n==y.k.n&&(x.k.s==y.k.s&&true)))&&((x.place.fn==y.place.fn&&(x.place.line==y.place.line&&true))&&(x.exit==y.exit&&((x.once==y.once)&&(cr (fun a b=>a==b) x.args y.args&&cr jL x.names y.names)))))))))
noncomputable def qU (x:aj):Bool := !(decide (x.op<0)||(decide (x.op>21)||(decide (x.n<(gR x.op).1)||decide (x.n>(gR x.op).2))))
noncomputable def pY (x:aj):Bool := !((decide (fM x.op<1)&&x.a != 0)||((decide (fM x.op<2)&&x.b != 0)||((decide (fM x.op<3)&&x.c != 0)||(x.op != 20&&decide ((x.args.n:Int)>0)))))
noncomputable def oc (x:aj):Bool := !((x.op==1&&(x.k.kind != 3 || (decide (x.k.n<0)||(decide (x.k.n≥24) || !(x.k.s.toList==(ByteArray.mk #[]).toList)))))||(x.op==2 && !eN x.k))
noncomputable def zeroV (v:pZ):Bool:=v.kind==0&&(v.n==0&&(v.s==(ByteArray.mk ⟨[]⟩)&&true))
noncomputable def eQ (p:Ga):Bool:=p.fn==0&&(p.line==0&&true)
noncomputable def mZ (x:aj):Bool := !(x.op != 1 && (x.op != 2 && !zeroV x.k))
noncomputable def fN (x:aj):Bool := !(decide (x.place.fn<0)||(decide (x.place.line<0)||(x.op != 19 && !eQ x.place)))
noncomputable def fj (x:aj):Bool:=bif x.op==7||(x.op==16||x.op==17) then kL x.names else ((x.names.n:Int)==0)
noncomputable def bo (x:aj):Bool:=qU x&&(pY x&&(oc x&&(mZ x&&(fN x&&fj x))))
noncomputable def pW (x:Sq iR) (v:Int):Int:=cU (fun i=>(x.get i).value==v) x.n
noncomputable def dC (t:ae) (n before:Int):Bool:=decide (n≥0)&&(decide (n<before)&&uU (t.ins.get n.toNat).op)
noncomputable def F4L:CA:=[
 (95,fun ds rs=>(bool (cK (si ds 0) (si ds 1)),[],[])),
 (60,fun ds rs=>(bool (bo (si ds 0)),[],[])),
 (80,fun ds rs=>(bool (dC (gj ds 0) (aI ds 1) (aI ds 2)),[],[])),
 (96,fun ds rs=>(int (pW (Ei ds 0).az (aI ds 1)),[],[]))]
noncomputable def F4:=ext F3 F4L
def DG:Nat→Bool:=cw
theorem Sh:Fn 63:=⟨by kernel_rfl,by kernel_rfl⟩
noncomputable abbrev H3:D:=.c (.im (.sl 1 0 (flat 1 [])))
theorem XO (L:LP) (QD:D→Prop) (x:aj) (h:br (x.1==20) (QD (.c (pq x))) ((LC 70 [(int x.1)] [] (int 0) []∧(LC 70 [(int x.1)] [] (int 0) []∧QD H3)))):fS (TU 0) 63 DG L (aZ QD) [gT x] []:=Eq.mp (by kernel_rfl) h
theorem W8 (L:LP) (QD:D→Prop) (x:aj) (h:br (x.1==20) (QD (.c (pq x))) ((LC 70 [(int x.1)] [] (int 1) []∧(LC 70 [(int x.1)] [] (int 1) []∧QD (gz x))))):fS (TU 1) 63 DG L (aZ QD) [gT x] []:=Eq.mp (by kernel_rfl) h
theorem WM (L:LP) (QD:D→Prop) (x:aj) (h:br (x.1==20) (QD (.c (pq x))) ((LC 70 [(int x.1)] [] (int 2) []∧(LC 70 [(int x.1)] [] (int 2) []∧QD (nQ x))))):fS (TU 2) 63 DG L (aZ QD) [gT x] []:=Eq.mp (by kernel_rfl) h
theorem Va (L:LP) (QD:D→Prop) (x:aj) (h:br (x.1==20) (QD (.c (pq x))) ((LC 70 [(int x.1)] [] (int 3) []∧(LC 70 [(int x.1)] [] (int 3) []∧QD (.c (.im (.sl 1 3 (flat 1 [iI x.2,iI x.3,iI x.4])))))))):fS (TU 3) 63 DG L (aZ QD) [gT x] []:=Eq.mp (by kernel_rfl) h
theorem aa8 {b:Bool} {x y:Int} (hx:x=0∨x=1∨x=2∨x=3) (hy:y=0∨y=1∨y=2∨y=3):(bif b then x else y)=0∨(bif b then x else y)=1∨(bif b then x else y)=2∨(bif b then x else y)=3:=by
 cases b
 ·exact hy
 ·exact hx
theorem tc (op:Int):fM op=0∨fM op=1∨fM op=2∨fM op=3:=by
 unfold fM
 iterate 13 (refine aa8 (by omega) ?_)
 omega
theorem Aj (l m:List Int) (n:Nat) (hn:n≤l.length) (hm:∀ i,i<n→l.getD i 0=m.getD i 0):aX (.c (.im (.sl 1 n (flat 1 (l.map iI))))) (eT 1 b8 ⟨n,fun i=>m.getD i 0⟩):=JY fun i hi j hj=>by
 have:j=0:=by omega
 subst this
 show dr (bH (l.map iI) (i*1+0)) (iI (m.getD i 0))
 rw [Nat.mul_one,Nat.add_zero,mM (by omega),hm i hi]
 exact dr.refl _
theorem Zn (x:aj):LC 63 [gT x] [] (eT 1 b8 (aC x)) []:=by
 have key:∀ n:Nat,fM x.op=n→(x.op==20)=false→aC x=⟨n,fun i=>[x.a,x.b,x.c].getD i 0⟩:=fun n h1 h2=>by
  unfold aC; rw [h1,h2]; rfl
 have lp:(x.op==20)=true→aC x=x.args:=fun h=>by unfold aC; rw [h]; rfl
 have c95:∀ n:Nat,fM x.op=n→LC 70 [int x.op] [] (int (n:Int)) []:=fun n h=>h▸Ug x.op
 have hl:[gT x].length≤(CK 63).ntmps:=bg (by kernel_rfl)
 rcases tc x.op with h|h|h|h
 ·refine aU (X:=TU 0) (stop:=DG) Sh hl (XO _ _ x (ak (fun h1=>?_) (fun h1=>⟨c95 0 h,c95 0 h,?_⟩)))
  ·rw [lp h1]; exact aX.refl _
  ·rw [key 0 h h1]; exact Aj [] [x.a,x.b,x.c] 0 (bk _) fun i hi=>by omega
 ·refine aU (X:=TU 1) (stop:=DG) Sh hl (W8 _ _ x (ak (fun h1=>?_) (fun h1=>⟨c95 1 h,c95 1 h,?_⟩)))
  ·rw [lp h1]; exact aX.refl _
  ·rw [key 1 h h1]; exact Aj [x.a] [x.a,x.b,x.c] 1 (bk _) fun i hi=>by
    match i,hi with
    | 0,_=>rfl
 ·refine aU (X:=TU 2) (stop:=DG) Sh hl (WM _ _ x (ak (fun h1=>?_) (fun h1=>⟨c95 2 h,c95 2 h,?_⟩)))
  ·rw [lp h1]; exact aX.refl _
  ·rw [key 2 h h1]; exact Aj [x.a,x.b] [x.a,x.b,x.c] 2 (bk _) fun i hi=>by
    match i,hi with
    | 0,_=>rfl
    | 1,_=>rfl
 ·refine aU (X:=TU 3) (stop:=DG) Sh hl (Va _ _ x (ak (fun h1=>?_) (fun h1=>⟨c95 3 h,c95 3 h,?_⟩)))
  ·rw [lp h1]; exact aX.refl _
  ·rw [key 3 h h1]; exact Aj [x.a,x.b,x.c] [x.a,x.b,x.c] 3 (bk _) fun i hi=>rfl
noncomputable def ab6:hX:={ F:=F4 }
def ac0:Nat→Bool:=cw
theorem at1:Fn 95:=⟨by kernel_rfl,by kernel_rfl⟩
noncomputable abbrev uj (ax:aj):D:=.c (.im (.sl 1 ax.8.1 (fun i=>eD (ax.names.2 i))))
theorem ap2 (L:LP) (QD:D→Prop) (x y:aj) (h:br (x.1==y.1) (br (x.2==y.2) (br (x.3==y.3) (br (x.4==y.4) (br (x.5==y.5) (br (x.7.1==y.7.1&&(x.7.2==y.7.2&&(x.7.3==y.7.3&&true))) (br (x.9.1==y.9.1&&(x.9.2==y.9.2&&true)) (br (x.10==y.10) (br (x.11==y.11) ((LC 104 [(.c (pq x)),(.c (pq y))] [] (bool (cr (fun a b=>a==b) x.6 y.6)) []∧br (cr (fun a b=>a==b) x.6 y.6) ((LC 97 [(uj x),(uj y)] [] (bool (cr jL x.8 y.8)) []∧QD (bool (cr jL x.8 y.8)))) (QD (bool false)))) (QD (bool false))) (QD (bool false))) (QD (bool false))) (QD (bool false))) (QD (bool false))) (QD (bool false))) (QD (bool false))) (QD (bool false))) (QD (bool false))):fS ab6 95 ac0 L (aZ QD) [gT x,gT y] []:=Eq.mp (by kernel_rfl) h
theorem Z5 (x y:aj):LC 95 [gT x,gT y] [] (bool (cK x y)) []:=by
 refine aU (X:=ab6) (stop:=ac0) at1 (bg (by kernel_rfl)) (ap2 _ _ x y ?_)
 repeat' (first|refine ak (fun h=>?_) (fun h=>?_)|refine ⟨Yt _ _,?_⟩|refine ⟨TS _ _,?_⟩|done)
 all_goals (try simp only [Bool.and_true] at *)
 all_goals first
  | (rw [show cK x y=false from by simp only [cK, *,aO]]; exact aX.refl _)
  | (rw [show cK x y=cr jL x.names y.names from by simp only [cK, *,aO]]; exact aX.refl _)
noncomputable def rD:hX:={ F:=F4 }
def rG:Nat→Bool:=fun i=>Nat.beq i 3||Nat.beq i 5||Nat.beq i 7||Nat.beq i 9||Nat.beq i 11||Nat.beq i 13
theorem ar0:Fn 60:=⟨by kernel_rfl,by kernel_rfl⟩
noncomputable abbrev b4 (ax:aj):ah:=.box (lift (aT (ax)))
theorem ao9 (L:LP) (QD:D→Prop) (x:aj) (h:(LC 84 [(int x.1)] [] (.t [(.false,[(ci ((gR x.1).1))]),(.false,[(ci ((gR x.1).2))])]) []∧(LC 70 [(int x.1)] [] (int (fM x.1)) []∧L (ag 60 3) ⟨[b5,(3,((int ((gR x.1).1)),[])),(4,((int ((gR x.1).2)),[])),(5,((int (fM x.1)),[]))],[(b4 x)],[]⟩))):fS rD 60 rG L (aZ QD) [gT x] []:=Eq.mp (by kernel_rfl) h
noncomputable def LS (x:aj)  : VS:=⟨[lV,(3,(int ((gR x.1).1)),[]),(4,(int ((gR x.1).2)),[]),(5,(int (fM x.1)),[])],[(b4 x)],[]⟩
theorem VK (L:LP) (QD:D→Prop) (x:aj)  (h:br (decide (x.1<0)) (QD (bool false)) (br (decide (x.1>21)) (QD (bool false)) (br (decide (x.5<(gR x.1).1)) (QD (bool false)) (br (decide (x.5>(gR x.1).2)) (QD (bool false)) (L (ag 60 5) ⟨[b5,(5,((int (fM x.1)),[])),(15,((bool false),[]))],[(b4 x)],[]⟩))))):dq rD 60 rG L (aZ QD) 3 (LS x ):=Eq.mp (by kernel_rfl) h
noncomputable def Ge (x:aj)  : VS:=⟨[lV,(5,(int (fM x.1)),[]),(15,(bool false),[])],[(b4 x)],[]⟩
noncomputable abbrev kx (ax:aj):VS:=⟨[b5,(36,((bool false),[]))],[(b4 ax)],[]⟩
theorem XR (L:LP) (QD:D→Prop) (x:aj)  (h:br (decide (fM x.1<1)) (br (x.2 != 0) (QD (bool false)) (br (decide (fM x.1<2)) (br (x.3 != 0) (QD (bool false)) (br (decide (fM x.1<3)) (br (x.4 != 0) (QD (bool false)) (br (x.1 != 20) (br (decide ((↑x.6.1:Int)>0)) (QD (bool false)) (L (ag 60 7) (kx x))) (L (ag 60 7) (kx x)))) (br (x.1 != 20) (br (decide ((↑x.6.1:Int)>0)) (QD (bool false)) (L (ag 60 7) (kx x))) (L (ag 60 7) (kx x))))) (br (decide (fM x.1<3)) (br (x.4 != 0) (QD (bool false)) (br (x.1 != 20) (br (decide ((↑x.6.1:Int)>0)) (QD (bool false)) (L (ag 60 7) (kx x))) (L (ag 60 7) (kx x)))) (br (x.1 != 20) (br (decide ((↑x.6.1:Int)>0)) (QD (bool false)) (L (ag 60 7) (kx x))) (L (ag 60 7) (kx x)))))) (br (decide (fM x.1<2)) (br (x.3 != 0) (QD (bool false)) (br (decide (fM x.1<3)) (br (x.4 != 0) (QD (bool false)) (br (x.1 != 20) (br (decide ((↑x.6.1:Int)>0)) (QD (bool false)) (L (ag 60 7) (kx x))) (L (ag 60 7) (kx x)))) (br (x.1 != 20) (br (decide ((↑x.6.1:Int)>0)) (QD (bool false)) (L (ag 60 7) (kx x))) (L (ag 60 7) (kx x))))) (br (decide (fM x.1<3)) (br (x.4 != 0) (QD (bool false)) (br (x.1 != 20) (br (decide ((↑x.6.1:Int)>0)) (QD (bool false)) (L (ag 60 7) (kx x))) (L (ag 60 7) (kx x)))) (br (x.1 != 20) (br (decide ((↑x.6.1:Int)>0)) (QD (bool false)) (L (ag 60 7) (kx x))) (L (ag 60 7) (kx x)))))):dq rD 60 rG L (aZ QD) 5 (Ge x ):=Eq.mp (by kernel_rfl) h
noncomputable def Gy (x:aj)  : VS:=⟨[lV,(36,(bool false),[])],[(b4 x)],[]⟩
noncomputable abbrev Au (ax:aj):VS:=⟨[b5,(73,((bool false),[]))],[(b4 ax)],[]⟩
theorem W4 (L:LP) (QD:D→Prop) (x:aj)  (h:br (x.1==1) (br (x.7.1 != 3) (QD (bool false)) (br (decide (x.7.2<0)) (QD (bool false)) (br (decide (x.7.2≥24)) (QD (bool false)) (br (!x.7.3.toList==(ByteArray.mk #[]).toList) (QD (bool false)) (br (x.1==2) ((LC 49 [(.a (lift (Lh (x.7))))] [] (bool (eN x.7)) []∧br (!eN x.7) (QD (bool false)) (L (ag 60 9) (Au x)))) (L (ag 60 9) (Au x))))))) (br (x.1==2) ((LC 49 [(.a (lift (Lh (x.7))))] [] (bool (eN x.7)) []∧br (!eN x.7) (QD (bool false)) (L (ag 60 9) (Au x)))) (L (ag 60 9) (Au x)))):dq rD 60 rG L (aZ QD) 7 (Gy x ):=Eq.mp (by kernel_rfl) h
noncomputable def Hq (x:aj)  : VS:=⟨[lV,(73,(bool false),[])],[(b4 x)],[]⟩
noncomputable abbrev Gk (ax:aj):VS:=⟨[b5,(112,((bool false),[]))],[(b4 ax)],[]⟩
theorem VR (L:LP) (QD:D→Prop) (x:aj)  (h:br (x.1 != 1) (br (x.1 != 2) (br (!(x.7.1==0&&(x.7.2==0&&(x.7.3=={ data:={ toList:=[] } }&&true)))) (QD (bool false)) (L (ag 60 11) (Gk x))) (L (ag 60 11) (Gk x))) (L (ag 60 11) (Gk x))):dq rD 60 rG L (aZ QD) 9 (Hq x ):=Eq.mp (by kernel_rfl) h
noncomputable def Bm (x:aj)  : VS:=⟨[lV,(112,(bool false),[])],[(b4 x)],[]⟩
theorem Sb (L:LP) (QD:D→Prop) (x:aj)  (h:br (decide (x.9.1<0)) (QD (bool false)) (br (decide (x.9.2<0)) (QD (bool false)) (br (x.1 != 19) (br (!(x.9.1==0&&(x.9.2==0&&true))) (QD (bool false)) (L (ag 60 13) ⟨[b5,(127,((bool false),[]))],[(b4 x)],[]⟩)) (L (ag 60 13) ⟨[b5,(127,((bool false),[]))],[(b4 x)],[]⟩)))):dq rD 60 rG L (aZ QD) 11 (Bm x ):=Eq.mp (by kernel_rfl) h
noncomputable def BO (x:aj)  : VS:=⟨[lV,(127,(bool false),[])],[(b4 x)],[]⟩
noncomputable abbrev mg (ax:aj):D:=bool (kL ax.8)
theorem QO (L:LP) (QD:D→Prop) (x:aj)  (h:br (x.1==7) ((LC 85 [(uj x)] [] (mg x) []∧QD (mg x))) (br (x.1==16) ((LC 85 [(uj x)] [] (mg x) []∧QD (mg x))) (br (x.1==17) ((LC 85 [(uj x)] [] (mg x) []∧QD (mg x))) (QD (bool ((↑x.8.1:Int)==0)))))):dq rD 60 rG L (aZ QD) 13 (BO x ):=Eq.mp (by kernel_rfl) h
theorem TP (x:aj):af 60 0 (aW (bool (fj x))) (ag 60 13) (BO x):=by
 refine aH (X:=rD) (stop:=rG) (QO _ _ x ?_)
 refine ak (fun h=>?_) (fun h=>ak (fun h2=>?_) (fun h2=>ak (fun h3=>?_) (fun h3=>?_)))
 ·refine ⟨HF _,?_⟩
  rw [show fj x=kL x.names from by simp only [fj,show (x.op==7)=true from h,Bool.true_or,cond_true]]; exact aX.refl _
 ·refine ⟨HF _,?_⟩
  rw [show fj x=kL x.names from by simp only [fj,show (x.op==16)=true from h2,Bool.true_or,Bool.or_true,cond_true]]; exact aX.refl _
 ·refine ⟨HF _,?_⟩
  rw [show fj x=kL x.names from by simp only [fj,show (x.op==17)=true from h3,Bool.or_true,cond_true]]; exact aX.refl _
 ·rw [show fj x=((x.names.n:Int)==0) from by simp only [fj,show (x.op==7)=false from h,show (x.op==16)=false from h2,show (x.op==17)=false from h3,Bool.or_false,cond_false]]; exact aX.refl _
theorem SN (x:aj):af 60 0 (aW (bool (fN x&&(fj x)))) (ag 60 11) (Bm x):=by
 refine aH (X:=rD) (stop:=rG) (Sb _ _ x ?_)
 have no:fN x=false→aX (bool false) (bool (fN x&&(fj x))):=fun e=>by rw [e]; exact aX.refl _
 have go:fN x=true→af 60 0 (aW (bool (fN x&&(fj x)))) (ag 60 13) (BO x):=fun e=>by rw [e]; exact TP x
 repeat' (first|refine ak (fun h=>?_) (fun h=>?_)|refine ⟨vN _,?_⟩|done)
 all_goals (try simp only [Bool.and_true,Bool.not_eq_true',Bool.not_eq_false'] at *)
 all_goals first
  | exact no (by simp only [fN,zeroV,eQ,Bool.and_true, *,aO])
  | exact go (by simp only [fN,zeroV,eQ,Bool.and_true, *,aO])
theorem Wq (x:aj):af 60 0 (aW (bool (mZ x&&(fN x&&(fj x))))) (ag 60 9) (Hq x):=by
 refine aH (X:=rD) (stop:=rG) (VR _ _ x ?_)
 have no:mZ x=false→aX (bool false) (bool (mZ x&&(fN x&&(fj x)))):=fun e=>by rw [e]; exact aX.refl _
 have go:mZ x=true→af 60 0 (aW (bool (mZ x&&(fN x&&(fj x))))) (ag 60 11) (Bm x):=fun e=>by rw [e]; exact SN x
 repeat' (first|refine ak (fun h=>?_) (fun h=>?_)|refine ⟨vN _,?_⟩|done)
 all_goals (try simp only [Bool.and_true,Bool.not_eq_true',Bool.not_eq_false'] at *)
 all_goals first
  | exact no (by simp only [mZ,zeroV,eQ,Bool.and_true, *,aO])
  | exact go (by simp only [mZ,zeroV,eQ,Bool.and_true, *,aO])
theorem Xp (x:aj):af 60 0 (aW (bool (oc x&&(mZ x&&(fN x&&(fj x)))))) (ag 60 7) (Gy x):=by
 refine aH (X:=rD) (stop:=rG) (W4 _ _ x ?_)
 have no:oc x=false→aX (bool false) (bool (oc x&&(mZ x&&(fN x&&(fj x))))):=fun e=>by rw [e]; exact aX.refl _
 have go:oc x=true→af 60 0 (aW (bool (oc x&&(mZ x&&(fN x&&(fj x)))))) (ag 60 9) (Hq x):=fun e=>by rw [e]; exact Wq x
 repeat' (first|refine ak (fun h=>?_) (fun h=>?_)|refine ⟨vN _,?_⟩|done)
 all_goals (try simp only [Bool.and_true,Bool.not_eq_true',Bool.not_eq_false'] at *)
 all_goals first
  | exact no (by simp only [oc,zeroV,eQ,Bool.and_true, *,aO])
  | exact go (by simp only [oc,zeroV,eQ,Bool.and_true, *,aO])
theorem Ww (x:aj):af 60 0 (aW (bool (pY x&&(oc x&&(mZ x&&(fN x&&(fj x))))))) (ag 60 5) (Ge x):=by
 refine aH (X:=rD) (stop:=rG) (XR _ _ x ?_)
 have no:pY x=false→aX (bool false) (bool (pY x&&(oc x&&(mZ x&&(fN x&&(fj x)))))):=fun e=>by rw [e]; exact aX.refl _
 have go:pY x=true→af 60 0 (aW (bool (pY x&&(oc x&&(mZ x&&(fN x&&(fj x))))))) (ag 60 7) (Gy x):=fun e=>by rw [e]; exact Xp x
 repeat' (first|refine ak (fun h=>?_) (fun h=>?_)|refine ⟨vN _,?_⟩|done)
 all_goals (try simp only [Bool.and_true,Bool.not_eq_true',Bool.not_eq_false'] at *)
 all_goals first
  | exact no (by simp only [pY,zeroV,eQ,Bool.and_true, *,aO])
  | exact go (by simp only [pY,zeroV,eQ,Bool.and_true, *,aO])
theorem U8 (x:aj):af 60 0 (aW (bool (qU x&&(pY x&&(oc x&&(mZ x&&(fN x&&(fj x)))))))) (ag 60 3) (LS x):=by
 refine aH (X:=rD) (stop:=rG) (VK _ _ x ?_)
 have no:qU x=false→aX (bool false) (bool (qU x&&(pY x&&(oc x&&(mZ x&&(fN x&&(fj x))))))):=fun e=>by rw [e]; exact aX.refl _
 have go:qU x=true→af 60 0 (aW (bool (qU x&&(pY x&&(oc x&&(mZ x&&(fN x&&(fj x)))))))) (ag 60 5) (Ge x):=fun e=>by rw [e]; exact Ww x
 repeat' (first|refine ak (fun h=>?_) (fun h=>?_)|refine ⟨vN _,?_⟩|done)
 all_goals (try simp only [Bool.and_true,Bool.not_eq_true',Bool.not_eq_false'] at *)
 all_goals first
  | exact no (by simp only [qU,zeroV,eQ,Bool.and_true, *,aO])
  | exact go (by simp only [qU,zeroV,eQ,Bool.and_true, *,aO])
theorem UY (x:aj):LC 60 [gT x] [] (bool (bo x)) []:=
 aU (X:=rD) (stop:=rG) ar0 (bg (by kernel_rfl)) (ao9 _ _ x ⟨WV _,Ug _,U8 x⟩)
noncomputable def U1:hX:={ F:=F4 }
def TZ:Nat→Bool:=cw
theorem ZM:Fn 80:=⟨by kernel_rfl,by kernel_rfl⟩
theorem ad4 (L:LP) (QD:D→Prop) (t:ae) (n before:Int) (h:br (decide (n≥0)) (br (decide (n<before)) (nd (cd n t.2.1) ((LC 35 [(int ((t.ins.2 n.toNat).1))] [] (bool (uU (t.ins.2 n.toNat).1)) []∧QD (bool (uU (t.ins.2 n.toNat).1))))) (QD (bool false))) (QD (bool false))):fS U1 80 TZ L (aZ QD) [bc t,int n,int before] []:=Eq.mp (by kernel_rfl) h
theorem lR {n:Int} {m:Nat} (h0:0≤n) (h1:n<(m:Int)):cd n m=true:=by
 obtain ⟨k,rfl⟩:=Int.eq_ofNat_of_zero_le h0
 exact aA (by omega)
theorem Gr (t:ae) (n before:Int) (hb:before≤t.ins.n):LC 80 [bc t,int n,int before] [] (bool (dC t n before)) []:=by
 refine aU (X:=U1) (stop:=TZ) ZM (bg (by kernel_rfl)) (ad4 _ _ t n before ?_)
 refine ak (fun h=>ak (fun h2=>aw (lR (of_decide_eq_true h) (by have:=of_decide_eq_true h2; omega)) ⟨Ut _,?_⟩) (fun h2=>?_)) (fun h=>?_)
 ·rw [show dC t n before=uU (t.ins.get n.toNat).op from by simp only [dC,h,h2,Bool.true_and]]; exact aX.refl _
 ·rw [show dC t n before=false from by simp only [dC,h2,Bool.false_and,Bool.and_false]]; exact aX.refl _
 ·rw [show dC t n before=false from by simp only [dC,h,Bool.false_and]]; exact aX.refl _
noncomputable def DT:hX:={ F:=F4 }
def DH:Nat→Bool:=fun i=>Nat.beq i 2
theorem Uv:Fn 96:=⟨by kernel_rfl,by kernel_rfl⟩
noncomputable abbrev dW:gF:=(2,((.c (.rt 0 0 0)),[]))
noncomputable abbrev dc (ax:ai):ah:=.box (lift (bn (ax)))
theorem ad1 (L:LP) (QD:D→Prop) (e:ai) (n:Int) (h:L (ag 96 2) ⟨[(1,((int n),[])),dW,nv],[(dc e)],[]⟩):fS DT 96 DH L (aZ QD) [pD e,int n] []:=Eq.mp (by kernel_rfl) h
noncomputable def JU (e:ai) (n:Int) (k:Nat):VS:=⟨[(1,(int n),[]),(2,(.c (.rt 0 0 0)),[]),(5,int k,[])],[(dc e)],[]⟩
theorem JW (L:LP) (QD:D→Prop) (e:ai) (n:Int) (k:Nat) (h:br (decide ((↑k:Int)<(↑e.2.1:Int))) (nd (cd (↑k:Int) e.2.1) (br ((e.az.2 k).1==n) (QD (int (↑k:Int))) (L (ag 96 2) ⟨[(1,((int n),[])),dW,(5,((int (IntKind.i64.wrap ((↑k:Int)+1))),[]))],[(dc e)],[]⟩))) (QD (int (-1)))):dq DT 96 DH L (aZ QD) 2 (JU e n k):=Eq.mp (by kernel_rfl) h
theorem PG {e:ai} {E:Env} {av:Nat→Prop} {w:World} {v:Value} (h:a7 E av w (pD e) v):e.frames.n≤maxLen∧e.az.n≤maxLen:=by
 obtain ⟨⟨cs⟩,rfl,h⟩:=h
 cases h with|cons h1 h=>cases h with|cons h2 h=>
  obtain ⟨_,_,_,_,h1,_⟩:=h1
  obtain ⟨_,_,_,_,h2,_⟩:=h2
  exact ⟨h1,h2⟩
theorem Y9 (e:ai) (n a:Int) (hx:e.az.n≤maxLen):∀ k,k≤e.az.n→gu (fun i=>(e.az.get i).value==n) (e.az.n-k) k=a→af 96 0 (aW (int a)) (ag 96 2) (JU e n k):=by
 refine aL (fun k hk ih ha=>?_) (fun ha=>?_)
 ·have q:e.az.n-k=(e.az.n-(k+1))+1:=by omega
  rw [q] at ha
  refine aH (X:=DT) (stop:=DH) (JW _ _ e n k ?_)
  refine ak (fun h=>?_) (fun h=>(dec_lt h hk).elim)
  refine aw (aA hk) ?_
  refine ak (fun h1=>?_) (fun h1=>?_)
  ·rw [gY (p:=fun i=>(e.az.get i).value==n) h1] at ha
   subst ha; exact aX.refl _
  ·rw [fI (p:=fun i=>(e.az.get i).value==n) h1] at ha
   rw [bR hk hx]
   exact ih ha
 ·rw [Nat.sub_self] at ha
  refine aH (X:=DT) (stop:=DH) (JW _ _ e n _ ?_)
  refine ak (fun h=>bJ h) (fun h=>?_)
  subst ha; exact aX.refl _
theorem Om (e:ai) (n:Int):LC 96 [pD e,int n] [] (int (pW e.az n)) []:=
 cu.with Uv (p:=e.az.n≤maxLen) (fun E av w vs h=>by cases h with|cons q _=>exact (PG q).2) fun hx=>
  aU (X:=DT) (stop:=DH) Uv (bg (by kernel_rfl)) (ad1 _ _ e n (Y9 e n _ hx 0 (bu _) rfl))
open Go Go.V
noncomputable def F5L:CA:=[]
noncomputable def F5:=ext F4 F5L
noncomputable def zx:hX:={ F:=F5 }
def Ad:Nat→Bool:=fun i=>Nat.beq i 15||Nat.beq i 54
theorem ZU:Fn 79:=⟨by kernel_rfl,by kernel_rfl⟩
noncomputable abbrev rk (ax:aj):D:=.a (lift (aT (ax)))
noncomputable abbrev fY:gF:=(3,((.c (.rt 1 0 0)),[]))
noncomputable abbrev H7:gF:=(4,((bool true),[]))
noncomputable abbrev tA:aN:=[b5,fY,H7]
noncomputable abbrev dk:C:=.im (.v (.string ⟨⟨[]⟩⟩))
noncomputable abbrev ma (ax:aj):C:=.im (.v (.bool ax.11))
noncomputable abbrev AU:aN:=[b5,fY,H7,(33,((bool false),[]))]
theorem Yo (L:LP) (QD:D→Prop) (x:aj) (h:(LC 40 [(rk x)] [] (.c (.im (.sl 1 ((aC x).1) (fun i=>b8 ((aC (si [D.a (lift [iI x.op,iI x.a,iI x.b,iI x.c,iI x.n,sJ 1 b8 x.args,iI x.k.kind,iI x.k.n,iS x.k.s,sJ 1 eD x.names,iI x.place.fn,iI x.place.line,iI x.exit,iB x.once])] 0)).2 i))))) []∧br (x.1 != 20) (br (decide ((↑(aC x).1:Int)>0)) (br (decide ((↑(aC x).1:Int)>1)) (br (decide ((↑(aC x).1:Int)>2)) (L (ag 79 15) ⟨tA,[(b4 x),(.box [(ci x.1),(ci x.2),(ci x.3),(ci x.4),(ci 0),b6,(ci 0),(ci 0),dk,b6,(ci 0),(ci 0),(ci x.10),(ma x)])],[]⟩) (L (ag 79 15) ⟨AU,[(b4 x),(.box [(ci x.1),(ci x.2),(ci x.3),(ci 0),(ci 0),b6,(ci 0),(ci 0),dk,b6,(ci 0),(ci 0),(ci x.10),(ma x)])],[]⟩)) (br (decide ((↑(aC x).1:Int)>2)) (L (ag 79 15) ⟨tA,[(b4 x),(.box [(ci x.1),(ci x.2),(ci 0),(ci x.4),(ci 0),b6,(ci 0),(ci 0),dk,b6,(ci 0),(ci 0),(ci x.10),(ma x)])],[]⟩) (L (ag 79 15) ⟨AU,[(b4 x),(.box [(ci x.1),(ci x.2),(ci 0),(ci 0),(ci 0),b6,(ci 0),(ci 0),dk,b6,(ci 0),(ci 0),(ci x.10),(ma x)])],[]⟩))) (br (decide ((↑(aC x).1:Int)>1)) (br (decide ((↑(aC x).1:Int)>2)) (L (ag 79 15) ⟨tA,[(b4 x),(.box [(ci x.1),(ci 0),(ci x.3),(ci x.4),(ci 0),b6,(ci 0),(ci 0),dk,b6,(ci 0),(ci 0),(ci x.10),(ma x)])],[]⟩) (L (ag 79 15) ⟨AU,[(b4 x),(.box [(ci x.1),(ci 0),(ci x.3),(ci 0),(ci 0),b6,(ci 0),(ci 0),dk,b6,(ci 0),(ci 0),(ci x.10),(ma x)])],[]⟩)) (br (decide ((↑(aC x).1:Int)>2)) (L (ag 79 15) ⟨tA,[(b4 x),(.box [(ci x.1),(ci 0),(ci 0),(ci x.4),(ci 0),b6,(ci 0),(ci 0),dk,b6,(ci 0),(ci 0),(ci x.10),(ma x)])],[]⟩) (L (ag 79 15) ⟨AU,[(b4 x),(.box [(ci x.1),(ci 0),(ci 0),(ci 0),(ci 0),b6,(ci 0),(ci 0),dk,b6,(ci 0),(ci 0),(ci x.10),(ma x)])],[]⟩)))) (L (ag 79 15) ⟨tA,[(b4 x),(.box [(ci x.1),(ci 0),(ci 0),(ci 0),(ci 0),(pq x),(ci 0),(ci 0),dk,b6,(ci 0),(ci 0),(ci x.10),(ma x)])],[]⟩))):fS zx 79 Ad L (aZ QD) [gT x] []:=Eq.mp (by kernel_rfl) h
noncomputable abbrev BA:gF:=(3,(.c (.rt 1 0 0)),[])
noncomputable def gn (x:aj) (y:aj):VS:=⟨[lV,BA,(4,(bool true),[])],[(b4 x),.box (lift (aT y))],[]⟩
noncomputable abbrev rW (ax aF:aj):List ah:=[(b4 ax),(.box (lift (aT ({ op:=aF.1,a:=aF.2,b:=aF.3,c:=aF.4,n:=ax.5,args:=aF.6,k:=aF.7,names:=aF.8,place:=aF.9,exit:=aF.10,once:=aF.11 }))))]
noncomputable abbrev J9 (ax aF:aj):List ah:=[(b4 ax),(.box (lift (aT ({ op:=aF.1,a:=aF.2,b:=aF.3,c:=aF.4,n:=ax.5,args:=aF.6,k:=aF.7,names:=ax.8,place:=aF.9,exit:=aF.10,once:=aF.11 }))))]
noncomputable abbrev Ht (ax aF:aj):VS:=⟨[b5,fY,(4,((mg ax),[]))],(J9 ax aF),[]⟩
noncomputable abbrev tH:aN:=[b5,fY,(4,((bool false),[]))]
noncomputable abbrev Jd (ax aF:aj):List ah:=[(b4 ax),(.box (lift (aT ({ op:=aF.1,a:=aF.2,b:=aF.3,c:=aF.4,n:=aF.5,args:=aF.6,k:=ax.7,names:=aF.8,place:=aF.9,exit:=aF.10,once:=aF.11 }))))]
noncomputable abbrev PM (ax aF:aj):List ah:=[(b4 ax),(.box (lift (aT ({ op:=aF.1,a:=aF.2,b:=aF.3,c:=aF.4,n:=aF.5,args:=aF.6,k:=aF.7,names:=aF.8,place:=ax.9,exit:=aF.10,once:=aF.11 }))))]
theorem Qh (L:LP) (QD:D→Prop) (x:aj) (y:aj) (h:br (x.1==3) (br (x.5==3) (L (ag 79 54) ⟨tA,(rW x y),[]⟩) (L (ag 79 54) ⟨[b5,fY,(4,((bool (x.5==4)),[]))],(rW x y),[]⟩)) (br (x.1==4) ((LC 92 [(int x.5),(int 5),(int 14)] [] (bool (dv x.5 5 14)) []∧L (ag 79 54) ⟨[b5,fY,(4,((bool (dv x.5 5 14)),[]))],(rW x y),[]⟩)) (br (x.1==5) ((LC 92 [(int x.5),(int 0),(int 1)] [] (bool (dv x.5 0 1)) []∧L (ag 79 54) ⟨[b5,fY,(4,((bool (dv x.5 0 1)),[]))],(rW x y),[]⟩)) (br (x.1==6) ((LC 92 [(int x.5),(int 1),(int 6)] [] (bool (dv x.5 1 6)) []∧L (ag 79 54) ⟨[b5,fY,(4,((bool (dv x.5 1 6)),[]))],(rW x y),[]⟩)) (br (x.1==10) ((LC 92 [(int x.5),(int 0),(int 63)] [] (bool (dv x.5 0 63)) []∧L (ag 79 54) ⟨[b5,fY,(4,((bool (dv x.5 0 63)),[]))],(rW x y),[]⟩)) (br (x.1==11) ((LC 92 [(int x.5),(int 0),(int 63)] [] (bool (dv x.5 0 63)) []∧L (ag 79 54) ⟨[b5,fY,(4,((bool (dv x.5 0 63)),[]))],(rW x y),[]⟩)) (br (x.1==15) ((LC 92 [(int x.5),(int 0),(int 600)] [] (bool (dv x.5 0 600)) []∧L (ag 79 54) ⟨[b5,fY,(4,((bool (dv x.5 0 600)),[]))],(rW x y),[]⟩)) (br (x.1==18) ((LC 92 [(int x.5),(int 1),(int 200)] [] (bool (dv x.5 1 200)) []∧L (ag 79 54) ⟨[b5,fY,(4,((bool (dv x.5 1 200)),[]))],(rW x y),[]⟩)) (br (x.1==7) ((LC 93 [(uj x)] [] (mg x) []∧br (decide (x.5≥0)) (L (ag 79 54) (Ht x y)) (L (ag 79 54) ⟨tH,(J9 x y),[]⟩))) (br (x.1==16) ((LC 93 [(uj x)] [] (mg x) []∧br (decide (x.5≥0)) (L (ag 79 54) (Ht x y)) (L (ag 79 54) ⟨tH,(J9 x y),[]⟩))) (br (x.1==17) ((LC 93 [(uj x)] [] (mg x) []∧br (decide (x.5≥0)) (L (ag 79 54) (Ht x y)) (L (ag 79 54) ⟨tH,(J9 x y),[]⟩))) (br (x.1==1) (br (x.7.1==3) ((LC 92 [(int x.7.2),(int 0),(int 23)] [] (bool (dv x.7.2 0 23)) []∧br (dv x.7.2 0 23) (L (ag 79 54) ⟨[b5,fY,(4,((bool (x.7.3.toList==(ByteArray.mk #[]).toList)),[]))],(Jd x y),[]⟩) (L (ag 79 54) ⟨tH,(Jd x y),[]⟩))) (L (ag 79 54) ⟨tH,(Jd x y),[]⟩)) (br (x.1==2) ((LC 94 [(.a (lift (Lh (x.7))))] [] (bool (eN x.7)) []∧L (ag 79 54) ⟨[b5,fY,(4,((bool (eN x.7)),[]))],(Jd x y),[]⟩)) (br (x.1==19) (br (decide (x.9.1≥0)) (L (ag 79 54) ⟨[b5,fY,(4,((bool (decide (x.9.2≥0))),[]))],(PM x y),[]⟩) (L (ag 79 54) ⟨tH,(PM x y),[]⟩)) (L (ag 79 54) ⟨[b5,fY,H7,(152,((bool false),[]))],[(b4 x),(b4 y)],[]⟩))))))))))))))):dq zx 79 Ad L (aZ QD) 15 (gn x y):=Eq.mp (by kernel_rfl) h
noncomputable def sD (x:aj) (y:aj) (Dg:Bool):VS:=⟨[lV,BA,(4,bool Dg,[])],[(b4 x),.box (lift (aT y))],[]⟩
theorem P0 (L:LP) (QD:D→Prop) (x:aj) (y:aj) (Dg:Bool) (h:br (Dg) ((LC 92 [(int x.1),(int 0),(int 21)] [] (bool (dv x.1 0 21)) []∧br (dv x.1 0 21) ((LC 95 [(rk x),(rk y)] [] (bool (cK x y)) []∧QD (bool (cK x y)))) (QD (bool false)))) (QD (bool false))):dq zx 79 Ad L (aZ QD) 54 (sD x y Dg):=Eq.mp (by kernel_rfl) h
noncomputable def kG (x y:aj):aj×Bool:=
 bif x.1==3 then
  bif x.5==3 then
   ({ op:=y.1,a:=y.2,b:=y.3,c:=y.4,n:=x.5,args:=y.6,k:=y.7,names:=y.8,place:=y.9,exit:=y.10,once:=y.11 },true)
  else
   ({ op:=y.1,a:=y.2,b:=y.3,c:=y.4,n:=x.5,args:=y.6,k:=y.7,names:=y.8,place:=y.9,exit:=y.10,once:=y.11 },(x.5==4))
 else
  bif x.1==4 then
   ({ op:=y.1,a:=y.2,b:=y.3,c:=y.4,n:=x.5,args:=y.6,k:=y.7,names:=y.8,place:=y.9,exit:=y.10,once:=y.11 },(dv x.5 5 14))
  else
   bif x.1==5 then
    ({ op:=y.1,a:=y.2,b:=y.3,c:=y.4,n:=x.5,args:=y.6,k:=y.7,names:=y.8,place:=y.9,exit:=y.10,once:=y.11 },(dv x.5 0 1))
   else
    bif x.1==6 then
     ({ op:=y.1,a:=y.2,b:=y.3,c:=y.4,n:=x.5,args:=y.6,k:=y.7,names:=y.8,place:=y.9,exit:=y.10,once:=y.11 },(dv x.5 1 6))
    else
     bif x.1==10 then
      ({ op:=y.1,a:=y.2,b:=y.3,c:=y.4,n:=x.5,args:=y.6,k:=y.7,names:=y.8,place:=y.9,exit:=y.10,once:=y.11 },(dv x.5 0 63))
     else
      bif x.1==11 then
       ({ op:=y.1,a:=y.2,b:=y.3,c:=y.4,n:=x.5,args:=y.6,k:=y.7,names:=y.8,place:=y.9,exit:=y.10,once:=y.11 },(dv x.5 0 63))
      else
       bif x.1==15 then
        ({ op:=y.1,a:=y.2,b:=y.3,c:=y.4,n:=x.5,args:=y.6,k:=y.7,names:=y.8,place:=y.9,exit:=y.10,once:=y.11 },(dv x.5 0 600))
       else
        bif x.1==18 then
         ({ op:=y.1,a:=y.2,b:=y.3,c:=y.4,n:=x.5,args:=y.6,k:=y.7,names:=y.8,place:=y.9,exit:=y.10,once:=y.11 },(dv x.5 1 200))
        else
         bif x.1==7 then
          bif decide (x.5≥0) then
           ({ op:=y.1,a:=y.2,b:=y.3,c:=y.4,n:=x.5,args:=y.6,k:=y.7,names:=x.8,place:=y.9,exit:=y.10,once:=y.11 },(kL x.8))
          else
           ({ op:=y.1,a:=y.2,b:=y.3,c:=y.4,n:=x.5,args:=y.6,k:=y.7,names:=x.8,place:=y.9,exit:=y.10,once:=y.11 },false)
         else
          bif x.1==16 then
           bif decide (x.5≥0) then
            ({ op:=y.1,a:=y.2,b:=y.3,c:=y.4,n:=x.5,args:=y.6,k:=y.7,names:=x.8,place:=y.9,exit:=y.10,once:=y.11 },(kL x.8))
           else
            ({ op:=y.1,a:=y.2,b:=y.3,c:=y.4,n:=x.5,args:=y.6,k:=y.7,names:=x.8,place:=y.9,exit:=y.10,once:=y.11 },false)
          else
           bif x.1==17 then
            bif decide (x.5≥0) then
             ({ op:=y.1,a:=y.2,b:=y.3,c:=y.4,n:=x.5,args:=y.6,k:=y.7,names:=x.8,place:=y.9,exit:=y.10,once:=y.11 },(kL x.8))
            else
             ({ op:=y.1,a:=y.2,b:=y.3,c:=y.4,n:=x.5,args:=y.6,k:=y.7,names:=x.8,place:=y.9,exit:=y.10,once:=y.11 },false)
           else
            bif x.1==1 then
             bif x.7.1==3 then
              bif dv x.7.2 0 23 then
               ({ op:=y.1,a:=y.2,b:=y.3,c:=y.4,n:=y.5,args:=y.6,k:=x.7,names:=y.8,place:=y.9,exit:=y.10,once:=y.11 },(x.7.3.toList==(ByteArray.mk #[]).toList))
              else
               ({ op:=y.1,a:=y.2,b:=y.3,c:=y.4,n:=y.5,args:=y.6,k:=x.7,names:=y.8,place:=y.9,exit:=y.10,once:=y.11 },false)
             else
              ({ op:=y.1,a:=y.2,b:=y.3,c:=y.4,n:=y.5,args:=y.6,k:=x.7,names:=y.8,place:=y.9,exit:=y.10,once:=y.11 },false)
            else
             bif x.1==2 then
              ({ op:=y.1,a:=y.2,b:=y.3,c:=y.4,n:=y.5,args:=y.6,k:=x.7,names:=y.8,place:=y.9,exit:=y.10,once:=y.11 },(eN x.7))
             else
              bif x.1==19 then
               bif decide (x.9.1≥0) then
                ({ op:=y.1,a:=y.2,b:=y.3,c:=y.4,n:=y.5,args:=y.6,k:=y.7,names:=y.8,place:=x.9,exit:=y.10,once:=y.11 },(decide (x.9.2≥0)))
               else
                ({ op:=y.1,a:=y.2,b:=y.3,c:=y.4,n:=y.5,args:=y.6,k:=y.7,names:=y.8,place:=x.9,exit:=y.10,once:=y.11 },false)
              else
               (y,true)
noncomputable def jl (x y:aj):Bool:=(kG x y).2&&(dv x.op 0 21&&cK x (kG x y).1)
noncomputable def bF:ByteArray:=ByteArray.mk ⟨[]⟩
noncomputable def yA (x:aj):aj:=
 bif x.1 != 20 then
  bif decide ((↑(aC x).1:Int)>0) then
   bif decide ((↑(aC x).1:Int)>1) then
    bif decide ((↑(aC x).1:Int)>2) then
     ⟨x.1,x.2,x.3,x.4,0,⟨0,fun _=>0⟩,⟨0,0,bF⟩,⟨0,fun _=>bF⟩,⟨0,0⟩,x.10,x.11⟩
    else
     ⟨x.1,x.2,x.3,0,0,⟨0,fun _=>0⟩,⟨0,0,bF⟩,⟨0,fun _=>bF⟩,⟨0,0⟩,x.10,x.11⟩
   else
    bif decide ((↑(aC x).1:Int)>2) then
     ⟨x.1,x.2,0,x.4,0,⟨0,fun _=>0⟩,⟨0,0,bF⟩,⟨0,fun _=>bF⟩,⟨0,0⟩,x.10,x.11⟩
    else
     ⟨x.1,x.2,0,0,0,⟨0,fun _=>0⟩,⟨0,0,bF⟩,⟨0,fun _=>bF⟩,⟨0,0⟩,x.10,x.11⟩
  else
   bif decide ((↑(aC x).1:Int)>1) then
    bif decide ((↑(aC x).1:Int)>2) then
     ⟨x.1,0,x.3,x.4,0,⟨0,fun _=>0⟩,⟨0,0,bF⟩,⟨0,fun _=>bF⟩,⟨0,0⟩,x.10,x.11⟩
    else
     ⟨x.1,0,x.3,0,0,⟨0,fun _=>0⟩,⟨0,0,bF⟩,⟨0,fun _=>bF⟩,⟨0,0⟩,x.10,x.11⟩
   else
    bif decide ((↑(aC x).1:Int)>2) then
     ⟨x.1,0,0,x.4,0,⟨0,fun _=>0⟩,⟨0,0,bF⟩,⟨0,fun _=>bF⟩,⟨0,0⟩,x.10,x.11⟩
    else
     ⟨x.1,0,0,0,0,⟨0,fun _=>0⟩,⟨0,0,bF⟩,⟨0,fun _=>bF⟩,⟨0,0⟩,x.10,x.11⟩
 else
  ⟨x.1,0,0,0,0,x.args,⟨0,0,bF⟩,⟨0,fun _=>bF⟩,⟨0,0⟩,x.10,x.11⟩
noncomputable def a8 (x:aj):Bool:=jl x (yA x)
theorem OY (x y:aj) (Dg:Bool):af 79 0 (aW (bool (Dg&&(dv x.op 0 21&&cK x y)))) (ag 79 54) (sD x y Dg):=by
 refine aH (X:=zx) (stop:=Ad) (P0 _ _ x y Dg ?_)
 refine ak (fun h=>⟨nh _ _ _,ak (fun h2=>⟨Z5 _ _,?_⟩) (fun h2=>?_)⟩) (fun h=>?_)
 ·rw [h,show dv x.op 0 21=true from h2,Bool.true_and,Bool.true_and]; exact aX.refl _
 ·rw [show dv x.op 0 21=false from h2,Bool.false_and,Bool.and_false]; exact aX.refl _
 ·rw [h,Bool.false_and]; exact aX.refl _
theorem Qk (x y:aj) (hs:x.k.s.size≤maxLen):af 79 0 (aW (bool (jl x y))) (ag 79 15) (gn x y):=by
 have fin:∀ (y':aj) (f:Bool),kG x y=(y',f)→af 79 0 (aW (bool (jl x y))) (ag 79 54) (sD x y' f):=fun y' f e=>by
  have:=OY x y' f
  unfold jl
  rw [e]
  exact this
 refine aH (X:=zx) (stop:=Ad) (Qh _ _ x y ?_)
 refine ak (fun h=>?_) (fun h=>?_)
 ·refine ak (fun h=>?_) (fun h=>?_)
  ·exact fin ({ op:=y.1,a:=y.2,b:=y.3,c:=y.4,n:=x.5,args:=y.6,k:=y.7,names:=y.8,place:=y.9,exit:=y.10,once:=y.11 }) (true) (by simp only [kG, *,cond_true,cond_false])
  ·exact fin ({ op:=y.1,a:=y.2,b:=y.3,c:=y.4,n:=x.5,args:=y.6,k:=y.7,names:=y.8,place:=y.9,exit:=y.10,once:=y.11 }) ((x.5==4)) (by simp only [kG, *,cond_true,cond_false])
 ·refine ak (fun h=>?_) (fun h=>?_)
  ·refine ⟨nh _ _ _,?_⟩
   exact fin ({ op:=y.1,a:=y.2,b:=y.3,c:=y.4,n:=x.5,args:=y.6,k:=y.7,names:=y.8,place:=y.9,exit:=y.10,once:=y.11 }) ((dv x.5 5 14)) (by simp only [kG, *,cond_true,cond_false])
  ·refine ak (fun h=>?_) (fun h=>?_)
   ·refine ⟨nh _ _ _,?_⟩
    exact fin ({ op:=y.1,a:=y.2,b:=y.3,c:=y.4,n:=x.5,args:=y.6,k:=y.7,names:=y.8,place:=y.9,exit:=y.10,once:=y.11 }) ((dv x.5 0 1)) (by simp only [kG, *,cond_true,cond_false])
   ·refine ak (fun h=>?_) (fun h=>?_)
    ·refine ⟨nh _ _ _,?_⟩
     exact fin ({ op:=y.1,a:=y.2,b:=y.3,c:=y.4,n:=x.5,args:=y.6,k:=y.7,names:=y.8,place:=y.9,exit:=y.10,once:=y.11 }) ((dv x.5 1 6)) (by simp only [kG, *,cond_true,cond_false])
    ·refine ak (fun h=>?_) (fun h=>?_)
     ·refine ⟨nh _ _ _,?_⟩
      exact fin ({ op:=y.1,a:=y.2,b:=y.3,c:=y.4,n:=x.5,args:=y.6,k:=y.7,names:=y.8,place:=y.9,exit:=y.10,once:=y.11 }) ((dv x.5 0 63)) (by simp only [kG, *,cond_true,cond_false])
     ·refine ak (fun h=>?_) (fun h=>?_)
      ·refine ⟨nh _ _ _,?_⟩
       exact fin ({ op:=y.1,a:=y.2,b:=y.3,c:=y.4,n:=x.5,args:=y.6,k:=y.7,names:=y.8,place:=y.9,exit:=y.10,once:=y.11 }) ((dv x.5 0 63)) (by simp only [kG, *,cond_true,cond_false])
      ·refine ak (fun h=>?_) (fun h=>?_)
       ·refine ⟨nh _ _ _,?_⟩
        exact fin ({ op:=y.1,a:=y.2,b:=y.3,c:=y.4,n:=x.5,args:=y.6,k:=y.7,names:=y.8,place:=y.9,exit:=y.10,once:=y.11 }) ((dv x.5 0 600)) (by simp only [kG, *,cond_true,cond_false])
       ·refine ak (fun h=>?_) (fun h=>?_)
        ·refine ⟨nh _ _ _,?_⟩
         exact fin ({ op:=y.1,a:=y.2,b:=y.3,c:=y.4,n:=x.5,args:=y.6,k:=y.7,names:=y.8,place:=y.9,exit:=y.10,once:=y.11 }) ((dv x.5 1 200)) (by simp only [kG, *,cond_true,cond_false])
        ·refine ak (fun h=>?_) (fun h=>?_)
         ·refine ⟨HS _,?_⟩
          refine ak (fun h=>?_) (fun h=>?_)
          ·exact fin ({ op:=y.1,a:=y.2,b:=y.3,c:=y.4,n:=x.5,args:=y.6,k:=y.7,names:=x.8,place:=y.9,exit:=y.10,once:=y.11 }) ((kL x.8)) (by simp only [kG, *,cond_true,cond_false])
          ·exact fin ({ op:=y.1,a:=y.2,b:=y.3,c:=y.4,n:=x.5,args:=y.6,k:=y.7,names:=x.8,place:=y.9,exit:=y.10,once:=y.11 }) (false) (by simp only [kG, *,cond_true,cond_false])
         ·refine ak (fun h=>?_) (fun h=>?_)
          ·refine ⟨HS _,?_⟩
           refine ak (fun h=>?_) (fun h=>?_)
           ·exact fin ({ op:=y.1,a:=y.2,b:=y.3,c:=y.4,n:=x.5,args:=y.6,k:=y.7,names:=x.8,place:=y.9,exit:=y.10,once:=y.11 }) ((kL x.8)) (by simp only [kG, *,cond_true,cond_false])
           ·exact fin ({ op:=y.1,a:=y.2,b:=y.3,c:=y.4,n:=x.5,args:=y.6,k:=y.7,names:=x.8,place:=y.9,exit:=y.10,once:=y.11 }) (false) (by simp only [kG, *,cond_true,cond_false])
          ·refine ak (fun h=>?_) (fun h=>?_)
           ·refine ⟨HS _,?_⟩
            refine ak (fun h=>?_) (fun h=>?_)
            ·exact fin ({ op:=y.1,a:=y.2,b:=y.3,c:=y.4,n:=x.5,args:=y.6,k:=y.7,names:=x.8,place:=y.9,exit:=y.10,once:=y.11 }) ((kL x.8)) (by simp only [kG, *,cond_true,cond_false])
            ·exact fin ({ op:=y.1,a:=y.2,b:=y.3,c:=y.4,n:=x.5,args:=y.6,k:=y.7,names:=x.8,place:=y.9,exit:=y.10,once:=y.11 }) (false) (by simp only [kG, *,cond_true,cond_false])
           ·refine ak (fun h=>?_) (fun h=>?_)
            ·refine ak (fun h=>?_) (fun h=>?_)
             ·refine ⟨nh _ _ _,?_⟩
              refine ak (fun h=>?_) (fun h=>?_)
              ·exact fin ({ op:=y.1,a:=y.2,b:=y.3,c:=y.4,n:=y.5,args:=y.6,k:=x.7,names:=y.8,place:=y.9,exit:=y.10,once:=y.11 }) ((x.7.3.toList==(ByteArray.mk #[]).toList)) (by simp only [kG, *,cond_true,cond_false])
              ·exact fin ({ op:=y.1,a:=y.2,b:=y.3,c:=y.4,n:=y.5,args:=y.6,k:=x.7,names:=y.8,place:=y.9,exit:=y.10,once:=y.11 }) (false) (by simp only [kG, *,cond_true,cond_false])
             ·exact fin ({ op:=y.1,a:=y.2,b:=y.3,c:=y.4,n:=y.5,args:=y.6,k:=x.7,names:=y.8,place:=y.9,exit:=y.10,once:=y.11 }) (false) (by simp only [kG, *,cond_true,cond_false])
            ·refine ak (fun h=>?_) (fun h=>?_)
             ·refine ⟨af0 _ hs,?_⟩
              exact fin ({ op:=y.1,a:=y.2,b:=y.3,c:=y.4,n:=y.5,args:=y.6,k:=x.7,names:=y.8,place:=y.9,exit:=y.10,once:=y.11 }) ((eN x.7)) (by simp only [kG, *,cond_true,cond_false])
             ·refine ak (fun h=>?_) (fun h=>?_)
              ·refine ak (fun h=>?_) (fun h=>?_)
               ·exact fin ({ op:=y.1,a:=y.2,b:=y.3,c:=y.4,n:=y.5,args:=y.6,k:=y.7,names:=y.8,place:=x.9,exit:=y.10,once:=y.11 }) ((decide (x.9.2≥0))) (by simp only [kG, *,cond_true,cond_false])
               ·exact fin ({ op:=y.1,a:=y.2,b:=y.3,c:=y.4,n:=y.5,args:=y.6,k:=y.7,names:=y.8,place:=x.9,exit:=y.10,once:=y.11 }) (false) (by simp only [kG, *,cond_true,cond_false])
              ·exact af.le (sD x (y) (true)) (by repeat' (first|exact trivial|refine bV rfl ?_)) (rc (rc .nil)) rfl (fin (y) (true) (by simp only [kG, *,cond_true,cond_false]))
theorem PL (x:aj) (hs:x.k.s.size≤maxLen):LC 79 [gT x] [] (bool (a8 x)) []:=by
 have fin:∀ y:aj,yA x=y→af 79 0 (aW (bool (a8 x))) (ag 79 15) (gn x y):=fun y e=>by
  unfold a8
  rw [e]
  exact Qk x y hs
 refine aU (X:=zx) (stop:=Ad) ZU (bg (by kernel_rfl)) (Yo _ _ x ⟨zP _,?_⟩)
 refine ak (fun h=>?_) (fun h=>?_)
 ·refine ak (fun h=>?_) (fun h=>?_)
  ·refine ak (fun h=>?_) (fun h=>?_)
   ·refine ak (fun h=>?_) (fun h=>?_)
    ·refine af.le (gn x ⟨x.1,x.2,x.3,x.4,0,⟨0,fun _=>0⟩,⟨0,0,bF⟩,⟨0,fun _=>bF⟩,⟨0,0⟩,x.10,x.11⟩) (by repeat' (first|exact trivial|refine bV rfl ?_)) (rc (.cons (aJ.box ?_) .nil)) rfl (fin _ (by simp only [yA, *,cond_true,cond_false]))
     repeat' (first|exact .nil|refine .cons (ei.refl _) ?_|refine .cons (ei.nil 1 _) ?_|done)
    ·refine af.le (gn x ⟨x.1,x.2,x.3,0,0,⟨0,fun _=>0⟩,⟨0,0,bF⟩,⟨0,fun _=>bF⟩,⟨0,0⟩,x.10,x.11⟩) (by repeat' (first|exact trivial|refine bV rfl ?_)) (rc (.cons (aJ.box ?_) .nil)) rfl (fin _ (by simp only [yA, *,cond_true,cond_false]))
     repeat' (first|exact .nil|refine .cons (ei.refl _) ?_|refine .cons (ei.nil 1 _) ?_|done)
   ·refine ak (fun h=>?_) (fun h=>?_)
    ·refine af.le (gn x ⟨x.1,x.2,0,x.4,0,⟨0,fun _=>0⟩,⟨0,0,bF⟩,⟨0,fun _=>bF⟩,⟨0,0⟩,x.10,x.11⟩) (by repeat' (first|exact trivial|refine bV rfl ?_)) (rc (.cons (aJ.box ?_) .nil)) rfl (fin _ (by simp only [yA, *,cond_true,cond_false]))
     repeat' (first|exact .nil|refine .cons (ei.refl _) ?_|refine .cons (ei.nil 1 _) ?_|done)
    ·refine af.le (gn x ⟨x.1,x.2,0,0,0,⟨0,fun _=>0⟩,⟨0,0,bF⟩,⟨0,fun _=>bF⟩,⟨0,0⟩,x.10,x.11⟩) (by repeat' (first|exact trivial|refine bV rfl ?_)) (rc (.cons (aJ.box ?_) .nil)) rfl (fin _ (by simp only [yA, *,cond_true,cond_false]))
     repeat' (first|exact .nil|refine .cons (ei.refl _) ?_|refine .cons (ei.nil 1 _) ?_|done)
  ·refine ak (fun h=>?_) (fun h=>?_)
   ·refine ak (fun h=>?_) (fun h=>?_)
    ·refine af.le (gn x ⟨x.1,0,x.3,x.4,0,⟨0,fun _=>0⟩,⟨0,0,bF⟩,⟨0,fun _=>bF⟩,⟨0,0⟩,x.10,x.11⟩) (by repeat' (first|exact trivial|refine bV rfl ?_)) (rc (.cons (aJ.box ?_) .nil)) rfl (fin _ (by simp only [yA, *,cond_true,cond_false]))
     repeat' (first|exact .nil|refine .cons (ei.refl _) ?_|refine .cons (ei.nil 1 _) ?_|done)
    ·refine af.le (gn x ⟨x.1,0,x.3,0,0,⟨0,fun _=>0⟩,⟨0,0,bF⟩,⟨0,fun _=>bF⟩,⟨0,0⟩,x.10,x.11⟩) (by repeat' (first|exact trivial|refine bV rfl ?_)) (rc (.cons (aJ.box ?_) .nil)) rfl (fin _ (by simp only [yA, *,cond_true,cond_false]))
     repeat' (first|exact .nil|refine .cons (ei.refl _) ?_|refine .cons (ei.nil 1 _) ?_|done)
   ·refine ak (fun h=>?_) (fun h=>?_)
    ·refine af.le (gn x ⟨x.1,0,0,x.4,0,⟨0,fun _=>0⟩,⟨0,0,bF⟩,⟨0,fun _=>bF⟩,⟨0,0⟩,x.10,x.11⟩) (by repeat' (first|exact trivial|refine bV rfl ?_)) (rc (.cons (aJ.box ?_) .nil)) rfl (fin _ (by simp only [yA, *,cond_true,cond_false]))
     repeat' (first|exact .nil|refine .cons (ei.refl _) ?_|refine .cons (ei.nil 1 _) ?_|done)
    ·refine af.le (gn x ⟨x.1,0,0,0,0,⟨0,fun _=>0⟩,⟨0,0,bF⟩,⟨0,fun _=>bF⟩,⟨0,0⟩,x.10,x.11⟩) (by repeat' (first|exact trivial|refine bV rfl ?_)) (rc (.cons (aJ.box ?_) .nil)) rfl (fin _ (by simp only [yA, *,cond_true,cond_false]))
     repeat' (first|exact .nil|refine .cons (ei.refl _) ?_|refine .cons (ei.nil 1 _) ?_|done)
 ·refine af.le (gn x ⟨x.1,0,0,0,0,x.args,⟨0,0,bF⟩,⟨0,fun _=>bF⟩,⟨0,0⟩,x.10,x.11⟩) (by repeat' (first|exact trivial|refine bV rfl ?_)) (rc (.cons (aJ.box ?_) .nil)) rfl (fin _ (by simp only [yA, *,cond_true,cond_false]))
  repeat' (first|exact .nil|refine .cons (ei.refl _) ?_|refine .cons (ei.nil 1 _) ?_|done)
open Go Go.V
noncomputable def F6L:CA:=[
 (79,fun ds rs=>(bool (a8 (si ds 0)),[],[]))]
noncomputable def F6:=ext F5 F6L
noncomputable def dK {α:Type} (x y:Sq α):Sq α:=⟨x.n+y.n,fun i=>Bool.rec (y.get (i-x.n)) (x.get i) (Nat.blt i x.n)⟩
theorem Cx {α:Type} (x y:Sq α) (e:α→Nat→I):gP x.n (fun i=>e (x.get i)) (fun i=>e (y.get i))=fun i=>e ((dK x y).get i):=by
 funext i j
 show (Bool.rec (e (y.get (i-x.n)) j) (e (x.get i) j) (Nat.blt i x.n):I)=e (Bool.rec (y.get (i-x.n)) (x.get i) (Nat.blt i x.n)) j
 cases Nat.blt i x.n<;>rfl
theorem Pw {α:Type} (el sz:Nat) (x y:Sq α) (e:α→Nat→I):aJ (.arr el sz (x.n+y.n) (gP x.n (fun i=>e (x.get i)) (fun i=>e (y.get i)))) (.arr el sz (dK x y).n fun i=>e ((dK x y).get i)):=by
 rw [Cx]; exact aJ.refl _
theorem tO (el sz:Nat) (g g':Nat→Nat→I):aJ (.arr el sz 0 g) (.arr el sz 0 g'):=aJ.arr fun i hi=>by omega
noncomputable def uZ {α:Type} (g:Nat→Sq α):Nat→Nat→Sq α→Sq α
 | 0,_,l=>l
 | m+1,k,l=>uZ g m (k+1) (dK l (g k))
def dx {α:Type} (a:α):Sq α:=⟨0,fun _=>a⟩
noncomputable def yy (f:eV):Bool := !(decide (f.fn<0)||(decide (f.line<0)||decide ((f.vars.n:Int)>24)))
noncomputable def Ke (t:ae) (e:ai) (k:Int) (j:Nat):Bool := !(!dC t (e.az.get j).value k||((t.ins.get (e.az.get j).value.toNat).op != 17||(pW e.az (e.az.get j).value != (j:Int)||((e.az.get j).cls != (t.ins.get (e.az.get j).value.toNat).n||(!cr jL (e.az.get j).names (t.ins.get (e.az.get j).value.toNat).names||(((e.az.get j).items.n:Int)!=((e.az.get j).names.n:Int)))))))
noncomputable def GK (t:ae) (e:ai) (k v:Int):Bool:=v == -1 || !(!dC t v k||((t.ins.get v.toNat).op==17&&decide (pW e.az v<0)))
noncomputable def x21 (t:ae) (e:ai) (k:Int) (l:Sq Int):Bool:=dn (fun i=>GK t e k (l.get i)) l.n
noncomputable def x12 (t:ae) (e:ai) (k:Int) (l:Sq Int):Bool:=dn (Ke t e k) e.az.n&&x21 t e k (uZ (fun j=>(e.az.get j).items) e.az.n 0 l)
noncomputable def kh (t:ae) (e:ai) (k:Int):Bool := !(decide ((e.frames.n:Int)<1)||(decide ((e.frames.n:Int)>6)||decide (e.back<0)))&&(dn (fun j=>yy (e.frames.get j)) e.frames.n&&x12 t e k (uZ (fun j=>(e.frames.get j).vars) e.frames.n 0 (dx 0)))
noncomputable def pc:hX:={ F:=F6 }
def oY:Nat→Bool:=fun i=>Nat.beq i 5||Nat.beq i 12||Nat.beq i 21
theorem Y5:Fn 83:=⟨by kernel_rfl,by kernel_rfl⟩
noncomputable abbrev po (ax:Int):gF:=(2,((int ax),[]))
noncomputable abbrev dA:gF:=(3,((.c (.rt 0 0 0)),[]))
noncomputable abbrev bM:gF:=(4,((.c (.rt 1 0 0)),[]))
theorem ae2 (L:LP) (QD:D→Prop) (t:ae) (e:ai) (k:Int) (h:br (decide ((↑e.1.1:Int)<1)) (QD (bool false)) (br (decide ((↑e.1.1:Int)>6)) (QD (bool false)) (br (decide (e.3<0)) (QD (bool false)) (L (ag 83 5) ⟨[(po k),dA,bM,(7,((.c b6),[])),oN],[(bC t),(dc e)],[]⟩)))):fS pc 83 oY L (aZ QD) [bc t,pD e,int k] []:=Eq.mp (by kernel_rfl) h
noncomputable abbrev mh:gF:=(3,(.c (.rt 0 0 0)),[])
noncomputable abbrev lx:gF:=(4,(.c (.rt 1 0 0)),[])
noncomputable abbrev FC (ax:ae) (aF:ai) (aR:Sq Int):List ah:=[(bC ax),(dc aF),.arr 3 1 aR.n (fun i=>b8 (aR.get i))]
noncomputable def sh (t:ae) (e:ai) (k:Int) (l:Sq Int) (j:Nat):VS:=⟨[(2,(int k),[]),mh,lx,(7,.c (.sa 2 l.n),[]),(8,int j,[])],(FC t e l),[]⟩
noncomputable abbrev sZ (ax:ai) (aF:Nat):ah:=.box (lift (kU (ax.frames.2 aF)))
noncomputable abbrev vK (ax:Sq Int):gF:=(7,((.c (.sa 2 ax.1)),[]))
noncomputable abbrev kJ (ax:Sq Int):ah:=.arr 3 1 ax.1 (fun i=>b8 (ax.2 i))
theorem Ie (L:LP) (QD:D→Prop) (t:ae) (e:ai) (k:Int) (l:Sq Int) (j:Nat) (h:br (decide ((↑j:Int)<(↑e.1.1:Int))) (nd (cd (↑j:Int) e.1.1) (br (decide ((e.frames.2 j).1<0)) (QD (bool false)) (br (decide ((e.frames.2 j).2<0)) (QD (bool false)) (br (decide ((↑(e.frames.2 j).3.1:Int)>24)) (QD (bool false)) (nd (cg (l.1+(e.frames.2 j).3.1) 8) (nd (l.1.beq l.1) (L (ag 83 5) ⟨[(po k),dA,bM,(7,((.c (.sa 4 (l.1+(e.frames.2 j).3.1))),[])),(8,((int (IntKind.i64.wrap ((↑j:Int)+1))),[]))],[(bC t),(dc e),.dead,(sZ e j),(.arr 3 1 (l.1+(e.frames.2 j).3.1) (gP l.1 (fun i=>b8 (l.2 i)) ((e.frames.2 j).3.1,fun i=>b8 ((e.frames.get (↑j:Int).toNat).vars.2 i)).snd))],[]⟩))))))) (L (ag 83 12) ⟨[(po k),dA,bM,(vK l),(10,((int 0),[]))],[(bC t),(dc e),(kJ l)],[]⟩)):dq pc 83 oY L (aZ QD) 5 (sh t e k l j):=Eq.mp (by kernel_rfl) h
noncomputable def sf (t:ae) (e:ai) (k:Int) (l:Sq Int) (j:Nat):VS:=⟨[(2,(int k),[]),mh,lx,(7,.c (.sa 2 l.n),[]),(10,int j,[])],(FC t e l),[]⟩
noncomputable abbrev dw (ax:ae):D:=.a (lift (cB (ax)))
noncomputable abbrev OZ (ax:ai) (aF:Nat):D:=.c (.im (.sl 1 ((ax.az.2 aF).3.1) (fun i=>eD ((ax.az.get (↑aF:Int).toNat).names.2 i))))
noncomputable abbrev Ma (ax:ae) (aF:ai) (aR:Nat):D:=.c (.im (.sl 1 ((ax.ins.2 (aF.az.2 aR).1.toNat).8.1) (fun i=>eD ((ax.ins.get (aF.az.get (↑aR:Int).toNat).value.toNat).names.2 i))))
noncomputable abbrev oZ (ax:ai) (aF:Nat):ah:=.box (lift (o4 (ax.az.2 aF)))
theorem Dn (L:LP) (QD:D→Prop) (t:ae) (e:ai) (k:Int) (l:Sq Int) (j:Nat) (h:br (decide ((↑j:Int)<(↑e.2.1:Int))) (nd (cd (↑j:Int) e.2.1) ((LC 80 [(dw t),(int ((e.az.2 j).1)),(int k)] [] (bool (dC t (e.az.2 j).1 k)) []∧br (!dC t (e.az.2 j).1 k) (QD (bool false)) (nd (cd (e.az.2 j).1 t.2.1) (br ((t.ins.2 (e.az.2 j).1.toNat).1 != 17) (QD (bool false)) ((LC 96 [(.a (lift (bn (e)))),(int ((e.az.2 j).1))] [] (int (pW e.2 (e.az.2 j).1)) []∧br (pW e.2 (e.az.2 j).1 != (↑j:Int)) (QD (bool false)) (nd (cd (e.az.2 j).1 t.2.1) (br ((e.az.2 j).2 != (t.ins.2 (e.az.2 j).1.toNat).5) (QD (bool false)) (nd (cd (e.az.2 j).1 t.2.1) ((LC 97 [(OZ e j),(Ma t e j)] [] (bool (cr jL (e.az.2 j).3 (t.ins.2 (e.az.2 j).1.toNat).8)) []∧br (!cr jL (e.az.2 j).3 (t.ins.2 (e.az.2 j).1.toNat).8) (QD (bool false)) (br ((↑(e.az.2 j).4.1:Int)!=(↑(e.az.2 j).3.1:Int)) (QD (bool false)) (nd (cg (l.1+(e.az.2 j).4.1) 8) (nd (l.1.beq l.1) (L (ag 83 12) ⟨[(po k),dA,bM,(7,((.c (.sa 5 (l.1+(e.az.2 j).4.1))),[])),(10,((int (IntKind.i64.wrap ((↑j:Int)+1))),[]))],[(bC t),(dc e),.dead,(oZ e j),.dead,(.arr 3 1 (l.1+(e.az.2 j).4.1) (gP l.1 (fun i=>b8 (l.2 i)) ((e.az.2 j).4.1,fun i=>b8 ((e.az.get (↑j:Int).toNat).items.2 i)).snd))],[]⟩)))))))))))))))) (L (ag 83 21) ⟨[(po k),dA,bM,(vK l),(12,((int 0),[]))],[(bC t),(dc e),(kJ l)],[]⟩)):dq pc 83 oY L (aZ QD) 12 (sf t e k l j):=Eq.mp (by kernel_rfl) h
noncomputable def xC (t:ae) (e:ai) (k:Int) (l:Sq Int) (j:Nat):VS:=⟨[(2,(int k),[]),mh,lx,(7,.c (.sa 2 l.n),[]),(12,int j,[])],(FC t e l),[]⟩
theorem DP (L:LP) (QD:D→Prop) (t:ae) (e:ai) (k:Int) (l:Sq Int) (j:Nat) (h:br (decide ((↑j:Int)<(↑l.1:Int))) (nd (cd (↑j:Int) l.1) (nd (j.blt l.1) (br (l.2 j == -1) (L (ag 83 21) ⟨[(po k),dA,bM,(vK l),(12,((int (IntKind.i64.wrap ((↑j:Int)+1))),[]))],[(bC t),(dc e),(kJ l)],[]⟩) (nd (cd (↑j:Int) l.1) (nd (j.blt l.1) ((LC 80 [(dw t),(int (l.2 j)),(int k)] [] (bool (dC t (l.2 j) k)) []∧br (!dC t (l.2 j) k) (QD (bool false)) (nd (cd (↑j:Int) l.1) (nd (j.blt l.1) (nd (cd (l.2 j) t.2.1) (br ((t.ins.2 (l.2 j).toNat).1==17) (nd (cd (↑j:Int) l.1) (nd (j.blt l.1) ((LC 96 [(.a (lift (bn (e)))),(int (l.2 j))] [] (int (pW e.2 (l.2 j))) []∧br (decide (pW e.2 (l.2 j)<0)) (QD (bool false)) (L (ag 83 21) ⟨[(po k),dA,bM,(vK l),(12,((int (IntKind.i64.wrap ((↑j:Int)+1))),[]))],[(bC t),(dc e),(kJ l),.dead,.dead],[]⟩))))) (L (ag 83 21) ⟨[(po k),dA,bM,(vK l),(12,((int (IntKind.i64.wrap ((↑j:Int)+1))),[]))],[(bC t),(dc e),(kJ l),.dead,.dead],[]⟩)))))))))))) (QD (bool true))):dq pc 83 oY L (aZ QD) 21 (xC t e k l j):=Eq.mp (by kernel_rfl) h
structure ic (e:ai):Prop where
 frames:e.frames.n≤1000
 vars:∀ j,j<e.frames.n→(e.frames.get j).vars.n≤1000
 az:e.az.n≤1000
 names:∀ j,j<e.az.n→(e.az.get j).names.n≤1000
 items:∀ j,j<e.az.n→(e.az.get j).items.n≤1000
structure ed (t:ae):Prop where
 ins:t.ins.n≤1000
 aa:t.aa.n≤1000
 args:∀ k,k<t.ins.n→(t.ins.get k).args.n≤1000
 names:∀ k,k<t.ins.n→(t.ins.get k).names.n≤1000
 str:∀ k,k<t.ins.n→(t.ins.get k).k.s.size≤1000
 ex:∀ k,k<t.aa.n→ic (t.aa.get k)
theorem B4 {t:ae} {v k:Int} (h:dC t v k=true):0≤v∧v<k:=by
 simp only [dC,dz,decide_eq_true_eq] at h
 omega
theorem nB {t:ae} {v k:Int} (h:dC t v k=true) (hk:k≤t.ins.n):cd v t.ins.n=true:=by
 have:=B4 h
 exact lR this.1 (by omega)
theorem cj {n:Nat} {b:Nat} (h:n≤2000000) (hb:b≤1000):cg n b=true:=by
 have h2:n*b≤2000000*1000:=Nat.mul_le_mul h hb
 unfold cg
 simp only [dz]
 exact ⟨Nat.ble_eq_true_of_le (cM h (by decide)),Nat.ble_eq_true_of_le (cM h2 (by decide))⟩
theorem ly {a b:Nat} (h:a<b):Nat.blt a b=true:=by simpa [cD] using h
theorem Px (t:ae) (e:ai) (k:Int) (l:Sq Int) (a:Bool) (hk:k≤t.ins.n) (hl:l.n≤2000000):∀ j,j≤l.n→bS (fun i=>GK t e k (l.get i)) (l.n-j) j=a→af 83 0 (aW (bool a)) (ag 83 21) (xC t e k l j):=by
 refine aL (fun j hj ih ha=>?_) (fun ha=>?_)
 ·have q:l.n-j=(l.n-(j+1))+1:=by omega
  rw [q] at ha
  have no:GK t e k (l.get j)=false→aX (bool false) (bool a):=fun q=>by rw [cO (p:=fun i=>GK t e k (l.get i)) q] at ha; subst ha; exact aX.refl _
  have go:GK t e k (l.get j)=true→af 83 0 (aW (bool a)) (ag 83 21) (xC t e k l (j+1)):=fun q=>by rw [dI (p:=fun i=>GK t e k (l.get i)) q] at ha; exact ih ha
  refine aH (X:=pc) (stop:=oY) (DP _ _ t e k l j ?_)
  rw [bR hj (cM hl (by decide))]
  refine ak (fun h=>?_) (fun h=>(dec_lt h hj).elim)
  refine aw (aA hj) (aw (ly hj) ?_)
  refine ak (fun h1=>go (by simp only [GK,show (l.get j == -1)=true from h1,Bool.true_or])) (fun h1=>?_)
  have h1:(l.get j == -1)=false:=h1
  refine aw (aA hj) (aw (ly hj) ⟨Gr _ _ _ hk,?_⟩)
  refine ak (fun h2=>no (by simp only [GK,h1,show (!dC t (l.get j) k)=true from h2,aO])) (fun h2=>?_)
  have h2:dC t (l.get j) k=true:=by simpa using h2
  refine aw (aA hj) (aw (ly hj) (aw (nB h2 hk) ?_))
  refine ak (fun h3=>?_) (fun h3=>?_)
  ·have h3:((t.ins.get (l.get j).toNat).op==17)=true:=h3
   refine aw (aA hj) (aw (ly hj) ⟨Om _ _,?_⟩)
   refine ak (fun h4=>no (by simp only [GK,h1,h2,h3,show decide (pW e.az (l.get j)<0)=true from h4,aO])) (fun h4=>?_)
   exact af.rename [0,1,2] rfl (go (by simp only [GK,h1,h2,h3,show decide (pW e.az (l.get j)<0)=false from h4,aO]))
  ·exact af.rename [0,1,2] rfl (go (by simp only [GK,h1,h2,show ((t.ins.get (l.get j).toNat).op==17)=false from h3,aO]))
 ·rw [Nat.sub_self] at ha
  refine aH (X:=pc) (stop:=oY) (DP _ _ t e k l _ ?_)
  refine ak (fun h=>bJ h) (fun h=>?_)
  subst ha; exact aX.refl _
theorem NP (t:ae) (e:ai) (k:Int) (a:Bool) (hk:k≤t.ins.n) (hS:ic e):∀ j,j≤e.az.n→∀ l:Sq Int,l.n≤144+1000*j→(bS (Ke t e k) (e.az.n-j) j&&x21 t e k (uZ (fun i=>(e.az.get i).items) (e.az.n-j) j l))=a→af 83 0 (aW (bool a)) (ag 83 12) (sf t e k l j):=by
 have hN:=hS.az
 refine aL (fun j hj ih l hl ha=>?_) (fun l hl ha=>?_)
 ·have q:e.az.n-j=(e.az.n-(j+1))+1:=by omega
  rw [q] at ha
  have hi:=hS.items j hj
  have no:Ke t e k j=false→aX (bool false) (bool a):=fun q=>by rw [cO q,Bool.false_and] at ha; subst ha; exact aX.refl _
  have go:Ke t e k j=true→af 83 0 (aW (bool a)) (ag 83 12) (sf t e k (dK l (e.az.get j).items) (j+1)):=fun q=>by rw [dI q] at ha; exact ih _ (by show l.n+_≤_; omega) ha
  refine aH (X:=pc) (stop:=oY) (Dn _ _ t e k l j ?_)
  rw [bR hj (cM hN (by decide))]
  refine ak (fun h=>?_) (fun h=>(dec_lt h hj).elim)
  refine aw (aA hj) ⟨Gr _ _ _ hk,?_⟩
  refine ak (fun h1=>no (by simp only [Ke,show (!dC t (e.az.get j).value k)=true from h1,aO])) (fun h1=>?_)
  have h1:dC t (e.az.get j).value k=true:=by simpa using h1
  have hb:=nB h1 hk
  refine aw hb (ak (fun h2=>no (by simp only [Ke,h1,show ((t.ins.get (e.az.get j).value.toNat).op != 17)=true from h2,aO])) (fun h2=>⟨Om _ _,?_⟩))
  have h2:((t.ins.get (e.az.get j).value.toNat).op != 17)=false:=h2
  refine ak (fun h3=>no (by simp only [Ke,h1,h2,show (pW e.az (e.az.get j).value != (j:Int))=true from h3,aO])) (fun h3=>aw hb ?_)
  have h3:(pW e.az (e.az.get j).value != (j:Int))=false:=h3
  refine ak (fun h4=>no (by simp only [Ke,h1,h2,h3,show ((e.az.get j).cls != (t.ins.get (e.az.get j).value.toNat).n)=true from h4,aO])) (fun h4=>aw hb ⟨TS _ _,?_⟩)
  have h4:((e.az.get j).cls != (t.ins.get (e.az.get j).value.toNat).n)=false:=h4
  refine ak (fun h5=>no (by simp only [Ke,h1,h2,h3,h4,show (!cr jL (e.az.get j).names (t.ins.get (e.az.get j).value.toNat).names)=true from h5,aO])) (fun h5=>?_)
  have h5:(!cr jL (e.az.get j).names (t.ins.get (e.az.get j).value.toNat).names)=false:=h5
  refine ak (fun h6=>no (by simp only [Ke,h1,h2,h3,h4,h5,show (((e.az.get j).items.n:Int)!=((e.az.get j).names.n:Int))=true from h6,aO])) (fun h6=>?_)
  have h6:(((e.az.get j).items.n:Int)!=((e.az.get j).names.n:Int))=false:=h6
  refine aw (cj (by show l.n+(e.az.get j).items.n≤_; omega) (by omega)) (aw (cf _) ?_)
  refine af.rename [0,1,5] rfl (af.le (sf t e k (dK l (e.az.get j).items) (j+1)) (by repeat' (first|exact trivial|refine bV rfl ?_)) (rc (rc (.cons (Pw 3 1 l (e.az.get j).items b8) .nil))) rfl (go ?_))
  simp only [Ke,h1,h2,h3,h4,h5,h6,aO]
 ·rw [Nat.sub_self] at ha
  refine aH (X:=pc) (stop:=oY) (Dn _ _ t e k l _ ?_)
  refine ak (fun h=>bJ h) (fun h=>?_)
  exact Px t e k l a hk (by omega) 0 (bu _) (by simpa [bS,uZ,x21,dn] using ha)
theorem R9 (t:ae) (e:ai) (k:Int) (a:Bool) (hk:k≤t.ins.n) (hS:ic e) (hN:e.frames.n≤6):∀ j,j≤e.frames.n→∀ l:Sq Int,l.n≤24*j→(bS (fun j=>yy (e.frames.get j)) (e.frames.n-j) j&&x12 t e k (uZ (fun i=>(e.frames.get i).vars) (e.frames.n-j) j l))=a→af 83 0 (aW (bool a)) (ag 83 5) (sh t e k l j):=by
 refine aL (fun j hj ih l hl ha=>?_) (fun l hl ha=>?_)
 ·have q:e.frames.n-j=(e.frames.n-(j+1))+1:=by omega
  rw [q] at ha
  have no:yy (e.frames.get j)=false→aX (bool false) (bool a):=fun q=>by rw [cO (p:=fun j=>yy (e.frames.get j)) q,Bool.false_and] at ha; subst ha; exact aX.refl _
  have go:yy (e.frames.get j)=true→(e.frames.get j).vars.n≤24→af 83 0 (aW (bool a)) (ag 83 5) (sh t e k (dK l (e.frames.get j).vars) (j+1)):=fun q hv=>by rw [dI (p:=fun j=>yy (e.frames.get j)) q] at ha; exact ih _ (by show l.n+_≤_; omega) ha
  refine aH (X:=pc) (stop:=oY) (Ie _ _ t e k l j ?_)
  rw [bR hj (cM hN (by decide))]
  refine ak (fun h=>?_) (fun h=>(dec_lt h hj).elim)
  refine aw (aA hj) ?_
  refine ak (fun h1=>no (by simp only [yy,show decide ((e.frames.get j).fn<0)=true from h1,aO])) (fun h1=>?_)
  have h1:decide ((e.frames.get j).fn<0)=false:=h1
  refine ak (fun h2=>no (by simp only [yy,h1,show decide ((e.frames.get j).line<0)=true from h2,aO])) (fun h2=>?_)
  have h2:decide ((e.frames.get j).line<0)=false:=h2
  refine ak (fun h3=>no (by simp only [yy,h1,h2,show decide (((e.frames.get j).vars.n:Int)>24)=true from h3,aO])) (fun h3=>?_)
  have h3:decide (((e.frames.get j).vars.n:Int)>24)=false:=h3
  have hv:(e.frames.get j).vars.n≤24:=by have:=of_decide_eq_false h3; omega
  refine aw (cj (by show l.n+(e.frames.get j).vars.n≤_; omega) (by omega)) (aw (cf _) ?_)
  refine af.rename [0,1,4] rfl (af.le (sh t e k (dK l (e.frames.get j).vars) (j+1)) (by repeat' (first|exact trivial|refine bV rfl ?_)) (rc (rc (.cons (Pw 3 1 l (e.frames.get j).vars b8) .nil))) rfl (go ?_ hv))
  simp only [yy,h1,h2,h3,aO]
 ·rw [Nat.sub_self] at ha
  refine aH (X:=pc) (stop:=oY) (Ie _ _ t e k l _ ?_)
  refine ak (fun h=>bJ h) (fun h=>?_)
  exact NP t e k a hk hS 0 (bu _) l (by omega) (by simpa [bS,uZ,x12,dn] using ha)
theorem Xk (t:ae) (e:ai) (k:Int) (hk:k≤t.ins.n) (hS:ic e):LC 83 [bc t,pD e,int k] [] (bool (kh t e k)) []:=by
 refine aU (X:=pc) (stop:=oY) Y5 (bg (by kernel_rfl)) (ae2 _ _ t e k ?_)
 refine ak (fun h1=>?_) (fun h1=>ak (fun h2=>?_) (fun h2=>ak (fun h3=>?_) (fun h3=>?_)))
 ·rw [show kh t e k=false from by simp only [kh,show decide ((e.frames.n:Int)<1)=true from h1,aO]]; exact aX.refl _
 ·rw [show kh t e k=false from by simp only [kh,show decide ((e.frames.n:Int)>6)=true from h2,aO]]; exact aX.refl _
 ·rw [show kh t e k=false from by simp only [kh,show decide (e.back<0)=true from h3,aO]]; exact aX.refl _
 ·have hN:e.frames.n≤6:=by have:=of_decide_eq_false h2; omega
  refine af.xJ 7 3 1 rfl (af.le (sh t e k (dx 0) 0) (by repeat' (first|exact trivial|refine bV rfl ?_)) (rc (rc (.cons (tO 3 1 _ _) .nil))) rfl ?_)
  refine R9 t e k _ hk hS hN 0 (bu _) (dx 0) (bu _) ?_
  simp only [kh,dn,Nat.sub_zero,show decide ((e.frames.n:Int)<1)=false from h1,show decide ((e.frames.n:Int)>6)=false from h2,show decide (e.back<0)=false from h3,aO]
end Go.Proofs.YtghfgcfabbbbbaaDoor
