/- '==' of the program's structs. -/
import Derived.Test.YtghfgcfabbbbbaaDoorQ3
import Derived.Laws.StructEq
import Derived.Tactics
import Derived.Tactics2
import Derived.StillTactics
import Derived.KernelRfl
import Derived.Test.YtghfgcfabbbbbaaDoorProg
import Derived.Test.YtghfgcfabbbbbaaDoorQ4
import Derived.Shelf.GgClosure.StringsIndexFunc
import Derived.Ground.GgwProg
import Derived.Shelf.GgClosure.StringsIndexFuncTop
import Derived.WalkKit
import Derived.Laws.RangeAny
import Derived.Laws.RangeString
import Derived.ProofKit
set_option linter.unusedVariables false
namespace Go.Proofs.YtghfgcfabbbbbaaDoor
open Go.V
theorem zt {l m:List C} {b:Bool} (h:Ek [] l m=some b):l=[]∧m=[]∧b=true:=by
 unfold Ek at h
 split at h<;>simp_all
theorem jz {k:List EK} {l m:List C} {b:Bool} (h:Ek (.int::k) l m=some b):∃ x y l' m' c,l=.im (.v (.int .i64 x))::l'∧m=.im (.v (.int .i64 y))::m'∧Ek k l' m'=some c∧b=((x==y)&&c):=by
 unfold Ek at h
 split at h
 ·simp_all
 ·rename_i h1
  simp only [List.cons.injEq,true_and] at h1
  subst h1
  split at h
  ·rename_i c hc
   simp only [ak] at h
   exact ⟨_,_,_,_,c,rfl,rfl,hc,h.symm⟩
  ·simp at h
 ·simp_all
 ·simp_all
 ·simp at h
theorem Gr {k:List EK} {l m:List C} {b:Bool} (h:Ek (.str::k) l m=some b):∃ x y l' m' c,l=.im (.v (.string x))::l'∧m=.im (.v (.string y))::m'∧Ek k l' m'=some c∧b=((x==y)&&c):=by
 unfold Ek at h
 split at h
 ·simp_all
 ·simp_all
 ·rename_i h1
  simp only [List.cons.injEq,true_and] at h1
  subst h1
  split at h
  ·rename_i c hc
   simp only [ak] at h
   exact ⟨_,_,_,_,c,rfl,rfl,hc,h.symm⟩
  ·simp at h
 ·simp_all
 ·simp at h
theorem cJ {E:Env} {av:Nat→Prop} {w:World} {x:Value} {l:List C} {cs:List Value} (h:az (aU E av w) (.im (.v x)::l) cs):∃ mc,cs=x::mc∧az (aU E av w) l mc:=by
 cases h with
 | cons q k=>exact ⟨_,by rw [q.1],k⟩
theorem nK {E:Env} {av:Nat→Prop} {w:World} {cs:List Value} (h:az (aU E av w) [] cs):cs=[]:=by
 cases h; rfl
theorem Yi (d:Nat) (p1 p2 q1 q2:Int) (w:World):(Op.equalIn (d+2) 27 (.agg #[.int .i64 p1,.int .i64 p2]) (.agg #[.int .i64 q1,.int .i64 q2])).run Tryd.prog w=.ok ((p1==q1)&&((p2==q2)&&true)) w:=by
 have u3:=Tryd.underlying3
 have a3:=Tryd.isAgg3
 have z3:=Tryd.sizeOf3
 have hS:Tryd.prog.underlying 27=some (.struct (Tryd.prog.fieldsOf 27)):=by kernel_rfl
 have hp:Tryd.prog.stoodInHeld 27=false:=by kernel_rfl
 rw [run_equalIn_agg w (d+1) 27 _ _ hS hp]
 simp only [Program.fieldsOf,Tryd.underlying27]
 go_simp
 by_cases h1:p1=q1<;>by_cases h2:p2=q2<;>simp [h1,h2]
theorem Vw (d:Nat) (a1 a2 b1 b2:Int) (s1 s2:ByteArray) (w:World):(Op.equalIn (d+2) 37 (.agg #[.int .i64 a1,.int .i64 a2,.string s1]) (.agg #[.int .i64 b1,.int .i64 b2,.string s2])).run Tryd.prog w=.ok ((a1==b1)&&((a2==b2)&&((s1==s2)&&true))) w:=by
 have u3:=Tryd.underlying3
 have a3:=Tryd.isAgg3
 have z3:=Tryd.sizeOf3
 have u9:=Tryd.underlying9
 have a9:=Tryd.isAgg9
 have z9:=Tryd.sizeOf9
 have hS:Tryd.prog.underlying 37=some (.struct (Tryd.prog.fieldsOf 37)):=by kernel_rfl
 have hp:Tryd.prog.stoodInHeld 37=false:=by kernel_rfl
 rw [run_equalIn_agg w (d+1) 37 _ _ hS hp]
 simp only [Program.fieldsOf,Tryd.underlying37]
 go_simp
 rw [beq_toListBytes]
 by_cases h1:a1=b1<;>by_cases h2:a2=b2<;>by_cases h3:s1.toList=s2.toList<;>simp [h1,h2,h3]
theorem Xg (d:Nat) (x1 x2 x3 y1 y2 y3 a1 a2 b1 b2:Int) (s1 s2:ByteArray) (w:World):(Op.equalIn (d+3) 45 (.agg #[.int .i64 x1,.int .i64 x2,.int .i64 x3,.int .i64 a1,.int .i64 a2,.string s1]) (.agg #[.int .i64 y1,.int .i64 y2,.int .i64 y3,.int .i64 b1,.int .i64 b2,.string s2])).run Tryd.prog w =
  .ok ((x1==y1)&&((x2==y2)&&((x3==y3)&&((a1==b1)&&((a2==b2)&&((s1==s2)&&true)))))) w:=by
 have u3:=Tryd.underlying3
 have a3:=Tryd.isAgg3
 have z3:=Tryd.sizeOf3
 have a44:=Tryd.isAgg37
 have z44:=Tryd.sizeOf37
 have e44:=Vw d
 have hS:Tryd.prog.underlying 45=some (.struct (Tryd.prog.fieldsOf 45)):=by kernel_rfl
 have hp:Tryd.prog.stoodInHeld 45=false:=by kernel_rfl
 rw [run_equalIn_agg w (d+2) 45 _ _ hS hp]
 simp only [Program.fieldsOf,Tryd.underlying45]
 go_simp
 by_cases h1:x1=y1<;>by_cases h2:x2=y2<;>by_cases h3:x3=y3<;>by_cases h4:a1=b1<;>by_cases h5:a2=b2<;>cases (s1==s2)<;>simp [h1,h2,h3,h4,h5]
theorem yq {t:TypeId} {cs ds:Array Value} {b:Bool} (hg:Tryd.prog.eqGuardType Tryd.prog.depth t=false) (h:∀ w,(Op.equalIn 10000 t (.agg cs) (.agg ds)).run Tryd.prog w=.ok b w) (w:World) (x y:Operand) :
  (do eqGuard .eql t x y (.agg cs) (.agg ds); binOp .eql t (.agg cs) (.agg ds)).run Tryd.prog w=.ok (.bool b) w∧
  (do eqGuard .neq t x y (.agg cs) (.agg ds); binOp .neq t (.agg cs) (.agg ds)).run Tryd.prog w=.ok (.bool (!b)) w:=by
 constructor
 ·rw [Sem.run_bind,run_eqGuard_agg w .eql t x y cs ds hg,Result.andThen_ok,run_eql_struct,h w,Result.andThen_ok]
 ·rw [Sem.run_bind,run_eqGuard_agg w .neq t x y cs ds hg,Result.andThen_ok,run_neq_struct,h w,Result.andThen_ok]
theorem RD:∀ t ks,findF t [(45,[EK.int,.int,.int,.int,.int,.str]),(27,[EK.int,.int]),(37,[EK.int,.int,.str])]=some ks→∀ (l m:List C) (b:Bool),Ek ks l m=some b→∀ (E:Env) (av:Nat→Prop) (w:World) (cs ds:Array Value),az (aU E av w) l cs.toList→az (aU E av w) m ds.toList→∀ (x y:Operand),
  (do eqGuard .eql t x y (.agg cs) (.agg ds); binOp .eql t (.agg cs) (.agg ds)).run Tryd.prog w=.ok (.bool b) w∧
  (do eqGuard .neq t x y (.agg cs) (.agg ds); binOp .neq t (.agg cs) (.agg ds)).run Tryd.prog w=.ok (.bool (!b)) w:=by
 intro t ks ht l m b hb E av w cs ds hl hm x y
 have hmem:=kQ ht
 obtain ⟨cs⟩:=cs
 obtain ⟨ds⟩:=ds
 simp only at hl hm
 rcases List.mem_cons.1 hmem with h|hmem
 ·simp only [a8] at h
  obtain ⟨rfl,rfl⟩:=h
  obtain ⟨x1,y1,l,m,c,rfl,rfl,hb1,rfl⟩:=jz hb
  obtain ⟨x2,y2,l,m,c,rfl,rfl,hb2,rfl⟩:=jz hb1
  obtain ⟨x3,y3,l,m,c,rfl,rfl,hb3,rfl⟩:=jz hb2
  obtain ⟨x4,y4,l,m,c,rfl,rfl,hb4,rfl⟩:=jz hb3
  obtain ⟨x5,y5,l,m,c,rfl,rfl,hb5,rfl⟩:=jz hb4
  obtain ⟨x6,y6,l,m,c,rfl,rfl,hb6,rfl⟩:=Gr hb5
  obtain ⟨rfl,rfl,rfl⟩:=zt hb6
  obtain ⟨cs,rfl,hl1⟩:=cJ hl
  obtain ⟨cs,rfl,hl2⟩:=cJ hl1
  obtain ⟨cs,rfl,hl3⟩:=cJ hl2
  obtain ⟨cs,rfl,hl4⟩:=cJ hl3
  obtain ⟨cs,rfl,hl5⟩:=cJ hl4
  obtain ⟨cs,rfl,hl6⟩:=cJ hl5
  obtain rfl:=nK hl6
  obtain ⟨ds,rfl,hm1⟩:=cJ hm
  obtain ⟨ds,rfl,hm2⟩:=cJ hm1
  obtain ⟨ds,rfl,hm3⟩:=cJ hm2
  obtain ⟨ds,rfl,hm4⟩:=cJ hm3
  obtain ⟨ds,rfl,hm5⟩:=cJ hm4
  obtain ⟨ds,rfl,hm6⟩:=cJ hm5
  obtain rfl:=nK hm6
  exact yq (by kernel_rfl) (fun w=>Xg 9997 x1 x2 x3 y1 y2 y3 x4 x5 y4 y5 x6 y6 w) w x y
 ·rcases List.mem_cons.1 hmem with h|hmem
  ·simp only [a8] at h
   obtain ⟨rfl,rfl⟩:=h
   obtain ⟨x1,y1,l,m,c,rfl,rfl,hb1,rfl⟩:=jz hb
   obtain ⟨x2,y2,l,m,c,rfl,rfl,hb2,rfl⟩:=jz hb1
   obtain ⟨rfl,rfl,rfl⟩:=zt hb2
   obtain ⟨cs,rfl,hl1⟩:=cJ hl
   obtain ⟨cs,rfl,hl2⟩:=cJ hl1
   obtain rfl:=nK hl2
   obtain ⟨ds,rfl,hm1⟩:=cJ hm
   obtain ⟨ds,rfl,hm2⟩:=cJ hm1
   obtain rfl:=nK hm2
   exact yq (by kernel_rfl) (fun w=>Yi 9998 x1 x2 y1 y2 w) w x y
  ·rcases List.mem_cons.1 hmem with h|hmem
   ·simp only [a8] at h
    obtain ⟨rfl,rfl⟩:=h
    obtain ⟨x1,y1,l,m,c,rfl,rfl,hb1,rfl⟩:=jz hb
    obtain ⟨x2,y2,l,m,c,rfl,rfl,hb2,rfl⟩:=jz hb1
    obtain ⟨x3,y3,l,m,c,rfl,rfl,hb3,rfl⟩:=Gr hb2
    obtain ⟨rfl,rfl,rfl⟩:=zt hb3
    obtain ⟨cs,rfl,hl1⟩:=cJ hl
    obtain ⟨cs,rfl,hl2⟩:=cJ hl1
    obtain ⟨cs,rfl,hl3⟩:=cJ hl2
    obtain rfl:=nK hl3
    obtain ⟨ds,rfl,hm1⟩:=cJ hm
    obtain ⟨ds,rfl,hm2⟩:=cJ hm1
    obtain ⟨ds,rfl,hm3⟩:=cJ hm2
    obtain rfl:=nK hm3
    exact yq (by kernel_rfl) (fun w=>Vw 9998 x1 x2 y1 y2 x3 y3 w) w x y
   ·cases hmem
end Go.Proofs.YtghfgcfabbbbbaaDoor
set_option maxRecDepth 1000000
namespace Go.Proofs.YtghfgcfabbbbbaaDoor
open Go Go.V
def YU:List (Nat×Ty):=[
 (3,⟨1,8,(.int .i64 0),.int⟩),
 (40,⟨14,152,(.agg ⟨[(.int .i64 0),(.int .i64 0),(.int .i64 0),(.int .i64 0),(.int .i64 0),(.slice none 0 0),(.int .i64 0),(.int .i64 0),(.string ⟨⟨[]⟩⟩),(.slice none 0 0),(.int .i64 0),(.int .i64 0),(.int .i64 0),(.bool false)]⟩),(.struct [(0,1),(1,1),(2,1),(3,1),(4,1),(5,1),(6,3),(9,1),(10,2),(12,1),(13,1)])⟩),
 (31,⟨4,64,(.agg ⟨[(.int .i64 0),(.int .i64 0),(.slice none 0 0),(.slice none 0 0)]⟩),(.struct [(0,2),(2,1),(3,1)])⟩),
 (22,⟨1,24,(.slice none 0 0),(.slice 3)⟩),
 (28,⟨1,24,(.slice none 0 0),(.slice 40)⟩),
 (4,⟨1,1,(.bool false),.bool⟩),
 (38,⟨1,24,(.slice none 0 0),(.slice 9)⟩),
 (73,⟨3,56,(.agg ⟨[(.slice none 0 0),(.slice none 0 0),(.int .i64 0)]⟩),(.struct [(0,1),(1,1),(2,1)])⟩),
 (37,⟨3,32,(.agg ⟨[(.int .i64 0),(.int .i64 0),(.string ⟨⟨[]⟩⟩)]⟩),(.struct [(0,1),(1,1),(2,1)])⟩),
 (29,⟨1,24,(.slice none 0 0),(.slice 73)⟩),
 (78,⟨4,64,(.agg ⟨[(.int .i64 0),(.int .i64 0),(.slice none 0 0),(.slice none 0 0)]⟩),(.struct [(0,1),(1,1),(2,1),(3,1)])⟩),
 (71,⟨1,24,(.slice none 0 0),(.slice 78)⟩),
 (57,⟨1,8,(.pointer none),(.ptr 62)⟩),
 (70,⟨1,24,(.slice none 0 0),(.slice 75)⟩),
 (46,⟨1,24,(.slice none 0 0),(.slice 4)⟩),
 (75,⟨3,40,(.agg ⟨[(.int .i64 0),(.int .i64 0),(.slice none 0 0)]⟩),(.struct [(0,1),(1,1),(2,1)])⟩),
 (58,⟨1,8,(.pointer none),(.ptr 60)⟩),
 (62,⟨7,88,(.agg ⟨[(.pointer none),(.int .i64 0),(.int .i64 0),(.slice none 0 0),(.slice none 0 0),(.int .i64 0),(.int .i64 0)]⟩),(.struct [(0,1),(1,4),(5,1),(6,1)])⟩),
 (9,⟨1,16,(.string ⟨⟨[]⟩⟩),.str⟩),
 (45,⟨6,56,(.agg ⟨[(.int .i64 0),(.int .i64 0),(.int .i64 0),(.int .i64 0),(.int .i64 0),(.string ⟨⟨[]⟩⟩)]⟩),(.struct [(0,1),(1,1),(2,1),(3,3)])⟩),
 (93,⟨5,72,(.agg ⟨[(.int .i64 0),(.int .i64 0),(.slice none 0 0),(.slice none 0 0),(.map none)]⟩),(.struct [(0,4),(4,1)])⟩),
 (23,⟨3,24,(.agg ⟨[(.int .i64 0),(.int .i64 0),(.int .i64 0)]⟩),(.array 3 3)⟩),
 (144,⟨1,8,(.int .u64 0),.other⟩),
 (27,⟨2,16,(.agg ⟨[(.int .i64 0),(.int .i64 0)]⟩),(.struct [(0,1),(1,1)])⟩),
 (55,⟨1,24,(.slice none 0 0),(.slice 45)⟩),
 (91,⟨1,8,(.map none),(.map 3 4)⟩),
 (112,⟨1,24,(.slice none 0 0),(.slice 113)⟩),
 (60,⟨2,32,(.agg ⟨[(.slice none 0 0),(.int .i64 0)]⟩),(.struct [(0,1),(1,1)])⟩),
 (41,⟨1,8,(.int .i64 0),.int⟩),
 (109,⟨1,8,.nilFunc,.func⟩),
 (114,⟨1,8,.nilFunc,.func⟩),
 (133,⟨1,8,(.int .u64 0),.other⟩),
 (24,⟨6,48,(.agg ⟨[(.int .i64 0),(.int .i64 0),(.int .i64 0),(.int .i64 0),(.int .i64 0),(.int .i64 0)]⟩),(.array 2 23)⟩),
 (69,⟨1,8,(.pointer none),(.ptr 73)⟩),
 (84,⟨30,240,(.agg ⟨[(.int .i64 0),.nilFunc,(.int .i64 0),.nilFunc,(.int .i64 0),.nilFunc,(.int .i64 0),.nilFunc,(.int .i64 0),.nilFunc,(.int .i64 0),.nilFunc,(.int .i64 0),.nilFunc,(.int .i64 0),.nilFunc,(.int .i64 0),.nilFunc,(.int .i64 0),.nilFunc,(.int .i64 0),.nilFunc,(.int .i64 0),.nilFunc,(.int .i64 0),.nilFunc,(.int .i64 0),.nilFunc,(.int .i64 0),.nilFunc]⟩),(.array 15 83)⟩),
 (83,⟨2,16,(.agg ⟨[(.int .i64 0),.nilFunc]⟩),(.struct [(0,1),(1,1)])⟩),
 (81,⟨1,8,.nilFunc,.func⟩),
 (131,⟨1,8,.nilFunc,.func⟩),
 (21,⟨1,4,(.int .i32 0),.other⟩),
 (86,⟨1,8,.nilFunc,.func⟩),
 (87,⟨1,24,(.slice none 0 0),(.slice 37)⟩),
 (120,⟨1,8,.nilFunc,.func⟩),
 (113,⟨1,8,(.pointer none),(.ptr 3)⟩),
 (141,⟨1,4,(.int .u32 0),.other⟩),
 (5,⟨1,1,(.int .u8 0),.other⟩)
]
def Zw:List (Nat×List EK):=[(45,[.int,.int,.int,.int,.int,.str]),(27,[.int,.int]),(37,[.int,.int,.str])]
def Ic (f:FuncId):I:=.fn f 0 fun _=>.v (.bool false)
def Xq:List I:=[.v (.int .i64 0),.v .nilFunc,.v (.int .i64 0),.v .nilFunc,.v (.int .i64 0),Ic 123,.v (.int .i64 1),Ic 123,.v (.int .i64 2),Ic 123,.v (.int .i64 1),Ic 123,.v (.int .i64 1),Ic 123,.v (.int .i64 1),Ic 123,.v (.int .i64 1),Ic 123,.v (.int .i64 2),Ic 123,.v (.int .i64 1),Ic 124,.v (.int .i64 0),.v .nilFunc,.v (.int .i64 2),Ic 126,.v (.int .i64 0),.v .nilFunc,.v (.int .i64 1),Ic 123]
noncomputable def TX:Nat→I:=List.rec (fun _=>.v (.bool false)) (fun x _ ih k=>Nat.rec x (fun m _=>ih m) k) Xq
noncomputable def mn:dn:=⟨fun t=>findF t YU,fun t=>findF t Zw,fun g=>none,fun g=>match g with
 | 0=>some (30,TX)
 | _=>none⟩
def VH:List (Nat×List (Nat×List Nat)):=[
 (3,[(0,[0,3]),(1,[0,3,5]),(2,[3,5,6]),(3,[3,5,6,7]),(4,[3,5,7,22]),(5,[4]),(6,[5,34]),(7,[4]),(8,[4])]),
 (4,[(0,[0,1]),(1,[0,1,5]),(2,[1,5,6]),(3,[1,5,6,7]),(4,[1,5,6,7,19,20,21]),(5,[1,5,6,7,19,20,21,22]),(6,[1,5,6,7,8,9,19,20,21]),(7,[1,5,6,7,8,19,20,21,33]),(8,[1,5,6,7,19,20,21]),(9,[1,5,6,7,19,20,21]),(10,[1,5,6,7,41]),(11,[4]),(12,[5,6,10,11]),(13,[5,6,11,12,13]),(14,[5,12,13,77]),(15,[4]),(16,[5,12,13,79,80]),(17,[5,12,13,79,80,81]),(18,[5,12,13,14,79,80]),(19,[5,12,13,79,80,93]),(20,[4]),(21,[5,12,13,79,80]),(22,[4])]),
 (5,[(0,[]),(1,[1]),(2,[1,2]),(3,[1,2,3]),(4,[3,4]),(5,[3,4,5]),(6,[3,4,5,6]),(7,[3,4,7,8]),(8,[7,8,61]),(9,[0]),(10,[0])]),
 (6,[(0,[0,2]),(1,[2,3]),(2,[2,3]),(3,[2,3,4]),(4,[2,3,4,29]),(5,[2,3,4]),(6,[2,3,4]),(7,[2,3]),(8,[2,3,5]),(9,[2,3,5,6]),(10,[2,3,5,6]),(11,[2,3,5,6]),(12,[2,3,5]),(13,[2,3,5]),(14,[2,3,5,7]),(15,[2,3,5,7,8]),(16,[2,3,5,7,8,75]),(17,[2,3,5,7,8]),(18,[2,3,5,7,8]),(19,[2,3,5,85]),(20,[2,3,5]),(21,[2,3,5]),(22,[2,3]),(23,[2]),(24,[2,3,5]),(25,[2,3,5,9]),(26,[2,3,5,9,103]),(27,[2,3,5,9]),(28,[2,3,5,9,111]),(29,[2,3,5,9]),(30,[2,3,5,9]),(31,[2,3]),(32,[2])]),
 (7,[(0,[2,3,4]),(1,[3,4,5]),(2,[3,4,5,6]),(3,[3,4,5,6,7]),(4,[3,4,5,6,7,22]),(5,[3,4,5,6,7]),(6,[3,4,5,6,7,34]),(7,[3,4,5,6,7,34,35]),(8,[4,5]),(9,[3,4,5,6,7,34,43]),(10,[4,5]),(11,[3,4,5,6,7,34,50]),(12,[4,5]),(13,[3,4,5,6,7,34,57]),(14,[4,5]),(15,[3,4,5,6,7,34,64]),(16,[4,5]),(17,[3,4,5,6,7,34,77]),(18,[4,5]),(19,[3,4,5,6,7,34,87]),(20,[4,5]),(21,[3,4,5,6,7,34,100]),(22,[4,5]),(23,[3,4,5,6,7,34,117]),(24,[4,5]),(25,[3,4,5,7,34,129]),(26,[3,4,5,7,132]),(27,[4,5]),(28,[3,4,5,7,34,138]),(29,[3,4,5,7,141]),(30,[4,5]),(31,[3,4,5,7,34,159]),(32,[3,4,5,7,162]),(33,[4,5]),(34,[3,4,5,34,177]),(35,[4,5]),(36,[3,4,5,189]),(37,[4,5]),(38,[4])]),
 (8,[(0,[1]),(1,[2])]),
 (9,[(0,[2,3,4]),(1,[2,3,4,9]),(2,[4,5]),(3,[2,3,4,21]),(4,[4,5]),(5,[3,4,6]),(6,[4,6,33]),(7,[4,5]),(8,[4,5])]),
 (10,[(0,[1]),(1,[1,10]),(2,[2]),(3,[1,3]),(4,[1,3,4]),(5,[1,3,4,25]),(6,[2]),(7,[1,3,4,28,29,30]),(8,[1,3,4,28,29,30,31]),(9,[1,3,4,5,6,28,29,30]),(10,[1,3,4,5,6,28,29,30,37]),(11,[1,3,4,28,29,30]),(12,[1,3,4,5,6,28,29,30,58]),(13,[1,3,4,5,6,7,28,29,30]),(14,[1,3,4,28,29,30]),(15,[1,3,4,28,29,30]),(16,[2])]),
 (11,[(0,[0,1,4]),(1,[4])]),
 (12,[(0,[0,2]),(1,[0,2,3]),(2,[2,3,6,7,8]),(3,[2,3,6,7,8,9]),(4,[2,3,5,6,7,8]),(5,[2,3,5,6,7,8,14]),(6,[2,3,5,6,7,8]),(7,[2,3,5,6,7,8]),(8,[2,3,6,7,8]),(9,[2,3,6,7,8]),(10,[2])]),
 (13,[(0,[0,2]),(1,[2])]),
 (14,[(0,[0,2]),(1,[2])]),
 (15,[(0,[0,2]),(1,[2])]),
 (16,[(0,[0,1]),(1,[0,1,10]),(2,[4]),(3,[0,1,12,13]),(4,[0,1,12,13,14]),(5,[0,1,5,12,13]),(6,[0,1,12,13,24]),(7,[4]),(8,[0,1,12,13]),(9,[4])]),
 (17,[(0,[0,1]),(1,[0,1,10]),(2,[4]),(3,[0,1,12,13]),(4,[0,1,12,13,14]),(5,[0,1,5,12,13]),(6,[0,1,12,13,24]),(7,[4]),(8,[0,1,12,13]),(9,[4])]),
 (18,[(0,[1]),(1,[1,3]),(2,[1,3,7,8,9]),(3,[1,3,7,8,9,10]),(4,[1,3,4,5,7,8,9]),(5,[1,3,4,7,8,9,32]),(6,[1,3,7,8,9]),(7,[1,3,7,8,9]),(8,[2])]),
 (19,[(0,[0,1]),(1,[0,1,18]),(2,[4]),(3,[0,1]),(4,[4])]),
 (20,[(0,[0,3]),(1,[0]),(2,[4])]),
 (21,[(0,[0]),(1,[0,3]),(2,[0,3,4]),(3,[0,3,4,12]),(4,[0,3,4]),(5,[0,3,4]),(6,[0,5]),(7,[0,5,40]),(8,[0,5]),(9,[0]),(10,[2])]),
 (22,[(0,[0,2]),(1,[0,2,20]),(2,[0,2,20,21]),(3,[]),(4,[0,2,20,38]),(5,[0,2,20,38]),(6,[0,2,20,38]),(7,[0,3]),(8,[0,3]),(9,[]),(10,[0,2,20,56]),(11,[0,4]),(12,[0,4]),(13,[]),(14,[0,2,20,70]),(15,[0,2,5]),(16,[0,2,5]),(17,[0,2,6]),(18,[0,7]),(19,[0,7]),(20,[]),(21,[0,2,20,98]),(22,[0,2,20,98]),(23,[0,2,8]),(24,[]),(25,[0,2,20,109]),(26,[0,2,9]),(27,[]),(28,[0,2,20,121]),(29,[0,2,20,121]),(30,[0,2,10]),(31,[0,2,10]),(32,[0,2]),(33,[0,2,11]),(34,[0,2,11]),(35,[]),(36,[0,2,20,153]),(37,[0,2,12]),(38,[0,2,12]),(39,[0,2,12]),(40,[0,12,168]),(41,[]),(42,[]),(43,[0,2,20,185]),(44,[0,13]),(45,[0,13]),(46,[0,13]),(47,[]),(48,[0,2,201]),(49,[0,2,14]),(50,[0,2,14]),(51,[0,2,14]),(52,[])]),
 (23,[(0,[0]),(1,[0,3]),(2,[0,3,4]),(3,[0,3,4,12]),(4,[0,3,4]),(5,[0,3,4,24]),(6,[0,3,4]),(7,[0,3,31]),(8,[2]),(9,[0,3,37]),(10,[2]),(11,[2])]),
 (24,[(0,[1,2]),(1,[1,2,3]),(2,[1,2,3,4]),(3,[1,2,3,4,13]),(4,[1,2,3,4]),(5,[1,2,3,4]),(6,[1,2,3,5]),(7,[1,2,3,5,31]),(8,[1,2,3,5]),(9,[1,2,3,5]),(10,[2])]),
 (25,[(0,[0,1]),(1,[1,5]),(2,[1,5,10]),(3,[4]),(4,[4])]),
 (26,[(0,[]),(1,[0])]),
 (27,[(0,[1]),(1,[1,13]),(2,[2]),(3,[1,3]),(4,[1,3,4]),(5,[1,3,4,5]),(6,[1,3,4,5,26]),(7,[1,3,4,5]),(8,[1,3,4,5,6]),(9,[1,3,4,5,6,7]),(10,[1,3,4,5,6,7,35]),(11,[1,3,4,5,6,7,35,36]),(12,[1,3,4,5,7]),(13,[1,3,4,5,6,7,35,50]),(14,[1,3,4,5,6,7,35,50]),(15,[1,3,4,5,6,7,35,50]),(16,[1,3,4,5,6,7,35,50]),(17,[1,3,4,5,6,7,35,50]),(18,[1,3,4,5,6,7,35,50]),(19,[1,3,4,5,6,7,35,50]),(20,[1,3,4,5,6,7,35,50]),(21,[1,3,4,5,6,7,35,50]),(22,[1,3,4,5,6,7,35,50]),(23,[1,3,4,5,6,7,50]),(24,[1,3,4,5,6,8]),(25,[1,3,4,5,6,7]),(26,[1,3,4,5,7,9]),(27,[1,3,4,5,7,9,10]),(28,[1,3,4,5,7,9,10,77]),(29,[1,3,4,5,7,9,10]),(30,[1,3,4,5,7,9,10]),(31,[1,3,4,5]),(32,[2])]),
 (28,[(0,[1]),(1,[1,3]),(2,[1,3,4]),(3,[1,3,4,5]),(4,[1,3,4,5,11]),(5,[1,3,4,5]),(6,[1,3,4,5,35]),(7,[1,3,4,5]),(8,[2])]),
 (29,[(0,[1]),(1,[1,15]),(2,[2]),(3,[1,31]),(4,[2]),(5,[1,3]),(6,[1,3,4]),(7,[3,4,39,40]),(8,[3,4,39,40,41]),(9,[3,4,5,39,40]),(10,[3,4,39,40,47]),(11,[2]),(12,[3,4,39,40]),(13,[2])]),
 (30,[(0,[1,2]),(1,[1,2]),(2,[1,2,22,23,24]),(3,[1,2,22,23,24,25]),(4,[1,2,3,4,22,23,24]),(5,[1,2,22,23,24]),(6,[1,2,22,23,24]),(7,[1,2,47,48,49]),(8,[1,2,47,48,49,50]),(9,[1,2,5,6,47,48,49]),(10,[1,2,5,7,8,47,48,49]),(11,[1,2,5,7,8,47,48,49,60,61,62]),(12,[1,2,5,7,8,47,48,49,60,61,62,63]),(13,[1,2,5,7,8,9,10,47,48,49,60,61,62]),(14,[1,2,5,7,8,47,48,49,60,61,62]),(15,[1,2,5,7,8,47,48,49,60,61,62]),(16,[1,2,5,7,8,47,48,49,75,76,77]),(17,[1,2,5,7,8,47,48,49,75,76,77,78]),(18,[1,2,5,7,8,11,12,47,48,49,75,76,77]),(19,[1,2,5,7,8,47,48,49,75,76,77]),(20,[1,2,5,7,8,47,48,49,75,76,77]),(21,[1,2,47,48,49]),(22,[1,2,47,48,49]),(23,[2])]),
 (31,[(0,[2,3]),(1,[2,3,5]),(2,[2,3,5,6]),(3,[2,3,5,6,15]),(4,[4]),(5,[2,3,5,6,15,16]),(6,[3,5,30]),(7,[4]),(8,[]),(9,[2,3,5,6,15,40]),(10,[2,3,5,6,51]),(11,[4]),(12,[2,3,5,6,7]),(13,[2,3,5,6,87]),(14,[4]),(15,[5,6]),(16,[]),(17,[2,3,5,6,15,97]),(18,[5,6,132]),(19,[4]),(20,[]),(21,[2,3,5,15,136]),(22,[5,156]),(23,[4]),(24,[]),(25,[2,3,5,15,160]),(26,[5,173]),(27,[4]),(28,[]),(29,[2,3,177]),(30,[4]),(31,[4])]),
 (32,[(0,[0,1]),(1,[4])]),
 (33,[(0,[0,1]),(1,[3])]),
 (34,[(0,[0]),(1,[0,3]),(2,[0,3,13]),(3,[0,3]),(4,[0,3]),(5,[3]),(6,[2])]),
 (35,[(0,[0]),(1,[3]),(2,[3,4]),(3,[3,4]),(4,[3,4]),(5,[3,4]),(6,[3,4]),(7,[3,4]),(8,[3,4]),(9,[3,4]),(10,[4]),(11,[2]),(12,[2])]),
 (36,[(0,[1,2]),(1,[1,2,3]),(2,[1,2,3]),(3,[2,3]),(4,[2])]),
 (37,[(0,[1,2]),(1,[1,2,3]),(2,[1,2,3,4]),(3,[1,2,3,4,15]),(4,[1,2,3,4]),(5,[1,2,3,4,5]),(6,[1,2,3,4,5]),(7,[1,2,3,4]),(8,[1,2,3,6]),(9,[1,2,3,6,38]),(10,[1,2,3,6]),(11,[1,2,3,6,7]),(12,[1,2,3,6,7]),(13,[1,2,3,6,7]),(14,[1,2,3,6]),(15,[2])]),
 (38,[(0,[1]),(1,[1,12]),(2,[2]),(3,[15]),(4,[2]),(5,[2])]),
 (39,[(0,[2,3]),(1,[2,3,5]),(2,[2,3,5,11]),(3,[2,3,5]),(4,[2,3,5,6]),(5,[2,3,5,6,33]),(6,[4]),(7,[2,3,5,41]),(8,[4]),(9,[4])]),
 (40,[(0,[1]),(1,[1,4]),(2,[1,4,5]),(3,[1,4,5]),(4,[1,4,5]),(5,[1,4,5]),(6,[1,4,5]),(7,[1,4,5]),(8,[1,4,5]),(9,[1,4,5]),(10,[2]),(11,[1,4,17]),(12,[1,4,17]),(13,[1,4,17]),(14,[1,4,17]),(15,[2]),(16,[1,4,27]),(17,[2]),(18,[1,36]),(19,[2]),(20,[2])]),
 (41,[(0,[1]),(1,[1,3]),(2,[1,3,8]),(3,[2]),(4,[2])]),
 (42,[(0,[1,2,3]),(1,[1,2,3,7]),(2,[1,2,3,7,8]),(3,[1,2,3,7,24]),(4,[1,2,3,7,24]),(5,[1,2,3,7,24]),(6,[6]),(7,[1,2,3,7,46]),(8,[6]),(9,[1,3,7,74]),(10,[6]),(11,[1,3,7,85]),(12,[6]),(13,[1,3,7,120,121,122]),(14,[1,3,7,120,121,122,123]),(15,[1,3,7,10,120,121,122]),(16,[1,3,7,120,121,122,140]),(17,[6]),(18,[1,3,7,120,121,122]),(19,[1,3,7,144]),(20,[6]),(21,[1,3,7,149]),(22,[6]),(23,[1,3,7]),(24,[6])]),
 (43,[(0,[0]),(1,[0,4]),(2,[2]),(3,[2])]),
 (44,[(0,[0]),(1,[0,4]),(2,[2]),(3,[2])]),
 (45,[(0,[0]),(1,[0,4]),(2,[2]),(3,[2])]),
 (46,[(0,[0]),(1,[0,4]),(2,[2]),(3,[2])]),
 (47,[(0,[0]),(1,[0,4]),(2,[2]),(3,[2])]),
 (48,[(0,[0]),(1,[0,4]),(2,[2]),(3,[2])]),
 (49,[(0,[1]),(1,[2])]),
 (50,[(0,[0,1]),(1,[4])]),
 (51,[(0,[0]),(1,[2])]),
 (52,[(0,[3,4,5]),(1,[3,6]),(2,[3,6,7]),(3,[3,6,7,20,21]),(4,[3,6,7,20,21,22]),(5,[3,6,7,8,20,21]),(6,[3,6,7,9,20,21]),(7,[3,6,7,9,20,21]),(8,[3,6,7,20,21]),(9,[3,6,7,20,21]),(10,[6,7,54,55,56]),(11,[6,7,54,55,56,57]),(12,[6,7,11,54,55,56]),(13,[6,7,11,54,55,56,61,62,63]),(14,[6,7,11,54,55,56,61,62,63,64]),(15,[6,7,11,13,54,55,56,61,62,63]),(16,[6,7,11,54,55,56,61,62,63]),(17,[6,7,11,54,55,56,61,62,63]),(18,[6,7,11,54,55,56,73,74,75]),(19,[6,7,11,54,55,56,73,74,75,76]),(20,[6,7,11,14,15,54,55,56,73,74,75]),(21,[6,7,11,14,54,55,56,73,74,75]),(22,[6,7,11,54,55,56,73,74,75]),(23,[6,7,11,54,55,56,73,74,75]),(24,[6,7,54,55,56])]),
 (53,[(0,[2,3,4]),(1,[2,3,4,5]),(2,[2,3,4,5,12,13,14]),(3,[2,3,4,5,12,13,14,15]),(4,[2,3,4,5,6,7,12,13,14]),(5,[2,3,4,5,6,7,12,13,14,20]),(6,[2,3,4,5,6,7,8,12,13,14]),(7,[2,3,4,5,6,7,8,12,13,14,35]),(8,[2,3,4,5,6,8,9,12,13,14]),(9,[2,3,4,5,6,8,9,12,13,14,43]),(10,[3,8,10]),(11,[]),(12,[2,3,4,5,6,8,12,13,14]),(13,[2,3,4,5,6,12,13,14,58]),(14,[2,3,4,5,12,13,14]),(15,[2,3,4,5,12,13,14]),(16,[4])]),
 (54,[(0,[0]),(1,[2])]),
 (55,[(0,[2,3]),(1,[2,3,5]),(2,[2,3,5,25]),(3,[4]),(4,[2,3,5,6]),(5,[2,3,5,6,7]),(6,[2,3,5,6,7,37]),(7,[2,3,5,6,7]),(8,[2,3,5,6,7,8]),(9,[2,3,5,6,7,8,59]),(10,[2,3,5,6,7,8,9]),(11,[2,3,5,6,7,8]),(12,[2,3,5,6,7,8,92]),(13,[2,3,5,6,7,8]),(14,[2,3,5,6,7,8,98]),(15,[2,3,5,6,7]),(16,[2,3,5,6,7,8,108]),(17,[2,3,5,6,7]),(18,[2,3,5,6,7,8,128]),(19,[2,3,5,6,7,8]),(20,[2,3,5,6,7,8,140,141,142]),(21,[2,3,5,6,7,8,140,141,142,143]),(22,[2,3,5,6,7,8,10,11,140,141,142]),(23,[2,3,5,6,7,8,10,140,141,142,149]),(24,[2,3,5,6,7,8,140,141,142]),(25,[2,3,5,6,7,8,140,141,142]),(26,[]),(27,[4])]),
 (56,[(0,[0,1]),(1,[0,1,7,8]),(2,[0,1,7,8,9]),(3,[0,1,5,7,8]),(4,[0,1,5,7,8,16]),(5,[4]),(6,[0,1,7,8]),(7,[4])]),
 (57,[(0,[1]),(1,[1,3]),(2,[1,3,27]),(3,[2]),(4,[1,3,4]),(5,[1,3,4,5]),(6,[1,3,4,5,36]),(7,[1,3,4,5]),(8,[1,3,4,5,6]),(9,[1,3,4,5,6,7]),(10,[1,3,4,5,6,74]),(11,[2]),(12,[1,3,4,5,6,107]),(13,[2]),(14,[1,3,4,5,6,8]),(15,[1,3,4,5,6,8,9]),(16,[1,3,4,5,6,8,9,113]),(17,[1,3,4,5,6,8,9]),(18,[1,3,4,5,6,8,9,135]),(19,[2]),(20,[1,3,4,5,6,178]),(21,[2]),(22,[1,3,4,5,6,181]),(23,[1,3,4,5,6,198]),(24,[2]),(25,[1,3,4,5]),(26,[2])]),
 (58,[(0,[0,1]),(1,[0,1,7,8]),(2,[0,1,7,8,9]),(3,[0,1,5,7,8]),(4,[0,1,5,7,8,16]),(5,[4]),(6,[0,1,7,8]),(7,[4])]),
 (59,[(0,[1]),(1,[2])]),
 (60,[(0,[1]),(1,[1,3,4]),(2,[1,3,4,5]),(3,[1,5,15]),(4,[2]),(5,[1,36]),(6,[2]),(7,[1,73]),(8,[2]),(9,[1,112]),(10,[2]),(11,[1,127]),(12,[2]),(13,[1,161]),(14,[2]),(15,[2])]),
 (61,[(0,[0]),(1,[2])]),
 (62,[(0,[0]),(1,[2])]),
 (63,[(0,[1]),(1,[1,5]),(2,[2]),(3,[2])]),
 (64,[(0,[1,2,3]),(1,[6])]),
 (65,[(0,[3,4,5,6]),(1,[3,4,5,6,28]),(2,[6]),(3,[3,4,5,6,7]),(4,[3,4,5,6,7,31,32,33]),(5,[3,4,5,6,7,31,32,33,34]),(6,[3,4,5,6,7,9,31,32,33]),(7,[3,4,5,6,7,9,31,32,33,57]),(8,[6]),(9,[3,4,5,6,7,9,10,31,32,33]),(10,[3,4,5,6,7,9,31,32,33,82]),(11,[6]),(12,[3,4,5,6,7,31,32,33]),(13,[3,4,5,6,7,31,32,33]),(14,[3,4,5,6,7,88,89,90]),(15,[3,4,5,6,7,88,89,90,91]),(16,[3,4,5,6,7,12,88,89,90]),(17,[3,4,5,6,7,88,89,90,107]),(18,[6]),(19,[3,4,5,6,7,88,89,90]),(20,[3,5,6,7,110]),(21,[3,5,6,7,13]),(22,[6,136]),(23,[6]),(24,[6])]),
 (66,[(0,[1]),(1,[1,3,4]),(2,[1,3,4,7]),(3,[2]),(4,[1,3,4,7,8]),(5,[1,3,4,7,8]),(6,[1,3,7,11]),(7,[1,3,4]),(8,[1,3,7,13]),(9,[1,3,4]),(10,[1,3,7,15]),(11,[1,5]),(12,[2]),(13,[1,3,7,33]),(14,[1,3,4]),(15,[1,3,35]),(16,[1,3,4]),(17,[2])]),
 (67,[(0,[0,1]),(1,[0,1,7,8]),(2,[0,1,7,8,9]),(3,[0,1,5,7,8]),(4,[0,1,5,7,8,16]),(5,[4]),(6,[0,1,7,8]),(7,[4])]),
 (68,[(0,[1,2,6,7,8]),(1,[1,2,6,7,8,9]),(2,[1,2,5,6,7,8]),(3,[1,2,5,6,7,8,16]),(4,[1,2,6,7,8]),(5,[1,2,6,7,8])]),
 (69,[(0,[0,1,5,6]),(1,[0,1,5,6,7]),(2,[0,1,3,5,6]),(3,[0,1,5,6]),(4,[0,1,5,6])]),
 (70,[(0,[0]),(1,[3]),(2,[3,4]),(3,[3,4]),(4,[3,4]),(5,[3,4]),(6,[3,4]),(7,[3,4]),(8,[3,4]),(9,[3,4]),(10,[2]),(11,[3,13]),(12,[3,13]),(13,[3,13]),(14,[3,13]),(15,[2]),(16,[18]),(17,[2]),(18,[2])]),
 (71,[(0,[1]),(1,[2])]),
 (72,[(0,[0,1]),(1,[4])]),
 (73,[(0,[1,2]),(1,[3])]),
 (74,[(0,[0,1]),(1,[4])]),
 (75,[(0,[1,2,3]),(1,[4])]),
 (76,[(0,[2,3,4]),(1,[2,3,4,7]),(2,[6]),(3,[2,3,4,13]),(4,[6]),(5,[3,4,29]),(6,[6]),(7,[6])]),
 (77,[(0,[0,1]),(1,[0,1,10]),(2,[0,1]),(3,[0,5,6]),(4,[0,6,26]),(5,[0,6]),(6,[0,7]),(7,[7,8]),(8,[7,8,37]),(9,[7,8]),(10,[4])]),
 (78,[(0,[1]),(1,[1,3]),(2,[1,3,17]),(3,[1,3]),(4,[2])]),
 (79,[(0,[1]),(1,[1,3]),(2,[1,3]),(3,[1,3]),(4,[1,3]),(5,[1,3,4]),(6,[1,3,4,5]),(7,[1,3,4,5,21]),(8,[1,3,4,5,23]),(9,[1,3,4,5]),(10,[1,3,4,5,28]),(11,[1,3,4,5]),(12,[1,3,4,33]),(13,[1,3,4]),(14,[1,3,4]),(15,[1,3,4,41]),(16,[1,3,4,41,42]),(17,[1,3]),(18,[1,3,4]),(19,[1,3,4,41,55]),(20,[1,3]),(21,[1,3,4]),(22,[1,3,4,41,63]),(23,[1,3]),(24,[1,3,4]),(25,[1,3,4,41,71]),(26,[1,3]),(27,[1,3,4]),(28,[1,3,4,41,79]),(29,[1,3,4,41,79]),(30,[1,3]),(31,[1,3,4]),(32,[1,3,4,41,88]),(33,[1,3]),(34,[1,3,4]),(35,[1,3,4,41,96]),(36,[1,3]),(37,[1,3,4]),(38,[1,3,4,41,104]),(39,[1,3,4,41,104]),(40,[1,3,4,41,104]),(41,[1,3]),(42,[1,3]),(43,[1,3,6]),(44,[1,3,4]),(45,[1,3,4,41,123]),(46,[1,3]),(47,[1,3,4]),(48,[1,3,4,41,144]),(49,[1,3]),(50,[1,3,4]),(51,[1,3,4,152]),(52,[1,3]),(53,[1,3,4]),(54,[2])]),
 (80,[(0,[1,2,3]),(1,[6])]),
 (81,[(0,[0]),(1,[3]),(2,[3,4]),(3,[3,4]),(4,[3,4]),(5,[3,4]),(6,[3,4]),(7,[3,4]),(8,[3,4]),(9,[3,4]),(10,[3,4]),(11,[3,4]),(12,[4]),(13,[2]),(14,[2])]),
 (82,[(0,[0]),(1,[3]),(2,[3,4]),(3,[3,4]),(4,[2]),(5,[3,7]),(6,[3,7]),(7,[3,7]),(8,[3,7]),(9,[3,7]),(10,[3,7]),(11,[3,7]),(12,[7]),(13,[2]),(14,[2])]),
 (83,[(0,[2,3,4]),(1,[2,3,4,27]),(2,[6]),(3,[2,3,4,7]),(4,[2,3,4,7,8]),(5,[2,3,4,7,8,32]),(6,[2,3,4,7,8]),(7,[2,3,4,7,8,9]),(8,[2,3,4,7,8,9,53]),(9,[6]),(10,[2,3,4,7,8]),(11,[2,3,4,7,10]),(12,[2,3,4,7,10,62]),(13,[2,3,4,7,10]),(14,[2,3,4,7,10,11]),(15,[2,3,4,7,10,11,93]),(16,[6]),(17,[2,3,4,7,10,11,125]),(18,[6]),(19,[2,3,4,7,10]),(20,[2,3,4,7,12]),(21,[2,3,4,7,12,133]),(22,[2,3,4,7,12]),(23,[2,3,4,7,12,140]),(24,[2,3,4,7,12,169]),(25,[6]),(26,[6])]),
 (84,[(0,[0]),(1,[4]),(2,[4,5]),(3,[2,3]),(4,[4,7]),(5,[2,3]),(6,[4,9]),(7,[2,3]),(8,[4,11]),(9,[2,3]),(10,[4,13]),(11,[4,13]),(12,[2,3]),(13,[4,16]),(14,[2,3]),(15,[4,18]),(16,[2,3]),(17,[4,20]),(18,[4,20]),(19,[20]),(20,[2,3]),(21,[2,3])]),
 (85,[(0,[0]),(1,[0,5,6,7]),(2,[0,5,6,7,8]),(3,[0,3,4,5,6,7]),(4,[0,5,6,7,20]),(5,[2]),(6,[0,5,6,7]),(7,[2])]),
 (86,[(0,[0,1]),(1,[0,1,10]),(2,[4]),(3,[0,1,12,13]),(4,[0,1,12,13,14]),(5,[0,1,5,12,13]),(6,[0,1,12,13,24]),(7,[4]),(8,[0,1,12,13]),(9,[4])]),
 (87,[(0,[0,1]),(1,[4])]),
 (88,[(0,[0]),(1,[2])]),
 (89,[(0,[0,1,12,13,14]),(1,[0,1,12,13,14,15]),(2,[0,1,4,12,13,14]),(3,[0,1,12,13,14,19,20,21]),(4,[0,1,12,13,14,19,20,21,22]),(5,[0,1,6,12,13,14,19,20,21]),(6,[0,1,12,13,14,19,20,21,28]),(7,[0,1,12,13,14,19,20,21]),(8,[0,1,12,13,14]),(9,[0,32,33,34]),(10,[0,32,33,34,35]),(11,[0,8,32,33,34]),(12,[0,32,33,34,39,40,41]),(13,[0,32,33,34,39,40,41,42]),(14,[0,10,32,33,34,39,40,41]),(15,[0,32,33,34,39,40,41,48]),(16,[0,32,33,34,39,40,41]),(17,[0,32,33,34])]),
 (90,[(0,[0,1]),(1,[0,1,7,8]),(2,[0,1,7,8,9]),(3,[0,1,5,7,8]),(4,[0,1,5,7,8,16]),(5,[4]),(6,[0,1,7,8]),(7,[4])]),
 (91,[(0,[0,1]),(1,[6,7]),(2,[4,5]),(3,[8,9]),(4,[4,5])]),
 (92,[(0,[0,1,2]),(1,[6])]),
 (93,[(0,[0]),(1,[0,3]),(2,[0,3,7]),(3,[0,3]),(4,[0,3,24]),(5,[2]),(6,[2])]),
 (94,[(0,[1]),(1,[1,3]),(2,[2])]),
 (95,[(0,[2,3]),(1,[4])]),
 (96,[(0,[1,2]),(1,[1,2,5]),(2,[1,2,5,10]),(3,[1,2,5]),(4,[1,2,5,20]),(5,[4]),(6,[4])]),
 (97,[(0,[0,1]),(1,[0,1,10]),(2,[4]),(3,[0,1,5]),(4,[0,1,5,14]),(5,[0,1,5]),(6,[0,1,5,25]),(7,[4]),(8,[4])]),
 (98,[(0,[0,1]),(1,[0,1,7,8]),(2,[0,1,7,8,9]),(3,[0,1,5,7,8]),(4,[0,1,5,7,8,16]),(5,[4]),(6,[0,1,7,8]),(7,[4])]),
 (99,[(0,[0,1]),(1,[4])]),
 (100,[(0,[0,1]),(1,[6]),(2,[4,5])]),
 (101,[(0,[0,1]),(1,[0,1,6]),(2,[0,1,6,7]),(3,[0,1,6,7,8]),(4,[0,1,6,7,8,9]),(5,[0,1,6,7,8,9,10]),(6,[0,1,6,7,9,11]),(7,[0,1,6,7,9,11,12]),(8,[0,1,6,7,9,12,13]),(9,[0,1,7,9,12,13]),(10,[0,1,4]),(11,[4,5])]),
 (102,[(0,[0,1]),(1,[0,1,5]),(2,[0,1,5,9]),(3,[0,1,5]),(4,[0,1,5,17]),(5,[4]),(6,[4])]),
 (103,[(0,[1]),(1,[1,6]),(2,[1,3]),(3,[2]),(4,[1,18]),(5,[2]),(6,[1,20]),(7,[1,20,21]),(8,[1,20,21]),(9,[2]),(10,[1,20,27]),(11,[2]),(12,[1,20,37]),(13,[2]),(14,[1,20,47]),(15,[2]),(16,[1,57]),(17,[2]),(18,[2])]),
 (104,[(0,[0,1]),(1,[0,1,10]),(2,[4]),(3,[0,1,5]),(4,[0,1,5,14]),(5,[0,1,5]),(6,[0,1,5,25]),(7,[4]),(8,[4])]),
 (105,[(0,[0,1,2]),(1,[1,2,10]),(2,[1,2,10,11,12]),(3,[1,2,7,8,10]),(4,[1,2,7,10,19]),(5,[6]),(6,[6])]),
 (106,[(0,[0]),(1,[0,3]),(2,[0,3,7]),(3,[0,3]),(4,[0,3,19]),(5,[2]),(6,[2])]),
 (123,[(0,[]),(1,[4])]),
 (124,[(0,[2,3]),(1,[4])]),
 (125,[(0,[1,2]),(1,[3])]),
 (126,[(0,[2]),(1,[4])]),
 (127,[(0,[1]),(1,[2])])
]
noncomputable def YP:List (Nat×Func):=[(3,Tryd.f3),(4,Tryd.f4),(5,Tryd.f5),(6,Tryd.f6),(7,Tryd.f7),(8,Tryd.f8),(9,Tryd.f9),(10,Tryd.f10),(11,Tryd.f11),(12,Tryd.f12),(13,Tryd.f13),(14,Tryd.f14),(15,Tryd.f15),(16,Tryd.f16),(17,Tryd.f17),(18,Tryd.f18),(19,Tryd.f19),(20,Tryd.f20),(21,Tryd.f21),(22,Tryd.f22),(23,Tryd.f23),(24,Tryd.f24),(25,Tryd.f25),(26,Tryd.f26),(27,Tryd.f27),(28,Tryd.f28),(29,Tryd.f29),(30,Tryd.f30),(31,Tryd.f31),(32,Tryd.f32),(33,Tryd.f33),(34,Tryd.f34),(35,Tryd.f35),(36,Tryd.f36),(37,Tryd.f37),(38,Tryd.f38),(39,Tryd.f39),(40,Tryd.f40),(41,Tryd.f41),(42,Tryd.f42),(43,Tryd.f43),(44,Tryd.f44),(45,Tryd.f45),(46,Tryd.f46),(47,Tryd.f47),(48,Tryd.f48),(49,Tryd.f49),(50,Tryd.f50),(51,Tryd.f51),(52,Tryd.f52),(53,Tryd.f53),(54,Tryd.f54),(55,Tryd.f55),(56,Tryd.f56),(57,Tryd.f57),(58,Tryd.f58),(59,Tryd.f59),(60,Tryd.f60),(61,Tryd.f61),(62,Tryd.f62),(63,Tryd.f63),(64,Tryd.f64),(65,Tryd.f65),(66,Tryd.f66),(67,Tryd.f67),(68,Tryd.f68),(69,Tryd.f69),(70,Tryd.f70),(71,Tryd.f71),(72,Tryd.f72),(73,Tryd.f73),(74,Tryd.f74),(75,Tryd.f75),(76,Tryd.f76),(77,Tryd.f77),(78,Tryd.f78),(79,Tryd.f79),(80,Tryd.f80),(81,Tryd.f81),(82,Tryd.f82),(83,Tryd.f83),(84,Tryd.f84),(85,Tryd.f85),(86,Tryd.f86),(87,Tryd.f87),(88,Tryd.f88),(89,Tryd.f89),(90,Tryd.f90),(91,Tryd.f91),(92,Tryd.f92),(93,Tryd.f93),(94,Tryd.f94),(95,Tryd.f95),(96,Tryd.f96),(97,Tryd.f97),(98,Tryd.f98),(99,Tryd.f99),(100,Tryd.f100),(101,Tryd.f101),(102,Tryd.f102),(103,Tryd.f103),(104,Tryd.f104),(105,Tryd.f105),(106,Tryd.f106),(123,Tryd.f123),(124,Tryd.f124),(125,Tryd.f125),(126,Tryd.f126),(127,Tryd.f127)]
noncomputable def Wl (f:FuncId):Option Func:=findF f YP
noncomputable def QL (f:FuncId) (r:Nat):Option (List Tmp):=match findF f VH with
 | some l=>findF r l
 | none=>none
def VB:List (Nat×Nat):=[(19,4),(20,1),(21,1),(22,1),(23,4),(34,1),(42,1),(64,1),(65,1),(71,1),(89,1),(36,5),(37,5),(24,1),(30,1),(52,1),(55,1),(68,1),(69,1),(31,1),(43,2),(44,2),(47,2),(48,2)]
def U5:List Nat:=[45]
noncomputable def hints:Hint:=⟨QL,fun f=>match findF f VB with
 | some m=>m
 | none=>0,fun t=>mj t U5⟩
theorem S0:∀ x∈YU,cr Tryd.prog x.1 x.2:=
 List.forall_mem_cons.2 ⟨⟨by kernel_rfl,by kernel_rfl,by kernel_rfl⟩,
 List.forall_mem_cons.2 ⟨⟨by kernel_rfl,by kernel_rfl,by kernel_rfl⟩,
 List.forall_mem_cons.2 ⟨⟨by kernel_rfl,by kernel_rfl,by kernel_rfl⟩,
 List.forall_mem_cons.2 ⟨⟨by kernel_rfl,by kernel_rfl,by kernel_rfl⟩,
 List.forall_mem_cons.2 ⟨⟨by kernel_rfl,by kernel_rfl,by kernel_rfl⟩,
 List.forall_mem_cons.2 ⟨⟨by kernel_rfl,by kernel_rfl,by kernel_rfl⟩,
 List.forall_mem_cons.2 ⟨⟨by kernel_rfl,by kernel_rfl,by kernel_rfl⟩,
 List.forall_mem_cons.2 ⟨⟨by kernel_rfl,by kernel_rfl,by kernel_rfl⟩,
 List.forall_mem_cons.2 ⟨⟨by kernel_rfl,by kernel_rfl,by kernel_rfl⟩,
 List.forall_mem_cons.2 ⟨⟨by kernel_rfl,by kernel_rfl,by kernel_rfl⟩,
 List.forall_mem_cons.2 ⟨⟨by kernel_rfl,by kernel_rfl,by kernel_rfl⟩,
 List.forall_mem_cons.2 ⟨⟨by kernel_rfl,by kernel_rfl,by kernel_rfl⟩,
 List.forall_mem_cons.2 ⟨⟨by kernel_rfl,by kernel_rfl,by kernel_rfl⟩,
 List.forall_mem_cons.2 ⟨⟨by kernel_rfl,by kernel_rfl,by kernel_rfl⟩,
 List.forall_mem_cons.2 ⟨⟨by kernel_rfl,by kernel_rfl,by kernel_rfl⟩,
 List.forall_mem_cons.2 ⟨⟨by kernel_rfl,by kernel_rfl,by kernel_rfl⟩,
 List.forall_mem_cons.2 ⟨⟨by kernel_rfl,by kernel_rfl,by kernel_rfl⟩,
 List.forall_mem_cons.2 ⟨⟨by kernel_rfl,by kernel_rfl,by kernel_rfl⟩,
 List.forall_mem_cons.2 ⟨⟨by kernel_rfl,by kernel_rfl,by kernel_rfl⟩,
 List.forall_mem_cons.2 ⟨⟨by kernel_rfl,by kernel_rfl,by kernel_rfl⟩,
 List.forall_mem_cons.2 ⟨⟨by kernel_rfl,by kernel_rfl,by kernel_rfl⟩,
 List.forall_mem_cons.2 ⟨⟨by kernel_rfl,by kernel_rfl,by kernel_rfl⟩,
 List.forall_mem_cons.2 ⟨⟨by kernel_rfl,by kernel_rfl,by kernel_rfl⟩,
 List.forall_mem_cons.2 ⟨⟨by kernel_rfl,by kernel_rfl,by kernel_rfl⟩,
 List.forall_mem_cons.2 ⟨⟨by kernel_rfl,by kernel_rfl,by kernel_rfl⟩,
 List.forall_mem_cons.2 ⟨⟨by kernel_rfl,by kernel_rfl,by kernel_rfl⟩,
 List.forall_mem_cons.2 ⟨⟨by kernel_rfl,by kernel_rfl,by kernel_rfl⟩,
 List.forall_mem_cons.2 ⟨⟨by kernel_rfl,by kernel_rfl,by kernel_rfl⟩,
 List.forall_mem_cons.2 ⟨⟨by kernel_rfl,by kernel_rfl,by kernel_rfl⟩,
 List.forall_mem_cons.2 ⟨⟨by kernel_rfl,by kernel_rfl,by kernel_rfl⟩,
 List.forall_mem_cons.2 ⟨⟨by kernel_rfl,by kernel_rfl,by kernel_rfl⟩,
 List.forall_mem_cons.2 ⟨⟨by kernel_rfl,by kernel_rfl,by kernel_rfl⟩,
 List.forall_mem_cons.2 ⟨⟨by kernel_rfl,by kernel_rfl,by kernel_rfl⟩,
 List.forall_mem_cons.2 ⟨⟨by kernel_rfl,by kernel_rfl,by kernel_rfl⟩,
 List.forall_mem_cons.2 ⟨⟨by kernel_rfl,by kernel_rfl,by kernel_rfl⟩,
 List.forall_mem_cons.2 ⟨⟨by kernel_rfl,by kernel_rfl,by kernel_rfl⟩,
 List.forall_mem_cons.2 ⟨⟨by kernel_rfl,by kernel_rfl,by kernel_rfl⟩,
 List.forall_mem_cons.2 ⟨⟨by kernel_rfl,by kernel_rfl,by kernel_rfl⟩,
 List.forall_mem_cons.2 ⟨⟨by kernel_rfl,by kernel_rfl,by kernel_rfl⟩,
 List.forall_mem_cons.2 ⟨⟨by kernel_rfl,by kernel_rfl,by kernel_rfl⟩,
 List.forall_mem_cons.2 ⟨⟨by kernel_rfl,by kernel_rfl,by kernel_rfl⟩,
 List.forall_mem_cons.2 ⟨⟨by kernel_rfl,by kernel_rfl,by kernel_rfl⟩,
 List.forall_mem_cons.2 ⟨⟨by kernel_rfl,by kernel_rfl,by kernel_rfl⟩,
 List.forall_mem_cons.2 ⟨⟨by kernel_rfl,by kernel_rfl,by kernel_rfl⟩,
 List.forall_mem_cons.2 ⟨⟨by kernel_rfl,by kernel_rfl,by kernel_rfl⟩,
 List.forall_mem_nil _⟩⟩⟩⟩⟩⟩⟩⟩⟩⟩⟩⟩⟩⟩⟩⟩⟩⟩⟩⟩⟩⟩⟩⟩⟩⟩⟩⟩⟩⟩⟩⟩⟩⟩⟩⟩⟩⟩⟩⟩⟩⟩⟩⟩⟩
theorem rY:dk Tryd.prog mn:=⟨fun t y h=>S0 (t,y) (kQ h),RD⟩
theorem QS:∀ x∈YP,Tryd.prog.funcs[x.1]?=some x.2∧(x.2.name == "runtime.NumGoroutine")=false:=
 List.forall_mem_cons.2 ⟨⟨Tryd.func3,by kernel_rfl⟩,
 List.forall_mem_cons.2 ⟨⟨Tryd.func4,by kernel_rfl⟩,
 List.forall_mem_cons.2 ⟨⟨Tryd.func5,by kernel_rfl⟩,
 List.forall_mem_cons.2 ⟨⟨Tryd.func6,by kernel_rfl⟩,
 List.forall_mem_cons.2 ⟨⟨Tryd.func7,by kernel_rfl⟩,
 List.forall_mem_cons.2 ⟨⟨Tryd.func8,by kernel_rfl⟩,
 List.forall_mem_cons.2 ⟨⟨Tryd.func9,by kernel_rfl⟩,
 List.forall_mem_cons.2 ⟨⟨Tryd.func10,by kernel_rfl⟩,
 List.forall_mem_cons.2 ⟨⟨Tryd.func11,by kernel_rfl⟩,
 List.forall_mem_cons.2 ⟨⟨Tryd.func12,by kernel_rfl⟩,
 List.forall_mem_cons.2 ⟨⟨Tryd.func13,by kernel_rfl⟩,
 List.forall_mem_cons.2 ⟨⟨Tryd.func14,by kernel_rfl⟩,
 List.forall_mem_cons.2 ⟨⟨Tryd.func15,by kernel_rfl⟩,
 List.forall_mem_cons.2 ⟨⟨Tryd.func16,by kernel_rfl⟩,
 List.forall_mem_cons.2 ⟨⟨Tryd.func17,by kernel_rfl⟩,
 List.forall_mem_cons.2 ⟨⟨Tryd.func18,by kernel_rfl⟩,
 List.forall_mem_cons.2 ⟨⟨Tryd.func19,by kernel_rfl⟩,
 List.forall_mem_cons.2 ⟨⟨Tryd.func20,by kernel_rfl⟩,
 List.forall_mem_cons.2 ⟨⟨Tryd.func21,by kernel_rfl⟩,
 List.forall_mem_cons.2 ⟨⟨Tryd.func22,by kernel_rfl⟩,
 List.forall_mem_cons.2 ⟨⟨Tryd.func23,by kernel_rfl⟩,
 List.forall_mem_cons.2 ⟨⟨Tryd.func24,by kernel_rfl⟩,
 List.forall_mem_cons.2 ⟨⟨Tryd.func25,by kernel_rfl⟩,
 List.forall_mem_cons.2 ⟨⟨Tryd.func26,by kernel_rfl⟩,
 List.forall_mem_cons.2 ⟨⟨Tryd.func27,by kernel_rfl⟩,
 List.forall_mem_cons.2 ⟨⟨Tryd.func28,by kernel_rfl⟩,
 List.forall_mem_cons.2 ⟨⟨Tryd.func29,by kernel_rfl⟩,
 List.forall_mem_cons.2 ⟨⟨Tryd.func30,by kernel_rfl⟩,
 List.forall_mem_cons.2 ⟨⟨Tryd.func31,by kernel_rfl⟩,
 List.forall_mem_cons.2 ⟨⟨Tryd.func32,by kernel_rfl⟩,
 List.forall_mem_cons.2 ⟨⟨Tryd.func33,by kernel_rfl⟩,
 List.forall_mem_cons.2 ⟨⟨Tryd.func34,by kernel_rfl⟩,
 List.forall_mem_cons.2 ⟨⟨Tryd.func35,by kernel_rfl⟩,
 List.forall_mem_cons.2 ⟨⟨Tryd.func36,by kernel_rfl⟩,
 List.forall_mem_cons.2 ⟨⟨Tryd.func37,by kernel_rfl⟩,
 List.forall_mem_cons.2 ⟨⟨Tryd.func38,by kernel_rfl⟩,
 List.forall_mem_cons.2 ⟨⟨Tryd.func39,by kernel_rfl⟩,
 List.forall_mem_cons.2 ⟨⟨Tryd.func40,by kernel_rfl⟩,
 List.forall_mem_cons.2 ⟨⟨Tryd.func41,by kernel_rfl⟩,
 List.forall_mem_cons.2 ⟨⟨Tryd.func42,by kernel_rfl⟩,
 List.forall_mem_cons.2 ⟨⟨Tryd.func43,by kernel_rfl⟩,
 List.forall_mem_cons.2 ⟨⟨Tryd.func44,by kernel_rfl⟩,
 List.forall_mem_cons.2 ⟨⟨Tryd.func45,by kernel_rfl⟩,
 List.forall_mem_cons.2 ⟨⟨Tryd.func46,by kernel_rfl⟩,
 List.forall_mem_cons.2 ⟨⟨Tryd.func47,by kernel_rfl⟩,
 List.forall_mem_cons.2 ⟨⟨Tryd.func48,by kernel_rfl⟩,
 List.forall_mem_cons.2 ⟨⟨Tryd.func49,by kernel_rfl⟩,
 List.forall_mem_cons.2 ⟨⟨Tryd.func50,by kernel_rfl⟩,
 List.forall_mem_cons.2 ⟨⟨Tryd.func51,by kernel_rfl⟩,
 List.forall_mem_cons.2 ⟨⟨Tryd.func52,by kernel_rfl⟩,
 List.forall_mem_cons.2 ⟨⟨Tryd.func53,by kernel_rfl⟩,
 List.forall_mem_cons.2 ⟨⟨Tryd.func54,by kernel_rfl⟩,
 List.forall_mem_cons.2 ⟨⟨Tryd.func55,by kernel_rfl⟩,
 List.forall_mem_cons.2 ⟨⟨Tryd.func56,by kernel_rfl⟩,
 List.forall_mem_cons.2 ⟨⟨Tryd.func57,by kernel_rfl⟩,
 List.forall_mem_cons.2 ⟨⟨Tryd.func58,by kernel_rfl⟩,
 List.forall_mem_cons.2 ⟨⟨Tryd.func59,by kernel_rfl⟩,
 List.forall_mem_cons.2 ⟨⟨Tryd.func60,by kernel_rfl⟩,
 List.forall_mem_cons.2 ⟨⟨Tryd.func61,by kernel_rfl⟩,
 List.forall_mem_cons.2 ⟨⟨Tryd.func62,by kernel_rfl⟩,
 List.forall_mem_cons.2 ⟨⟨Tryd.func63,by kernel_rfl⟩,
 List.forall_mem_cons.2 ⟨⟨Tryd.func64,by kernel_rfl⟩,
 List.forall_mem_cons.2 ⟨⟨Tryd.func65,by kernel_rfl⟩,
 List.forall_mem_cons.2 ⟨⟨Tryd.func66,by kernel_rfl⟩,
 List.forall_mem_cons.2 ⟨⟨Tryd.func67,by kernel_rfl⟩,
 List.forall_mem_cons.2 ⟨⟨Tryd.func68,by kernel_rfl⟩,
 List.forall_mem_cons.2 ⟨⟨Tryd.func69,by kernel_rfl⟩,
 List.forall_mem_cons.2 ⟨⟨Tryd.func70,by kernel_rfl⟩,
 List.forall_mem_cons.2 ⟨⟨Tryd.func71,by kernel_rfl⟩,
 List.forall_mem_cons.2 ⟨⟨Tryd.func72,by kernel_rfl⟩,
 List.forall_mem_cons.2 ⟨⟨Tryd.func73,by kernel_rfl⟩,
 List.forall_mem_cons.2 ⟨⟨Tryd.func74,by kernel_rfl⟩,
 List.forall_mem_cons.2 ⟨⟨Tryd.func75,by kernel_rfl⟩,
 List.forall_mem_cons.2 ⟨⟨Tryd.func76,by kernel_rfl⟩,
 List.forall_mem_cons.2 ⟨⟨Tryd.func77,by kernel_rfl⟩,
 List.forall_mem_cons.2 ⟨⟨Tryd.func78,by kernel_rfl⟩,
 List.forall_mem_cons.2 ⟨⟨Tryd.func79,by kernel_rfl⟩,
 List.forall_mem_cons.2 ⟨⟨Tryd.func80,by kernel_rfl⟩,
 List.forall_mem_cons.2 ⟨⟨Tryd.func81,by kernel_rfl⟩,
 List.forall_mem_cons.2 ⟨⟨Tryd.func82,by kernel_rfl⟩,
 List.forall_mem_cons.2 ⟨⟨Tryd.func83,by kernel_rfl⟩,
 List.forall_mem_cons.2 ⟨⟨Tryd.func84,by kernel_rfl⟩,
 List.forall_mem_cons.2 ⟨⟨Tryd.func85,by kernel_rfl⟩,
 List.forall_mem_cons.2 ⟨⟨Tryd.func86,by kernel_rfl⟩,
 List.forall_mem_cons.2 ⟨⟨Tryd.func87,by kernel_rfl⟩,
 List.forall_mem_cons.2 ⟨⟨Tryd.func88,by kernel_rfl⟩,
 List.forall_mem_cons.2 ⟨⟨Tryd.func89,by kernel_rfl⟩,
 List.forall_mem_cons.2 ⟨⟨Tryd.func90,by kernel_rfl⟩,
 List.forall_mem_cons.2 ⟨⟨Tryd.func91,by kernel_rfl⟩,
 List.forall_mem_cons.2 ⟨⟨Tryd.func92,by kernel_rfl⟩,
 List.forall_mem_cons.2 ⟨⟨Tryd.func93,by kernel_rfl⟩,
 List.forall_mem_cons.2 ⟨⟨Tryd.func94,by kernel_rfl⟩,
 List.forall_mem_cons.2 ⟨⟨Tryd.func95,by kernel_rfl⟩,
 List.forall_mem_cons.2 ⟨⟨Tryd.func96,by kernel_rfl⟩,
 List.forall_mem_cons.2 ⟨⟨Tryd.func97,by kernel_rfl⟩,
 List.forall_mem_cons.2 ⟨⟨Tryd.func98,by kernel_rfl⟩,
 List.forall_mem_cons.2 ⟨⟨Tryd.func99,by kernel_rfl⟩,
 List.forall_mem_cons.2 ⟨⟨Tryd.func100,by kernel_rfl⟩,
 List.forall_mem_cons.2 ⟨⟨Tryd.func101,by kernel_rfl⟩,
 List.forall_mem_cons.2 ⟨⟨Tryd.func102,by kernel_rfl⟩,
 List.forall_mem_cons.2 ⟨⟨Tryd.func103,by kernel_rfl⟩,
 List.forall_mem_cons.2 ⟨⟨Tryd.func104,by kernel_rfl⟩,
 List.forall_mem_cons.2 ⟨⟨Tryd.func105,by kernel_rfl⟩,
 List.forall_mem_cons.2 ⟨⟨Tryd.func106,by kernel_rfl⟩,
 List.forall_mem_cons.2 ⟨⟨Tryd.func123,by kernel_rfl⟩,
 List.forall_mem_cons.2 ⟨⟨Tryd.func124,by kernel_rfl⟩,
 List.forall_mem_cons.2 ⟨⟨Tryd.func125,by kernel_rfl⟩,
 List.forall_mem_cons.2 ⟨⟨Tryd.func126,by kernel_rfl⟩,
 List.forall_mem_cons.2 ⟨⟨Tryd.func127,by kernel_rfl⟩,
 List.forall_mem_nil _⟩⟩⟩⟩⟩⟩⟩⟩⟩⟩⟩⟩⟩⟩⟩⟩⟩⟩⟩⟩⟩⟩⟩⟩⟩⟩⟩⟩⟩⟩⟩⟩⟩⟩⟩⟩⟩⟩⟩⟩⟩⟩⟩⟩⟩⟩⟩⟩⟩⟩⟩⟩⟩⟩⟩⟩⟩⟩⟩⟩⟩⟩⟩⟩⟩⟩⟩⟩⟩⟩⟩⟩⟩⟩⟩⟩⟩⟩⟩⟩⟩⟩⟩⟩⟩⟩⟩⟩⟩⟩⟩⟩⟩⟩⟩⟩⟩⟩⟩⟩⟩⟩⟩⟩⟩⟩⟩⟩⟩
theorem xp:E8 Tryd.prog Wl:=fun f fn h=>QS (f,fn) (kQ h)
theorem mixed:Tryd.prog.follows .mixedOrders=true:=by kernel_rfl
end Go.Proofs.YtghfgcfabbbbbaaDoor
namespace Go.V
noncomputable section
structure Sq (α:Type) where
 n:Nat
 get:Nat→α
structure EJ where
 fn:Int
 line:Int
structure qH where
 kind:Int
 n:Int
 s:ByteArray
structure af where
 op:Int
 a:Int
 b:Int
 c:Int
 n:Int
 args:Sq Int
 k:qH
 names:Sq ByteArray
 place:EJ
 exit:Int
 once:Bool
structure dD where
 fn:Int
 line:Int
 vars:Sq Int
structure iY where
 value:Int
 cls:Int
 names:Sq ByteArray
 items:Sq Int
structure ag where
 frames:Sq dD
 aC:Sq iY
 back:Int
structure ai where
 place:EJ
 ins:Sq af
 aa:Sq ag
def iI (n:Int):I:=.v (.int .i64 n)
def iS (s:ByteArray):I:=.v (.string s)
def iB (b:Bool):I:=.v (.bool b)
def TC (l:List I):Nat→I:=List.rec (fun _=>.v (.bool false)) (fun x _ ih k=>Nat.rec x (fun m _=>ih m) k) l
def j7 {α:Type} (sz:Nat) (e:α→Nat→I) (s:Sq α):I:=.sl sz s.n fun i=>e (s.get i)
def cg (n:Int):Nat→I:=fun _=>iI n
def ff (s:ByteArray):Nat→I:=fun _=>iS s
def aT (x:af):List I:=[iI x.op,iI x.a,iI x.b,iI x.c,iI x.n,j7 1 cg x.args,iI x.k.kind,iI x.k.n,iS x.k.s,j7 1 ff x.names,iI x.place.fn,iI x.place.line,iI x.exit,iB x.once]
def bn (x:af):Nat→I:=TC (aT x)
def jb (x:dD):List I:=[iI x.fn,iI x.line,j7 1 cg x.vars]
def cK (x:dD):Nat→I:=TC (jb x)
def lZ (x:iY):List I:=[iI x.value,iI x.cls,j7 1 ff x.names,j7 1 cg x.items]
def e5 (x:iY):Nat→I:=TC (lZ x)
def ba (x:ag):List I:=[j7 3 cK x.frames,j7 4 e5 x.aC,iI x.back]
def bq (x:ag):Nat→I:=TC (ba x)
def bS (t:ai):List I:=[iI t.place.fn,iI t.place.line,j7 14 bn t.ins,j7 3 bq t.aa]
def Nb (v:qH):List I:=[iI v.kind,iI v.n,iS v.s]
def j3 (x:af):D:=.a (lift (aT x))
def Gq (x:ag):D:=.a (lift (ba x))
def dU (t:ai):D:=.a (lift (bS t))
def M1 (v:qH):D:=.a (lift (Nb v))
def eR {α:Type} (sz:Nat) (e:α→Nat→I) (s:Sq α):D:=.c (.im (j7 sz e s))
def Vi (s:ByteArray):D:=.c (.im (iS s))
def cm (op a b c n e:Int):af:=⟨op,a,b,c,n,⟨0,fun _=>0⟩,⟨0,0,⟨⟨[]⟩⟩⟩,⟨0,fun _=>⟨⟨[]⟩⟩⟩,⟨0,0⟩,e,false⟩
def gk (op a b c n e:Int):List C:=lift [iI op,iI a,iI b,iI c,iI n,.v (.slice none 0 0),iI 0,iI 0,iS ⟨⟨[]⟩⟩,.v (.slice none 0 0),iI 0,iI 0,iI e,iB false]
def bR (x:I):Int:=match x with
 | .v (.int .i64 n)=>n
 | _=>0
def Q9 (x:I):ByteArray:=match x with
 | .v (.string s)=>s
 | _=>⟨⟨[]⟩⟩
def Qr (x:I):Bool:=match x with
 | .v (.bool b)=>b
 | _=>false
def EW {α:Type} (r:(Nat→I)→α) (x:I):Sq α:=match x with
 | .sl _ n get=>⟨n,fun i=>r (get i)⟩
 | _=>⟨0,fun _=>r fun _=>.v (.bool false)⟩
def rI (g:Nat→I):Int:=bR (g 0)
def rS (g:Nat→I):ByteArray:=Q9 (g 0)
def ij (g:Nat→I):af:=⟨bR (g 0),bR (g 1),bR (g 2),bR (g 3),bR (g 4),EW rI (g 5),⟨bR (g 6),bR (g 7),Q9 (g 8)⟩,EW rS (g 9),⟨bR (g 10),bR (g 11)⟩,bR (g 12),Qr (g 13)⟩
def R4 (g:Nat→I):dD:=⟨bR (g 0),bR (g 1),EW rI (g 2)⟩
def V9 (g:Nat→I):iY:=⟨bR (g 0),bR (g 1),EW rS (g 2),EW rI (g 3)⟩
def nq (g:Nat→I):ag:=⟨EW R4 (g 0),EW V9 (g 1),bR (g 2)⟩
def Sn (g:Nat→I):ai:=⟨⟨bR (g 0),bR (g 1)⟩,EW ij (g 2),EW nq (g 3)⟩
def XD (g:Nat→I):qH:=⟨bR (g 0),bR (g 1),Q9 (g 2)⟩
def cI (c:C):I:=match c with
 | .im x=>x
 | _=>.v (.bool false)
def nC (l:List C) (k:Nat):I:=match aY l k with
 | some c=>cI c
 | none=>.v (.bool false)
def gD (d:D):Nat→I:=match d with
 | .a l=>nC l
 | .c x=>fun _=>cI x
 | _=>fun _=>.v (.bool false)
def aD (ds:List D) (k:Nat):D:=match aY ds k with
 | some d=>d
 | none=>.t []
def aI (ds:List D) (k:Nat):Int:=rI (gD (aD ds k))
def aS (ds:List D) (k:Nat):ByteArray:=rS (gD (aD ds k))
def sU (ds:List D) (k:Nat):af:=ij (gD (aD ds k))
def FP (ds:List D) (k:Nat):ag:=nq (gD (aD ds k))
def fT (ds:List D) (k:Nat):ai:=Sn (gD (aD ds k))
def OS (ds:List D) (k:Nat):qH:=XD (gD (aD ds k))
def I2 (ds:List D) (k:Nat):Sq Int:=EW rI (gD (aD ds k) 0)
def wh (ds:List D) (k:Nat):Sq ByteArray:=EW rS (gD (aD ds k) 0)
end
section
variable {T:dn} {P:Program} {f:FuncId} {ds Vh:List D} {rs aE:List ae} {d d':D}
theorem az.le {E:Env} {av:Nat→Prop} {w:World}:∀ {ds Vh:List D} {vs:List Value},az bp ds Vh→az (aJ E av w) ds vs→az (aJ E av w) Vh vs
 | _,_,_,.nil,.nil=>.nil
 | _,_,_,.cons q k,.cons q' k'=>.cons (q _ _ _ _ q') (az.le k k')
theorem cl.pre (h:cl T P f Vh rs d aE) (hd:az bp ds Vh):cl T P f ds rs d aE:=
 ⟨h.out.1,fun N aw w0 sp sl df a w E vs hR hv=>h.out.2 N aw w0 sp sl df a w E vs hR (az.le hd hv)⟩
theorem cl.post (h:cl T P f ds rs d aE) (hd:bp d d'):cl T P f ds rs d' aE:=
 ⟨h.out.1,fun N aw w0 sp sl df a w E vs hR hv=>(h.out.2 N aw w0 sp sl df a w E vs hR hv).mono fun e w' ⟨v,E',h1,h2,h3,h4⟩=>⟨v,E',h1,h2,h3,hd _ _ _ _ h4⟩⟩
end
theorem bN:(∀ b:Bool,(true||b)=true)∧(∀ b:Bool,(false||b)=b)∧(∀ b:Bool,(true&&b)=b)∧(∀ b:Bool,(false&&b)=false)∧((!true)=false)∧((!false)=true)∧(∀ b:Bool,(b||true)=true)∧(∀ b:Bool,(b||false)=b)∧(∀ b:Bool,(b&&true)=b)∧(∀ b:Bool,(b&&false)=false)∧(∀ (α:Type) (a b:α),cond true a b=a)∧(∀ (α:Type) (a b:α),cond false a b=b)∧(∀ b:Bool,(!(!b))=b):=by simp
theorem rc {x:ae} {l l':List ae} (h:az cw l l'):az cw (x::l) (x::l'):=.cons (cw.refl _) h
theorem cR {sl l:aG} {t:Tmp} {d:D} (h:eb sl t=some d) (k:QN sl l):QN sl ((t,d,[])::l):=⟨⟨rfl,d,h,bp.refl _⟩,k⟩
theorem aP {m n:Nat} (h:Nat.ble m n=true):m≤n:=Nat.le_of_ble_eq_true h
def ci (n:Int):C:=.im (.v (.int .i64 n))
end Go.V
namespace Go.Proofs.YtghfgcfabbbbbaaDoor
open Go Go.V
abbrev LC:=cl mn Tryd.prog
abbrev WC:=uk mn Tryd.prog
noncomputable section
def wS (f:FuncId):Func:=match Wl f with
 | some fn=>fn
 | none=>default
def nV (f:FuncId):Code:=match (wS f).body with
 | some c=>c
 | none=>.skip
def oJ (id:Nat) (c:Code):List Item→Option (List Item):=match c with
 | .region i ops d=>fun k=>Bool.rec none (some (.code (.region i ops d)::k)) (Nat.beq i id)
 | .seq a b=>fun k=>match oJ id a (.code b::k) with
   | some l=>some l
   | none=>oJ id b k
 | .cond x a b=>fun k=>match oJ id a k with
   | some l=>some l
   | none=>oJ id b k
 | .block i a=>fun k=>oJ id a (.inBlock i::k)
 | .loop a=>fun k=>oJ id a (.inLoop a::k)
 | _=>fun _=>none
def aj (f:FuncId) (id:Nat):List Item:=match oJ id (nV f) [] with
 | some l=>l
 | none=>[]
abbrev LP:=List Item→VS→Prop
def gL (X:iZ) (f:FuncId) (stop:Nat→Bool) (L:LP) (Q:D→List ae→Prop) (ds:List D) (rs:List ae):Prop:=
 sI mn Tryd.prog X hints (wS f).ntmps f none stop L (qu mn (wS f).results.toList Q) 10000 false [.code (nV f)] ⟨cH 0 ds,rs,[]⟩
def dh (X:iZ) (f:FuncId) (stop:Nat→Bool) (L:LP) (Q:D→List ae→Prop) (id:Nat) (s:VS):Prop:=
 sI mn Tryd.prog X hints (wS f).ntmps f none stop L (qu mn (wS f).results.toList Q) 10000 true (aj f id) s
def X0:iZ:={ F:=fun _ _ _=>(.t [],[],[]) }
def cM:Nat→Bool:=fun _=>false
end
open Go Go.V
def ah (f:FuncId) (n0:Nat) (Q:D→List ae→Prop) (todo:List Item) (s:VS):Prop:=
 ∀ (b:Frame) (cs:List Frame),b.fn=f→Goal Tryd.prog mn (wS f).ntmps b cs none n0 (qu mn (wS f).results.toList Q) todo s
theorem reach {X:iZ} {f:FuncId} {stop:Nat→Bool} {n0:Nat} {Q:D→List ae→Prop} {todo:List Item} {s:VS} {go:Bool} {n:Nat}
  (h:sI mn Tryd.prog X hints (wS f).ntmps f none stop (ah f n0 Q) (qu mn (wS f).results.toList Q) n go todo s):ah f n0 Q todo s:=
 fun b cs hb=>zN rY mixed hb (fun _ _ q=>q b cs hb) (fun _ _ q=>q) n h
structure Fn (f:FuncId):Prop where
 mn:Wl f=some (wS f)
 body:(wS f).body=some (nV f)
theorem K0 {f:FuncId} (hf:Fn f) {ds:List D} {d:D} (hl:ds.length≤(wS f).ntmps) (h:ah f 0 (cf d) [.code (nV f)] ⟨cH 0 ds,[],[]⟩):LC f ds [] d []:=by
 obtain ⟨h1,h2⟩:=xp f _ hf.mn
 exact Kx rY h1 h2 hf.body hl h
theorem ig {f:FuncId} (hf:Fn f) {ds:List D} {rs:List ae} {d:D} {aE:List ae} (hl:ds.length≤(wS f).ntmps) (h:ah f rs.length (Go.V.Ends rs d aE) [.code (nV f)] ⟨cH 0 ds,rs,[]⟩):LC f ds rs d aE:=by
 obtain ⟨h1,h2⟩:=xp f _ hf.mn
 exact Ns rY h1 h2 hf.body hl h
noncomputable def bF (QD:D→Prop) (d1:D) (fx:List ae):Prop:=cn (aQ fx d1) QD
theorem bw {X:iZ} {f:FuncId} {stop:Nat→Bool} (hf:Fn f) {ds:List D} {d:D} (hl:ds.length≤(wS f).ntmps) (h:gL X f stop (ah f 0 (cf d)) (cf d) ds []):LC f ds [] d []:=
 K0 hf hl (reach h)
theorem kR {k:Nat} (h:k<9223372036854775808):IntKind.i64.wrap (k:Int)=k:=by
 have e1:(2 ^ IntKind.i64.bits:Int)=18446744073709551616:=by rfl
 have e2:(2 ^ (IntKind.i64.bits-1):Int)=9223372036854775808:=by rfl
 have e3:(k:Int)%18446744073709551616=k:=Int.emod_eq_of_lt (by omega) (by omega)
 unfold IntKind.wrap
 simp only [e1,e2,e3]
 rw [if_neg]
 simp only [cG,decide_eq_true_eq,not_and]
 omega
theorem fR {k:Int} (h0:0≤k) (h:k<9223372036854775808):IntKind.i64.wrap k=k:=by
 obtain ⟨n,rfl⟩:=Int.eq_ofNat_of_zero_le h0
 exact kR (by omega)
end Go.Proofs.YtghfgcfabbbbbaaDoor
set_option linter.unusedSimpArgs false
namespace Go.Proofs.YtghfgcfabbbbbaaDoor
open Go Go.V
noncomputable def Qa:iZ:={ F:=X0.F }
noncomputable def fG (op:Int):Int:=
 bif op==3 then
  1
 else
  bif op==5 then
   1
  else
   bif op==6 then
    1
   else
    bif op==7 then
     1
    else
     bif op==8 then
      1
     else
      bif op==10 then
       1
      else
       bif op==14 then
        1
       else
        bif op==19 then
         1
        else
         bif op==4 then
          2
         else
          bif op==9 then
           2
          else
           bif op==12 then
            2
           else
            bif op==11 then
             2
            else
             bif op==13 then
              3
             else
              0
theorem Xn (L:LP) (QD:D→Prop) (op:Int) (h:br (op==3) (QD (int 1)) (br (op==5) (QD (int 1)) (br (op==6) (QD (int 1)) (br (op==7) (QD (int 1)) (br (op==8) (QD (int 1)) (br (op==10) (QD (int 1)) (br (op==14) (QD (int 1)) (br (op==19) (QD (int 1)) (br (op==4) (QD (int 2)) (br (op==9) (QD (int 2)) (br (op==12) (QD (int 2)) (br (op==11) (QD (int 2)) (br (op==13) (QD (int 3)) (QD (int 0))))))))))))))):gL Qa 70 cM L (bF QD) [int op] []:=Eq.mp (by kernel_rfl) h
theorem XG:Fn 70:=⟨by kernel_rfl,by kernel_rfl⟩
theorem P3 (op:Int)  : LC 70 [int op] [] (int (fG op)) []:=by
 refine bw (X:=Qa) (stop:=cM) XG (aP (by kernel_rfl)) (Xn _ _ op ?_)
 refine ay (fun h=>?_) (fun h=>?_)
 ·simp only [fG, *,cond_true,cond_false]; exact bp.refl _
 ·refine ay (fun h=>?_) (fun h=>?_)
  ·simp only [fG, *,cond_true,cond_false]; exact bp.refl _
  ·refine ay (fun h=>?_) (fun h=>?_)
   ·simp only [fG, *,cond_true,cond_false]; exact bp.refl _
   ·refine ay (fun h=>?_) (fun h=>?_)
    ·simp only [fG, *,cond_true,cond_false]; exact bp.refl _
    ·refine ay (fun h=>?_) (fun h=>?_)
     ·simp only [fG, *,cond_true,cond_false]; exact bp.refl _
     ·refine ay (fun h=>?_) (fun h=>?_)
      ·simp only [fG, *,cond_true,cond_false]; exact bp.refl _
      ·refine ay (fun h=>?_) (fun h=>?_)
       ·simp only [fG, *,cond_true,cond_false]; exact bp.refl _
       ·refine ay (fun h=>?_) (fun h=>?_)
        ·simp only [fG, *,cond_true,cond_false]; exact bp.refl _
        ·refine ay (fun h=>?_) (fun h=>?_)
         ·simp only [fG, *,cond_true,cond_false]; exact bp.refl _
         ·refine ay (fun h=>?_) (fun h=>?_)
          ·simp only [fG, *,cond_true,cond_false]; exact bp.refl _
          ·refine ay (fun h=>?_) (fun h=>?_)
           ·simp only [fG, *,cond_true,cond_false]; exact bp.refl _
           ·refine ay (fun h=>?_) (fun h=>?_)
            ·simp only [fG, *,cond_true,cond_false]; exact bp.refl _
            ·refine ay (fun h=>?_) (fun h=>?_)
             ·simp only [fG, *,cond_true,cond_false]; exact bp.refl _
             ·simp only [fG, *,cond_true,cond_false]; exact bp.refl _
noncomputable def oy (op:Int):Bool:=
 bif op==1 then
  true
 else
  bif op==2 then
   true
  else
   bif op==3 then
    true
   else
    bif op==4 then
     true
    else
     bif op==10 then
      true
     else
      bif op==12 then
       true
      else
       bif op==14 then
        true
       else
        bif op==16 then
         true
        else
         bif op==17 then
          true
         else
          false
theorem XX (L:LP) (QD:D→Prop) (op:Int) (h:br (op==1) (QD (bool true)) (br (op==2) (QD (bool true)) (br (op==3) (QD (bool true)) (br (op==4) (QD (bool true)) (br (op==10) (QD (bool true)) (br (op==12) (QD (bool true)) (br (op==14) (QD (bool true)) (br (op==16) (QD (bool true)) (br (op==17) (QD (bool true)) (QD (bool false))))))))))):gL Qa 35 cM L (bF QD) [int op] []:=Eq.mp (by kernel_rfl) h
theorem WJ:Fn 35:=⟨by kernel_rfl,by kernel_rfl⟩
theorem Ux (op:Int)  : LC 35 [int op] [] (bool (oy op)) []:=by
 refine bw (X:=Qa) (stop:=cM) WJ (aP (by kernel_rfl)) (XX _ _ op ?_)
 refine ay (fun h=>?_) (fun h=>?_)
 ·simp only [oy, *,cond_true,cond_false]; exact bp.refl _
 ·refine ay (fun h=>?_) (fun h=>?_)
  ·simp only [oy, *,cond_true,cond_false]; exact bp.refl _
  ·refine ay (fun h=>?_) (fun h=>?_)
   ·simp only [oy, *,cond_true,cond_false]; exact bp.refl _
   ·refine ay (fun h=>?_) (fun h=>?_)
    ·simp only [oy, *,cond_true,cond_false]; exact bp.refl _
    ·refine ay (fun h=>?_) (fun h=>?_)
     ·simp only [oy, *,cond_true,cond_false]; exact bp.refl _
     ·refine ay (fun h=>?_) (fun h=>?_)
      ·simp only [oy, *,cond_true,cond_false]; exact bp.refl _
      ·refine ay (fun h=>?_) (fun h=>?_)
       ·simp only [oy, *,cond_true,cond_false]; exact bp.refl _
       ·refine ay (fun h=>?_) (fun h=>?_)
        ·simp only [oy, *,cond_true,cond_false]; exact bp.refl _
        ·refine ay (fun h=>?_) (fun h=>?_)
         ·simp only [oy, *,cond_true,cond_false]; exact bp.refl _
         ·simp only [oy, *,cond_true,cond_false]; exact bp.refl _
noncomputable def eX (op:Int):Int:=
 bif op==3 then
  1
 else
  bif op==4 then
   1
  else
   bif op==5 then
    2
   else
    bif op==6 then
     2
    else
     bif op==7 then
      2
     else
      bif op==8 then
       2
      else
       bif op==9 then
        2
       else
        bif op==15 then
         2
        else
         bif op==18 then
          2
         else
          bif op==21 then
           2
          else
           0
noncomputable def Wx (op:Int):Bool:=
 bif op==2 then
  true
 else
  bif op==3 then
   true
  else
   bif op==4 then
    true
   else
    bif op==5 then
     true
    else
     bif op==6 then
      true
     else
      bif op==7 then
       true
      else
       bif op==8 then
        true
       else
        bif op==9 then
         true
        else
         bif op==10 then
          true
         else
          bif op==12 then
           true
          else
           bif op==14 then
            true
           else
            false
noncomputable def fK (n low high:Int):Bool:=
 bif decide (n≥low) then
  (decide (n≤high))
 else
  false
noncomputable def Nx (a m:Int):Int:=
 bif decide (a.tmod m<0) then
  (IntKind.i64.wrap (a.tmod m+m))
 else
  (a.tmod m)
theorem WW (L:LP) (QD:D→Prop) (a m:Int) (h:nd (!m==0) (br (decide (a.tmod m<0)) (QD (int (IntKind.i64.wrap (a.tmod m+m)))) (QD (int (a.tmod m))))):gL Qa 25 cM L (bF QD) [int a,int m] []:=Eq.mp (by kernel_rfl) h
theorem Yh:Fn 25:=⟨by kernel_rfl,by kernel_rfl⟩
theorem Vo (a m:Int) (hm:m≠0):LC 25 [int a,int m] [] (int (Nx a m)) []:=by
 refine bw (X:=Qa) (stop:=cM) Yh (aP (by kernel_rfl)) (WW _ _ a m ?_)
 refine aA (by simp [hm]) ?_
 refine ay (fun h=>?_) (fun h=>?_)
 ·simp only [Nx, *,cond_true,cond_false]; exact bp.refl _
 ·simp only [Nx, *,cond_true,cond_false]; exact bp.refl _
noncomputable def CZ (x:af):Bool:=
 (x.1 != 1)
theorem WL (L:LP) (QD:D→Prop) (x:af) (h:QD (bool (x.1 != 1))):gL Qa 59 cM L (bF QD) [j3 x] []:=Eq.mp (by kernel_rfl) h
theorem W2:Fn 59:=⟨by kernel_rfl,by kernel_rfl⟩
theorem U1 (x:af)  : LC 59 [j3 x] [] (bool (CZ x)) []:=by
 refine bw (X:=Qa) (stop:=cM) W2 (aP (by kernel_rfl)) (WL _ _ x ?_)
 simp only [CZ, *,cond_true,cond_false]; exact bp.refl _
noncomputable def Za:List (Nat×(List D→List ae→Out)):=[
 (70,fun ds rs=>(int (fG (aI ds 0)),[],[])),
 (35,fun ds rs=>(bool (oy (aI ds 0)),[],[])),
 (82,fun ds rs=>(int (eX (aI ds 0)),[],[])),
 (81,fun ds rs=>(bool (Wx (aI ds 0)),[],[])),
 (92,fun ds rs=>(bool (fK (aI ds 0) (aI ds 1) (aI ds 2)),[],[])),
 (25,fun ds rs=>(int (Nx (aI ds 0) (aI ds 1)),[],[])),
 (59,fun ds rs=>(bool (CZ (sU ds 0)),[],[]))]
noncomputable def F1:FuncId→List D→List ae→Out:=fun f ds rs=>match findF f Za with
 | some g=>g ds rs
 | none=>X0.F f ds rs
open Go Go.V
theorem aH {X:iZ} {f:FuncId} {stop:Nat→Bool} {n0:Nat} {Q:D→List ae→Prop} {id:Nat} {s:VS} (h:dh X f stop (ah f n0 Q) Q id s):ah f n0 Q (aj f id) s:=reach h
theorem fp {X:iZ} {f:FuncId} {stop:Nat→Bool} {n0:Nat} {Q:D→List ae→Prop} {ds:List D} {rs:List ae} (h:gL X f stop (ah f n0 Q) Q ds rs):ah f n0 Q [.code (nV f)] ⟨cH 0 ds,rs,[]⟩:=reach h
theorem bD {X:iZ} {f:FuncId} {stop:Nat→Bool} {n0:Nat} {d:D} {id:Nat} {s:VS} (h:dh X f stop (ah f n0 (cf d)) (bF fun d2=>bp d2 d) id s):ah f n0 (cf d) (aj f id) s:=reach h
theorem Fn.enters {f:FuncId} (hf:Fn f):V.Enters Tryd.prog f:=by
 obtain ⟨h1,h2⟩:=xp f _ hf.mn
 exact ⟨_,h1,h2,by simp [hf.body]⟩
theorem cl.with {f:FuncId} (hf:Fn f) {ds:List D} {rs aE:List ae} {d:D} {p:Prop} (hp:∀ (E:Env) (av:Nat→Prop) (w:World) (vs:List Value),az (aJ E av w) ds vs→p) (h:p→LC f ds rs d aE):LC f ds rs d aE:=
 ⟨hf.enters,fun N aw w0 sp sl df a w E vs hR hv=>(h (hp _ _ _ _ hv)).out.2 N aw w0 sp sl df a w E vs hR hv⟩
theorem na {α:Type} {E:Env} {av:Nat→Prop} {w:World} {sz:Nat} {e:α→Nat→I} {x:Sq α} {v:Value} (h:aJ E av w (eR sz e x) v):x.n≤maxLen:=by
 obtain ⟨_,_,_,_,h,_⟩:=h
 exact h
theorem ah.le {f:FuncId} {n0:Nat} {Q:D→List ae→Prop} {todo:List Item} {s:VS} (s':VS) (h1:QN s.sl s'.sl) (h2:az cw s.rs s'.rs) (h3:s'.df=s.df) (g:ah f n0 Q todo s'):ah f n0 Q todo s:=
 fun b cs hb=>Goal.le h1 h2 h3 (g b cs hb)
theorem ah.Fx {f:FuncId} {n0:Nat} {Q:D→List ae→Prop} {todo:List Item} {s:VS} (t el sz:Nat) (ht:eb s.sl t=some (.c (.im (.v (.slice none 0 0))))) (g:ah f n0 Q todo (DJ t el sz s)):ah f n0 Q todo s:=
 fun b cs hb=>Goal.Fx ht (g b cs hb)
theorem ah.lj {f:FuncId} {n0:Nat} {Q:D→List ae→Prop} {todo:List Item} {s:VS} (r j el sz:Nat) (l:List C) (hr:aY s.rs r=some (.box l)) (hj:aY l j=some (.im (.v (.slice none 0 0)))) (g:ah f n0 Q todo (ID r j el sz l s)):ah f n0 Q todo s:=
 fun b cs hb=>Goal.lj hr hj (g b cs hb)
theorem ah.freeze {f:FuncId} {n0:Nat} {Q:D→List ae→Prop} {todo:List Item} {s s':VS} (r:Nat) (h:Go.V.freeze r s=some s') (g:ah f n0 Q todo s'):ah f n0 Q todo s:=
 fun b cs hb=>Goal.freeze h (g b cs hb)
theorem ah.rename {f:FuncId} {n0:Nat} {Q:D→List ae→Prop} {todo:List Item} {s s':VS} (π:List Nat) (h:Mg n0 π s=some s') (g:ah f n0 Q todo s'):ah f n0 Q todo s:=
 fun b cs hb=>Goal.rename π h (g b cs hb)
theorem bo {n:Nat} {G:Nat→Prop} (step:∀ k,k<n→G (k+1)→G k) (last:G n):∀ k,k≤n→G k:=by
 intro k hk
 obtain ⟨m,rfl⟩:=Nat.exists_eq_add_of_le hk
 clear hk
 induction m generalizing k with
 | zero=>exact last
 | succ m ih=>
   have e:k+(m+1)=(k+1)+m:=by omega
   exact step k (by omega) (ih (k+1) (fun j hj=>step j (by omega)) (by rw [← e]; exact last))
theorem cd {k n:Nat} (h:k<n) (hn:n≤maxLen):IntKind.i64.wrap ((k:Int)+1)=((k+1:Nat):Int):=by
 have:((k:Int)+1)=((k+1:Nat):Int):=by omega
 rw [this]
 unfold maxLen at hn
 exact kR (by omega)
theorem au {k n:Nat} (h:k<n):cC (k:Int) n=true:=by
 show Nat.blt k n=true
 simpa [cX] using h
theorem dec_lt {a b:Nat} (h:decide ((a:Int)<(b:Int))=false):¬ a<b:=by
 have:=of_decide_eq_false h
 omega
def gB (p:Nat→Bool):Nat→Nat→Int
 | 0,_ => -1
 | m+1,k=>bif p k then (k:Int) else gB p m (k+1)
def cD (p:Nat→Bool) (n:Nat):Int:=gB p n 0
def gS (p:Nat→Bool):Nat→Nat→Nat
 | 0,k=>k
 | m+1,k=>bif p k then k else gS p m (k+1)
theorem HU {p:Nat→Bool} {m k:Nat} (h:p k=true):gS p (m+1) k=k:=by simp [gS,h]
theorem FQ {p:Nat→Bool}:∀ {m k:Nat},(bif decide (gB p m k<0) then ((k+m:Nat):Int) else gB p m k)=(gS p m k:Int)
 | 0,k=>by simp [gB,gS]
 | m+1,k=>by
   cases hp:p k with
   | true=>
     have:¬ ((k:Int)<0):=by omega
     simp [gB,gS,hp,this]
   | false=>
     have:=FQ (p:=p) (m:=m) (k:=k+1)
     simp only [gB,gS,hp,cond_false]
     rw [← this,show k+(m+1)=k+1+m by omega]
theorem BZ {p:Nat→Bool}:∀ {m k:Nat},k≤gS p m k∧gS p m k≤k+m
 | 0,k=>by simp [gS]
 | m+1,k=>by
   cases hp:p k with
   | true=>simp [gS,hp]
   | false=>
     have:=BZ (p:=p) (m:=m) (k:=k+1)
     simp only [gS,hp,cond_false]
     omega
theorem vH {p:Nat→Bool}:∀ {m k:Nat},(∀ i,k≤i→i<gS p m k→p i=false)∧(gS p m k<k+m→p (gS p m k)=true)
 | 0,k=>⟨fun i h1 h2=>by simp [gS] at h2; omega,fun h=>by simp [gS] at h⟩
 | m+1,k=>by
   cases hp:p k with
   | true=>
     rw [HU hp]
     exact ⟨fun i h1 h2=>by omega,fun _=>hp⟩
   | false=>
     have:=vH (p:=p) (m:=m) (k:=k+1)
     simp only [gS,hp,cond_false]
     refine ⟨fun i h1 h2=>?_,fun h=>this.2 (by omega)⟩
     by_cases e:i=k
     ·subst e; exact hp
     ·exact this.1 i (by omega) h2
def b5 (p:Nat→Bool):Nat→Nat→Bool
 | 0,_=>true
 | m+1,k=>bif p k then b5 p m (k+1) else false
def cL (p:Nat→Bool) (n:Nat):Bool:=b5 p n 0
theorem oU {p:Nat→Bool}:∀ {m k:Nat},(gB p m k = -1∧∀ i,k≤i→i<k+m→p i=false)∨∃ i:Nat,gB p m k=(i:Int)∧k≤i∧i<k+m∧p i=true∧∀ j,k≤j→j<i→p j=false
 | 0,k=>.inl ⟨rfl,fun i h1 h2=>by omega⟩
 | m+1,k=>by
   unfold gB
   cases hp:p k with
   | true=>exact .inr ⟨k,rfl,by omega,by omega,hp,fun j h1 h2=>by omega⟩
   | false=>
     simp only [cond_false]
     rcases oU (p:=p) (m:=m) (k:=k+1) with ⟨h1,h2⟩|⟨i,h1,h2,h3,h4,h5⟩
     ·refine .inl ⟨h1,fun i h3 h4=>?_⟩
      by_cases e:i=k
      ·subst e; exact hp
      ·exact h2 i (by omega) (by omega)
     ·refine .inr ⟨i,h1,by omega,by omega,h4,fun j h6 h7=>?_⟩
      by_cases e:j=k
      ·subst e; exact hp
      ·exact h5 j (by omega) h7
theorem rC (p:Nat→Bool) (n:Nat):(cD p n = -1∧∀ i,i<n→p i=false)∨∃ i:Nat,cD p n=(i:Int)∧i<n∧p i=true∧∀ j,j<i→p j=false:=by
 rcases oU (p:=p) (m:=n) (k:=0) with ⟨h1,h2⟩|⟨i,h1,h2,h3,h4,h5⟩
 ·exact .inl ⟨h1,fun i hi=>h2 i (bB _) (by omega)⟩
 ·exact .inr ⟨i,h1,by omega,h4,fun j hj=>h5 j (bB _) hj⟩
theorem rD {p:Nat→Bool}:∀ {m k:Nat},b5 p m k=true↔∀ i,k≤i→i<k+m→p i=true
 | 0,k=>⟨fun _ i h1 h2=>by omega,fun _=>rfl⟩
 | m+1,k=>by
   unfold b5
   cases hp:p k with
   | false=>
     simp only [cond_false]
     exact ⟨fun h=>by simp at h,fun h=>by rw [h k (bf _) (by omega)] at hp; simp at hp⟩
   | true=>
     simp only [cond_true]
     rw [rD]
     refine ⟨fun h i h1 h2=>?_,fun h i h1 h2=>h i (by omega) (by omega)⟩
     by_cases e:i=k
     ·subst e; exact hp
     ·exact h i (by omega) (by omega)
theorem fz {p:Nat→Bool} {n:Nat}:cL p n=true↔∀ i,i<n→p i=true:=by
 unfold cL
 rw [rD]
 exact ⟨fun h i hi=>h i (bB _) (by omega),fun h i _ hi=>h i (by omega)⟩
theorem jB {p:Nat→Bool} {m k:Nat} (h:p k=true):gB p (m+1) k=(k:Int):=by simp [gB,h]
theorem iD {p:Nat→Bool} {m k:Nat} (h:p k=false):gB p (m+1) k=gB p m (k+1):=by simp [gB,h]
theorem fj {p:Nat→Bool} {m k:Nat} (h:p k=false):b5 p (m+1) k=false:=by simp [b5,h]
theorem gN {p:Nat→Bool} {m k:Nat} (h:p k=true):b5 p (m+1) k=b5 p m (k+1):=by simp [b5,h]
theorem int_ne (m n:Nat):((m:Int)!=(n:Int)) = !(m==n):=by
 rw [eh]
 simp
 omega
theorem int_eq (m n:Nat):((m:Int)==(n:Int))=(m==n):=by
 rw [eh]
 simp
 omega
theorem cE {n:Nat} {C:Prop} (h:decide ((n:Int)<(n:Int))=true):C:=by simp at h
def nQ (a b:ByteArray):Bool:=a.toList==b.toList
theorem A4 (a b:ByteArray):nQ a b=nQ b a:=by
 unfold nQ
 rw [eh,beq_iff_eq,beq_iff_eq]
 exact eq_comm
def dM {α:Type} (e:α→α→Bool) (x y:Sq α):Bool:=(x.n==y.n)&&cL (fun i=>e (x.get i) (y.get i)) x.n
open Go Go.V
noncomputable def K4:iZ:={ F:=F1 }
def I6:Nat→Bool:=fun i=>Nat.beq i 2
theorem UB:Fn 67:=⟨by kernel_rfl,by kernel_rfl⟩
abbrev jr:=Tmp×D×eE
noncomputable abbrev nY (ax:Sq Int):D:=.c (.im (.sl 1 ax.1 (fun i=>cg (ax.2 i))))
noncomputable abbrev oG (ax:Sq Int):D:=int (↑ax.1:Int)
noncomputable abbrev oB:jr:=(8,((int 0),[]))
theorem WO (L:LP) (QD:D→Prop) (x:Sq Int) (v:Int) (h:L (aj 67 2) ⟨[(0,((nY x),[])),(1,((int v),[])),(7,((oG x),[])),oB],[],[]⟩):gL K4 67 I6 L (bF QD) [eR 1 cg x,int v] []:=Eq.mp (by kernel_rfl) h
noncomputable def Im (x:Sq Int) (v:Int) (k:Nat):VS:=⟨[(0,(nY x),[]),(1,(int v),[]),(7,(oG x),[]),(8,int k,[])],[],[]⟩
theorem Jh (L:LP) (QD:D→Prop) (x:Sq Int) (v:Int) (k:Nat) (h:br (decide ((↑k:Int)<(↑x.n:Int))) (nd (cC (↑k:Int) x.1) (br (v==x.2 k) (QD (int (↑k:Int))) (L (aj 67 2) ⟨[(0,((nY x),[])),(1,((int v),[])),(7,((oG x),[])),(8,((int (IntKind.i64.wrap ((↑k:Int)+1))),[]))],[],[]⟩))) (QD (int (-1)))):dh K4 67 I6 L (bF QD) 2 (Im x v k):=Eq.mp (by kernel_rfl) h
theorem Xv (x:Sq Int) (v:Int) (a:Int) (hx:x.n≤maxLen)  : ∀ k,k≤x.n→gB (fun i=>v==x.get i) (x.n-k) k=a→ah 67 0 (cf (int a)) (aj 67 2) (Im x v k):=by
 refine bo (fun k hk ih ha=>?_) (fun ha=>?_)
 ·have e:x.n-k=(x.n-(k+1))+1:=by omega
  rw [e] at ha
  refine bD (X:=K4) (stop:=I6) (Jh _ _ x v k ?_)
  refine ay (fun h=>?_) (fun h=>(dec_lt h hk).elim)
  refine aA (au (by omega)) ?_
  refine ay (fun h1=>?_) (fun h1=>?_)
  ·rw [jB (p:=(fun i=>v==x.get i)) (by simpa using h1)] at ha
   subst ha
   exact bp.refl _
  ·rw [iD (p:=(fun i=>v==x.get i)) (by simpa using h1)] at ha
   rw [cd hk hx]
   exact ih ha
 ·rw [Nat.sub_self] at ha
  refine bD (X:=K4) (stop:=I6) (Jh _ _ x v _ ?_)
  refine ay (fun h=>?_) (fun h=>?_)
  ·exact cE h
  ·subst ha
   exact bp.refl _
theorem T2 (x:Sq Int) (v:Int):LC 67 [eR 1 cg x,int v] [] (int (cD (fun i=>v==x.get i) x.n)) []:=
 cl.with UB (p:=x.n≤maxLen) (fun E av w vs h=>by cases h with|cons q _=>exact na q) fun hx=>
  bw (X:=K4) (stop:=I6) UB (aP (by kernel_rfl)) (WO _ _ x v (Xv x v _ hx 0 (bB _) rfl))
noncomputable def BV:iZ:={ F:=F1 }
def A1:Nat→Bool:=fun i=>Nat.beq i 2
theorem Qb:Fn 98:=⟨by kernel_rfl,by kernel_rfl⟩
noncomputable abbrev mZ (ax:Sq ByteArray):D:=.c (.im (.sl 1 ax.1 (fun i=>ff (ax.2 i))))
noncomputable abbrev o8 (ax:Sq ByteArray):jr:=(0,((mZ ax),[]))
noncomputable abbrev lK (ax:Sq ByteArray):D:=int (↑ax.1:Int)
theorem VP (L:LP) (QD:D→Prop) (x:Sq ByteArray) (v:ByteArray) (h:L (aj 98 2) ⟨[(o8 x),(1,((.c (.im (.v (.string v)))),[])),(7,((lK x),[])),oB],[],[]⟩):gL BV 98 A1 L (bF QD) [eR 1 ff x,Vi v] []:=Eq.mp (by kernel_rfl) h
noncomputable def GN (x:Sq ByteArray) (v:ByteArray) (k:Nat):VS:=⟨[(0,(mZ x),[]),(1,(.c (.im (.v (.string v)))),[]),(7,(lK x),[]),(8,int k,[])],[],[]⟩
theorem FA (L:LP) (QD:D→Prop) (x:Sq ByteArray) (v:ByteArray) (k:Nat) (h:br (decide ((↑k:Int)<(↑x.n:Int))) (nd (cC (↑k:Int) x.1) (br (v.toList==(x.2 k).toList) (QD (int (↑k:Int))) (L (aj 98 2) ⟨[(o8 x),(1,((.c (.im (.v (.string v)))),[])),(7,((lK x),[])),(8,((int (IntKind.i64.wrap ((↑k:Int)+1))),[]))],[],[]⟩))) (QD (int (-1)))):dh BV 98 A1 L (bF QD) 2 (GN x v k):=Eq.mp (by kernel_rfl) h
theorem VR (x:Sq ByteArray) (v:ByteArray) (a:Int) (hx:x.n≤maxLen)  : ∀ k,k≤x.n→gB (fun i=>v.toList==(x.get i).toList) (x.n-k) k=a→ah 98 0 (cf (int a)) (aj 98 2) (GN x v k):=by
 refine bo (fun k hk ih ha=>?_) (fun ha=>?_)
 ·have e:x.n-k=(x.n-(k+1))+1:=by omega
  rw [e] at ha
  refine bD (X:=BV) (stop:=A1) (FA _ _ x v k ?_)
  refine ay (fun h=>?_) (fun h=>(dec_lt h hk).elim)
  refine aA (au (by omega)) ?_
  refine ay (fun h1=>?_) (fun h1=>?_)
  ·rw [jB (p:=(fun i=>v.toList==(x.get i).toList)) (by simpa using h1)] at ha
   subst ha
   exact bp.refl _
  ·rw [iD (p:=(fun i=>v.toList==(x.get i).toList)) (by simpa using h1)] at ha
   rw [cd hk hx]
   exact ih ha
 ·rw [Nat.sub_self] at ha
  refine bD (X:=BV) (stop:=A1) (FA _ _ x v _ ?_)
  refine ay (fun h=>?_) (fun h=>?_)
  ·exact cE h
  ·subst ha
   exact bp.refl _
theorem SC (x:Sq ByteArray) (v:ByteArray):LC 98 [eR 1 ff x,Vi v] [] (int (cD (fun i=>v.toList==(x.get i).toList) x.n)) []:=
 cl.with Qb (p:=x.n≤maxLen) (fun E av w vs h=>by cases h with|cons q _=>exact na q) fun hx=>
  bw (X:=BV) (stop:=A1) Qb (aP (by kernel_rfl)) (VP _ _ x v (VR x v _ hx 0 (bB _) rfl))
noncomputable def L1:iZ:={ F:=F1 }
def KU:Nat→Bool:=fun i=>Nat.beq i 4
theorem T3:Fn 86:=⟨by kernel_rfl,by kernel_rfl⟩
theorem Xw (L:LP) (QD:D→Prop) (x y:Sq ByteArray) (h:br ((↑x.1:Int)!=(↑y.1:Int)) (QD (bool false)) (L (aj 86 4) ⟨[(o8 x),(1,((mZ y),[])),(12,((lK x),[])),(13,((int 0),[]))],[],[]⟩)):gL L1 86 KU L (bF QD) [eR 1 ff x,eR 1 ff y] []:=Eq.mp (by kernel_rfl) h
noncomputable def Jf (x y:Sq ByteArray) (k:Nat):VS:=⟨[(0,(mZ x),[]),(1,(mZ y),[]),(12,(lK x),[]),(13,int k,[])],[],[]⟩
theorem Mk (L:LP) (QD:D→Prop) (x y:Sq ByteArray) (k:Nat) (h:br (decide ((↑k:Int)<(↑x.n:Int))) (nd (cC (↑k:Int) x.1) (nd (cC (↑k:Int) y.1) (br (!(x.2 k).toList==(y.2 k).toList) (QD (bool false)) (L (aj 86 4) ⟨[(o8 x),(1,((mZ y),[])),(12,((lK x),[])),(13,((int (IntKind.i64.wrap ((↑k:Int)+1))),[]))],[],[]⟩)))) (QD (bool true))):dh L1 86 KU L (bF QD) 4 (Jf x y k):=Eq.mp (by kernel_rfl) h
theorem Xl (x y:Sq ByteArray) (a:Bool) (hx:x.n≤maxLen) (ZG:x.n=y.n):∀ k,k≤x.n→b5 (fun i=>nQ (x.get i) (y.get i)) (x.n-k) k=a→ah 86 0 (cf (bool a)) (aj 86 4) (Jf x y k):=by
 refine bo (fun k hk ih ha=>?_) (fun ha=>?_)
 ·have e:x.n-k=(x.n-(k+1))+1:=by omega
  rw [e] at ha
  refine bD (X:=L1) (stop:=KU) (Mk _ _ x y k ?_)
  refine ay (fun h=>?_) (fun h=>(dec_lt h hk).elim)
  refine aA (au (by omega)) ?_
  refine aA (au (by omega)) ?_
  refine ay (fun h1=>?_) (fun h1=>?_)
  ·rw [fj (p:=(fun i=>nQ (x.get i) (y.get i))) (by simpa [nQ] using h1)] at ha
   subst ha
   exact bp.refl _
  ·rw [gN (p:=(fun i=>nQ (x.get i) (y.get i))) (by simpa [nQ] using h1)] at ha
   rw [cd hk hx]
   exact ih ha
 ·rw [Nat.sub_self] at ha
  refine bD (X:=L1) (stop:=KU) (Mk _ _ x y _ ?_)
  refine ay (fun h=>?_) (fun h=>?_)
  ·exact cE h
  ·subst ha
   exact bp.refl _
theorem UG (x y:Sq ByteArray):LC 86 [eR 1 ff x,eR 1 ff y] [] (bool (dM nQ x y)) []:=
 cl.with T3 (p:=x.n≤maxLen) (fun E av w vs h=>by cases h with|cons q _=>exact na q) fun hx=>
  bw (X:=L1) (stop:=KU) T3 (aP (by kernel_rfl)) (Xw _ _ x y (by
   refine ay (fun h=>?_) (fun h=>?_)
   ·rw [int_ne] at h
    simp only [Bool.not_eq_true'] at h
    have e:dM nQ x y=false:=by simp only [dM,h,Bool.false_and]
    rw [e]; exact bp.refl _
   ·rw [int_ne] at h
    simp only [Bool.not_eq_false'] at h
    have e:dM nQ x y=cL (fun i=>nQ (x.get i) (y.get i)) x.n:=by simp only [dM,h,Bool.true_and]
    rw [e]
    exact Xl x y _ hx (eq_of_beq h) 0 (bB _) rfl))
end Go.Proofs.YtghfgcfabbbbbaaDoor
namespace Go.Proofs
open Go.Shelf
open Go.RowKit Go.Lib in
open Go.RowKit Go.Lib in
def Tryd.zx:Go.Shelf.Ren:=⟨fun|17=>87|15=>99|20=>105|n=>n,fun|9=>9|23=>131|4=>4|3=>3|0=>0|21=>21|n=>n,fun|n=>n⟩
theorem Tryd.IB:Go.Proofs.LaysGw.n17 Tryd.prog Tryd.zx:={
 mixed:=by kernel_rfl
 f15:=Tryd.func99.trans (congrArg some (by kernel_rfl))
 f17:=Tryd.func87.trans (congrArg some (by kernel_rfl))
 f20:=Tryd.func105.trans (congrArg some (by kernel_rfl))
 t0:=Tryd.underlying0
 a0:=Tryd.isAgg0
 z0:=Tryd.sizeOf0
 v0:=Tryd.zeroValue0
 i0:=by kernel_rfl
 t3:=Tryd.underlying3
 a3:=Tryd.isAgg3
 z3:=Tryd.sizeOf3
 v3:=Tryd.zeroValue3
 i3:=by kernel_rfl
 t4:=Tryd.underlying4
 a4:=Tryd.isAgg4
 z4:=Tryd.sizeOf4
 v4:=Tryd.zeroValue4
 i4:=by kernel_rfl
 t9:=Tryd.underlying9
 a9:=Tryd.isAgg9
 z9:=Tryd.sizeOf9
 v9:=Tryd.zeroValue9
 i9:=by kernel_rfl
 t21:=Tryd.underlying21
 a21:=Tryd.isAgg21
 z21:=Tryd.sizeOf21
 v21:=Tryd.zeroValue21
 i21:=by kernel_rfl
 t23:=Tryd.underlying131
 a23:=Tryd.isAgg131
 z23:=Tryd.sizeOf131
 v23:=Tryd.zeroValue131
 i23:=by kernel_rfl }
open Go.RowKit Go.Lib in
theorem Tryd.strings_ContainsFunc (g:Nat) (lb:Array Value) (eg:∀ args w,(callFunc g args).run Tryd.prog w=.ok (.enter g args) w) (p:Nat→Bool) (s:ByteArray) (w:World) (hp:PredAt Tryd.prog g lb encR p w) :
  Calls Tryd.prog 87 #[.string s,.func (.func g) #[] lb] w fun e w'=>e=.returned (.bool (decide (0≤Lib.idxFunc p true s)))∧Below w.heap.size w w':=Any.strings_ContainsFunc Tryd.IB g lb eg p s w hp
end Go.Proofs
namespace Go.Proofs.YtghfgcfabbbbbaaDoor
open Go Go.RowKit
def lE (r:Nat):Bool:=decide ((r:Int)<32)||decide ((r:Int)>126)
theorem Sy (w:World):PredAt Tryd.prog 88 #[] encR lE w:=fun W r _=>by
 unfold FnGives
 unfold lE
 by_cases h1:(r:Int)<32<;>by_cases h2:(r:Int)>126
 all_goals
  go_enter Tryd.func88,Tryd.ntmps88
  go_wp2
  all_goals first|(exfalso; omega)|(go_ret; exact ⟨by simp [h1,h2],0,rfl⟩)
def Gf (s:ByteArray) (k:Nat):Prop:=∀ i (h:i<s.size),i<k→32≤s[i].toNat∧s[i].toNat≤126
theorem w8 {s:ByteArray} (h:Gf s s.size):∀ f pos,Lib.idxFuncFrom lE true s f pos = -1
 | 0,pos=>rfl
 | f+1,pos=>by
   unfold Lib.idxFuncFrom
   split
   ·rename_i hp
    obtain ⟨h1,h2⟩:=h pos hp hp
    rw [decode_ascii s pos hp (by omega)]
    have:lE s[pos].toNat=false:=by simp [lE]; omega
    rw [if_neg (by simp [this])]
    exact w8 h f _
   ·rfl
def VQ (s:ByteArray):Bool:=decide (0≤Lib.idxFunc lE true s)
theorem Hn {s:ByteArray} (h:Gf s s.size):VQ s=false:=by
 unfold VQ Lib.idxFunc
 rw [w8 h]; rfl
theorem e9 {a b:Bool} (h:a=b):Ending.returned (.bool a)=.returned (.bool b):=by rw [h]
def AF (kind n:Int):Bool:=if kind=0∨kind=1 then decide (n=0) else if kind=2 then decide (0≤n∧n≤1) else if kind=3 then decide (-1000000000000000≤n∧n≤1000000000000000)
 else if kind=5 then decide (0≤n∧n≤1000000000) else if kind=6 then decide (0≤n∧n≤23) else false
def eS (kind n:Int) (s:ByteArray):Bool:=if kind=4 then (decide (n=0)&&(decide (s.size≤200) && !VQ s)) else (decide (s.toList=[])&&AF kind n)
set_option maxHeartbeats 4000000 in
theorem JU (kind n:Int) (s:ByteArray) (w:World):Calls Tryd.prog 66 #[.agg #[.int .i64 kind,.int .i64 n,.string s]] w fun e w'=>e=.returned (.bool (eS kind n s))∧Below w.heap.size w w':=by
 have hC:∀ W,Calls Tryd.prog 87 #[.string s,.func (.func 88) #[] #[]] W fun e w'=>e=.returned (.bool (VQ s))∧Below W.heap.size W w':=fun W=>Tryd.strings_ContainsFunc 88 #[] (enters_of Tryd.func88 (by kernel_rfl) rfl) lE s W (Sy W)
 by_cases k4:kind=4
 ·subst k4
  obtain ⟨o,ho⟩:∃ o,VQ s=o:=⟨_,rfl⟩
  have hv:eS 4 n s=(decide (n=0)&&(decide (s.size≤200) && !o)):=by simp [eS,ho]
  rw [hv]
  simp only [ho] at hC
  clear hv
  by_cases hn:n=0
  ·subst hn
   by_cases h2:(s.size:Int)≤200
   ·have hd:decide (s.size≤200)=true:=by simp; omega
    rw [hd]
    clear hd ho
    cases o
    all_goals
     go_enter Tryd.func66,Tryd.ntmps66
     go_wp2_with (go_at_call 87; refine (hC _).mono ?_; rintro e w' ⟨rfl,hb⟩; have hb1:w'.cell? ⟨w.heap.size,1,none⟩=some (.int .i64 0):=(hb.cell (p:=⟨w.heap.size,1,none⟩) (by simp)).trans (by simp); have hb2:w'.cell? ⟨w.heap.size,2,none⟩=some (.string s):=(hb.cell (p:=⟨w.heap.size,2,none⟩) (by simp)).trans (by simp))
     go_ret
     exact ⟨rfl,((Below.refl _ w).alloc (bf _) _).trans (hb.mono (by simp))⟩
   ·have hd:decide (s.size≤200)=false:=by simp; omega
    rw [hd]
    clear hd ho
    go_enter Tryd.func66,Tryd.ntmps66
    go_wp2_with (go_at_call 87; refine (hC _).mono ?_; rintro e w' ⟨rfl,hb⟩; have hb1:w'.cell? ⟨w.heap.size,1,none⟩=some (.int .i64 0):=(hb.cell (p:=⟨w.heap.size,1,none⟩) (by simp)).trans (by simp); have hb2:w'.cell? ⟨w.heap.size,2,none⟩=some (.string s):=(hb.cell (p:=⟨w.heap.size,2,none⟩) (by simp)).trans (by simp))
    go_ret
    exact ⟨rfl,((Below.refl _ w).alloc (bf _) _).trans (hb.mono (by simp))⟩
  ·have hd:decide (n=0)=false:=by simpa using hn
   rw [hd]
   clear hd ho
   go_enter Tryd.func66,Tryd.ntmps66
   go_wp2_with (go_at_call 87; refine (hC _).mono ?_; rintro e w' ⟨rfl,hb⟩; have hb1:w'.cell? ⟨w.heap.size,1,none⟩=some (.int .i64 n):=(hb.cell (p:=⟨w.heap.size,1,none⟩) (by simp)).trans (by simp); have hb2:w'.cell? ⟨w.heap.size,2,none⟩=some (.string s):=(hb.cell (p:=⟨w.heap.size,2,none⟩) (by simp)).trans (by simp))
   go_ret
   exact ⟨rfl,((Below.refl _ w).alloc (bf _) _).trans (hb.mono (by simp))⟩
 clear hC
 by_cases k0:kind=0
 ·subst k0
  by_cases hs:s.toList=[]<;>by_cases h1:0≤n<;>by_cases h2:n≤0
  all_goals first
  | (exfalso; omega)
  | (go_enter Tryd.func66,Tryd.ntmps66
     go_wp2
     go_ret
     exact ⟨by first|(refine e9 ?_; simp [eS,AF,hs]; done)|(refine e9 ?_; simp [eS,AF,hs]; omega),(Below.refl _ w).alloc (bf _) _⟩)
 by_cases k1:kind=1
 ·subst k1
  by_cases hs:s.toList=[]<;>by_cases h1:0≤n<;>by_cases h2:n≤0
  all_goals first
  | (exfalso; omega)
  | (go_enter Tryd.func66,Tryd.ntmps66
     go_wp2
     go_ret
     exact ⟨by first|(refine e9 ?_; simp [eS,AF,hs]; done)|(refine e9 ?_; simp [eS,AF,hs]; omega),(Below.refl _ w).alloc (bf _) _⟩)
 by_cases k2:kind=2
 ·subst k2
  by_cases hs:s.toList=[]<;>by_cases h1:0≤n<;>by_cases h2:n≤1
  all_goals first
  | (exfalso; omega)
  | (go_enter Tryd.func66,Tryd.ntmps66
     go_wp2
     go_ret
     exact ⟨by first|(refine e9 ?_; simp [eS,AF,hs]; done)|(refine e9 ?_; simp [eS,AF,hs]; omega),(Below.refl _ w).alloc (bf _) _⟩)
 by_cases k3:kind=3
 ·subst k3
  by_cases hs:s.toList=[]<;>by_cases h1 : -1000000000000000≤n<;>by_cases h2:n≤1000000000000000
  all_goals first
  | (exfalso; omega)
  | (go_enter Tryd.func66,Tryd.ntmps66
     go_wp2
     go_ret
     exact ⟨by first|(refine e9 ?_; simp [eS,AF,hs]; done)|(refine e9 ?_; simp [eS,AF,hs]; omega),(Below.refl _ w).alloc (bf _) _⟩)
 by_cases k5:kind=5
 ·subst k5
  by_cases hs:s.toList=[]<;>by_cases h1:0≤n<;>by_cases h2:n≤1000000000
  all_goals first
  | (exfalso; omega)
  | (go_enter Tryd.func66,Tryd.ntmps66
     go_wp2
     go_ret
     exact ⟨by first|(refine e9 ?_; simp [eS,AF,hs]; done)|(refine e9 ?_; simp [eS,AF,hs]; omega),(Below.refl _ w).alloc (bf _) _⟩)
 by_cases k6:kind=6
 ·subst k6
  by_cases hs:s.toList=[]<;>by_cases h1:0≤n<;>by_cases h2:n≤23
  all_goals first
  | (exfalso; omega)
  | (go_enter Tryd.func66,Tryd.ntmps66
     go_wp2
     go_ret
     exact ⟨by first|(refine e9 ?_; simp [eS,AF,hs]; done)|(refine e9 ?_; simp [eS,AF,hs]; omega),(Below.refl _ w).alloc (bf _) _⟩)
 go_enter Tryd.func66,Tryd.ntmps66
 go_wp2
 go_ret
 exact ⟨by refine e9 ?_; simp [eS,AF,k0,k1,k2,k3,k4,k5,k6],(Below.refl _ w).alloc (bf _) _⟩
open Go Go.V
theorem MZ {E:Env} {av:Nat→Prop} {w:World} {v:qH} {x:Value} (h:aJ E av w (M1 v) x):x=.agg #[.int .i64 v.kind,.int .i64 v.n,.string v.s]:=by
 obtain ⟨⟨l⟩,rfl,h⟩:=h
 cases h with
 | cons h1 h=>cases h with
   | cons h2 h=>cases h with
     | cons h3 h=>cases h with
       | nil=>rw [h1.1,h2.1,h3.1]
theorem Vm:Fn 66:=⟨by kernel_rfl,by kernel_rfl⟩
noncomputable def kx (v:qH):Bool:=eS v.kind v.n v.s
theorem RH (v:qH):LC 66 [M1 v] [] (bool (kx v)) []:=
 ⟨Vm.enters,fun N aw w0 sp sl df a w E vs hR hv=>by
  cases hv with
  | cons q k=>
    cases k
    rw [MZ q]
    refine (JU v.kind v.n v.s w).mono ?_
    rintro en w' ⟨rfl,hb⟩
    exact ⟨_,E,rfl,Kept.refl E,hR.grown hb,rfl,rfl⟩⟩
noncomputable def Zy:List (Nat×(List D→List ae→Out)):=[
 (67,fun ds rs=>(int (cD (fun i=>aI ds 1==(I2 ds 0).get i) (I2 ds 0).n),[],[])),
 (98,fun ds rs=>(int (cD (fun i=>(aS ds 1).toList==((wh ds 0).get i).toList) (wh ds 0).n),[],[])),
 (102,fun ds rs=>(int (cD (fun i=>((wh ds 0).get i).toList==(aS ds 1).toList) (wh ds 0).n),[],[])),
 (86,fun ds rs=>(bool (dM nQ (wh ds 0) (wh ds 1)),[],[])),
 (97,fun ds rs=>(bool (dM nQ (wh ds 0) (wh ds 1)),[],[])),
 (104,fun ds rs=>(bool (dM (fun a b:Int=>a==b) (I2 ds 0) (I2 ds 1)),[],[])),
 (66,fun ds rs=>(bool (kx (OS ds 0)),[],[])),
 (103,fun ds rs=>(bool (kx (OS ds 0)),[],[]))]
noncomputable def F2:FuncId→List D→List ae→Out:=fun f ds rs=>match findF f Zy with
 | some g=>g ds rs
 | none=>F1 f ds rs
abbrev Ah:=List (Nat×(List D→List ae→Out))
noncomputable def ext (F:FuncId→List D→List ae→Out) (l:Ah):FuncId→List D→List ae→Out:=fun f ds rs=>match findF f l with
 | some g=>g ds rs
 | none=>F f ds rs
def yn (v:Int) (x:Sq Int):Bool:=decide (cD (fun i=>v==x.get i) x.n≥0)
def cQ (v:Int):List Int→Bool
 | []=>false
 | y::l=>(v==y)||cQ v l
theorem Be {v:Int}:∀ {l:List Int},cQ v l=true↔v∈l
 | []=>by simp [cQ]
 | y::l=>by simp [cQ,Be]
theorem JA {v:Int} {x:Sq Int}:yn v x=true↔∃ i,i<x.n∧v=x.get i:=by
 unfold yn
 rcases rC (fun i=>v==x.get i) x.n with ⟨h1,h2⟩|⟨i,h1,h2,h3,_⟩
 ·rw [h1]
  constructor
  ·intro h; simp at h
  ·rintro ⟨i,hi,e⟩
   have:=h2 i hi
   simp [e] at this
 ·rw [h1]
  constructor
  ·intro _; exact ⟨i,h2,by simpa using h3⟩
  ·intro _; simp
theorem Iy {v:Int} {x:Sq Int} (l:List Int) (hn:x.n=l.length) (h:∀ i,i<l.length→x.get i=l.getD i 0):yn v x=cQ v l:=by
 rw [eh,JA,Be]
 constructor
 ·rintro ⟨i,hi,e⟩
  rw [hn] at hi
  rw [e,h i hi,List.getD_eq_getElem?_getD,gj hi]
  simp
 ·intro hm
  obtain ⟨i,hi,e⟩:=List.getElem_of_mem hm
  refine ⟨i,by omega,?_⟩
  rw [h i hi,List.getD_eq_getElem?_getD,gj hi,← e]
  simp
theorem Qf {n sz:Nat} {get get':Nat→Nat→I} (h:∀ i,i<n→∀ j,j<sz→dP (get i j) (get' i j)):bp (.c (.im (.sl sz n get))) (.c (.im (.sl sz n get'))):=by
 rintro E av w v ⟨a,cap,rfl,h1,h2,h3⟩
 refine ⟨a,cap,rfl,h1,h2,fun h0=>?_⟩
 obtain ⟨ad,h4,h5,h6,h7,h8⟩:=h3 h0
 refine ⟨ad,h4,h5,h6,h7,fun i hi j hj=>?_⟩
 obtain ⟨x,h9,Ar⟩:=h8 i hi j hj
 exact ⟨x,h9,h i hi j hj _ _ _ Ar⟩
theorem RB {n:Nat} {get:Nat→Nat→I} (h:∀ i,i<n→∃ m,get i 0=iI m):bp (.c (.im (.sl 1 n get))) (eR 1 cg ⟨n,fun i=>rI (get i)⟩):=
 Qf fun i hi j hj=>by
  obtain ⟨m,e⟩:=h i hi
  have hj0:j=0:=by omega
  subst hj0
  show dP (get i 0) (iI (bR (get i 0)))
  rw [e]
  exact dP.refl _
theorem ml {q:Nat}:∀ {l:List Int},q<l.length→bu (l.map iI) q=iI (l.getD q 0)
 | [],h=>by simp at h
 | y::l,h=>by
   cases q with
   | zero=>rfl
   | succ q=>exact ml (q:=q) (l:=l) (by simpa using h)
theorem EF (l:List Int):bp (.c (.im (.sl 1 l.length (flat 1 (l.map iI))))) (eR 1 cg ⟨l.length,fun i=>rI (flat 1 (l.map iI) i)⟩):=
 RB fun i hi=>⟨_,by show bu (l.map iI) (i*1+0)=_; rw [Nat.mul_one]; exact ml hi⟩
theorem zX (v:Int) (l:List Int):yn v ⟨l.length,fun i=>rI (flat 1 (l.map iI) i)⟩=cQ v l:=
 Iy l rfl fun i hi=>by
  show bR (bu (l.map iI) (i*1+0))=_
  rw [Nat.mul_one,Nat.add_zero,ml hi]; rfl
theorem SZ {f:FuncId} {a a':D} {l:List D} {rs aE:List ae} {d:D} (h:bp a a') (k:LC f (a'::l) rs d aE):LC f (a::l) rs d aE:=
 cl.pre k (.cons h (allRefl l))
where allRefl:∀ l:List D,az bp l l
 | []=>.nil
 | _::l=>.cons (bp.refl _) (allRefl l)
open Go Go.V
noncomputable def aR (x:af):Sq Int:=bif x.op==20 then x.args else ⟨(fG x.op).toNat,fun i=>[x.a,x.b,x.c].getD i 0⟩
noncomputable def Hv (x:Sq af):Int:=cD (fun i=>CZ (x.get i)) x.n
theorem MD (x:af):CZ x=(x.op != 1):=rfl
noncomputable def ju (x:Sq af):Nat:=gS (fun i=>CZ (x.get i)) x.n 0
def qM (op:Int):Bool:=cQ op [5,6,7,8,9,15,18,21]||(op==3||op==4)
noncomputable def dO (v:qH):Bool:=kx v&&(v.kind != 0 && v.kind != 5)
noncomputable def EL:ByteArray:=ByteArray.mk #[]
noncomputable def rR (x:Sq ByteArray) (k:Nat):Bool := !nQ (x.get k) EL&&(cD (fun i=>nQ (x.get i) (x.get k)) x.n==(k:Int))
noncomputable def jk (x:Sq ByteArray):Bool:=cL (rR x) x.n&&decide ((x.n:Int)≤64)
noncomputable def fM (op:Int):Int×Int:=
 bif op==3 then (3,4) else bif op==4 then (5,14) else bif op==5 then (0,1) else bif op==6 then (1,6) else bif op==10 then (0,63) else bif op==11 then (0,63) else bif op==15 then (0,600) else bif op==18 then (1,200)
 else bif op==7 then (0,9223372036854775807) else bif op==16 then (0,9223372036854775807) else bif op==17 then (0,9223372036854775807) else (0,0)
def PS (x:Int×Int):D:=.t [(false,[.im (iI x.1)]),(false,[.im (iI x.2)])]
noncomputable def Y5:Ah:=[
 (50,fun ds rs=>(bool (yn (aI ds 1) (I2 ds 0)),[],[])),
 (51,fun ds rs=>(bool (cQ (aI ds 0) [1,2,3,4,10,12,14,16,17]),[],[])),
 (62,fun ds rs=>(bool (cQ (aI ds 0) [5,6,7,8,9,15,18,21]),[],[])),
 (54,fun ds rs=>(bool (cQ (aI ds 0) [2,3,4,5,6,7,8,9,10,12,14]),[],[])),
 (58,fun ds rs=>(int (Hv (EW ij (gD (aD ds 0) 0))),[],[])),
 (61,fun ds rs=>(bool (qM (aI ds 0)),[],[])),
 (41,fun ds rs=>(int (ju (fT ds 0).ins),[],[])),
 (78,fun ds rs=>(int (ju (fT ds 0).ins),[],[])),
 (49,fun ds rs=>(bool (dO (OS ds 0)),[],[])),
 (94,fun ds rs=>(bool (dO (OS ds 0)),[],[])),
 (84,fun ds rs=>(PS (fM (aI ds 0)),[],[])),
 (85,fun ds rs=>(bool (jk (wh ds 0)),[],[])),
 (93,fun ds rs=>(bool (jk (wh ds 0)),[],[])),
 (63,fun ds rs=>(eR 1 cg (aR (sU ds 0)),[],[])),
 (40,fun ds rs=>(eR 1 cg (aR (sU ds 0)),[],[]))]
noncomputable def F3:=ext F2 Y5
noncomputable def P6 (j:Int):iZ:={ F:=ext F2 [(70,fun ds rs=>(int j,[],[]))] }
noncomputable def US:iZ:={ F:=F3 }
def Vj:Nat→Bool:=cM
theorem X6:Fn 50:=⟨by kernel_rfl,by kernel_rfl⟩
theorem Yf (L:LP) (QD:D→Prop) (x:Sq Int) (v:Int) (h:(LC 67 [(nY x),(int v)] [] (int (cD (fun i=>v==x.2 i) x.1)) []∧QD (bool (decide (cD (fun i=>v==x.2 i) x.1≥0))))):gL US 50 Vj L (bF QD) [eR 1 cg x,int v] []:=Eq.mp (by kernel_rfl) h
theorem L4 (x:Sq Int) (v:Int):LC 50 [eR 1 cg x,int v] [] (bool (yn v x)) []:=
 bw (X:=US) (stop:=Vj) X6 (aP (by kernel_rfl)) (Yf _ _ x v ⟨T2 _ _,bp.refl _⟩)
noncomputable def P9:iZ:={ F:=F3 }
def QM:Nat→Bool:=cM
theorem VO:Fn 51:=⟨by kernel_rfl,by kernel_rfl⟩
noncomputable abbrev Qg (ax:Int):D:=bool (yn ax { n:=9,get:=fun i=>rI (flat 1 [I.v (Value.int IntKind.i64 1),I.v (Value.int IntKind.i64 2),I.v (Value.int IntKind.i64 3),I.v (Value.int IntKind.i64 4),I.v (Value.int IntKind.i64 10),I.v (Value.int IntKind.i64 12),I.v (Value.int IntKind.i64 14),I.v (Value.int IntKind.i64 16),I.v (Value.int IntKind.i64 17)] i) })
theorem TK (L:LP) (QD:D→Prop) (op:Int) (h:(LC 50 [(.c (.im (.sl 1 9 (flat 1 [I.v (Value.int IntKind.i64 1),I.v (Value.int IntKind.i64 2),I.v (Value.int IntKind.i64 3),I.v (Value.int IntKind.i64 4),I.v (Value.int IntKind.i64 10),I.v (Value.int IntKind.i64 12),I.v (Value.int IntKind.i64 14),I.v (Value.int IntKind.i64 16),I.v (Value.int IntKind.i64 17)])))),(int op)] [] (Qg op) []∧QD (Qg op))):gL P9 51 QM L (bF QD) [int op] []:=Eq.mp (by kernel_rfl) h
theorem zF (op:Int):LC 51 [int op] [] (bool (cQ op [1,2,3,4,10,12,14,16,17])) []:=by
 refine bw (X:=P9) (stop:=QM) VO (aP (by kernel_rfl)) (TK _ _ op ⟨SZ (EF [1,2,3,4,10,12,14,16,17]) (L4 _ _),?_⟩)
 have e:=zX op [1,2,3,4,10,12,14,16,17]
 rw [← e]
 exact bp.refl _
noncomputable def TH:iZ:={ F:=F3 }
def TY:Nat→Bool:=cM
theorem XR:Fn 62:=⟨by kernel_rfl,by kernel_rfl⟩
noncomputable abbrev PT (ax:Int):D:=bool (yn ax { n:=8,get:=fun i=>rI (flat 1 [I.v (Value.int IntKind.i64 5),I.v (Value.int IntKind.i64 6),I.v (Value.int IntKind.i64 7),I.v (Value.int IntKind.i64 8),I.v (Value.int IntKind.i64 9),I.v (Value.int IntKind.i64 15),I.v (Value.int IntKind.i64 18),I.v (Value.int IntKind.i64 21)] i) })
theorem Xk (L:LP) (QD:D→Prop) (op:Int) (h:(LC 50 [(.c (.im (.sl 1 8 (flat 1 [I.v (Value.int IntKind.i64 5),I.v (Value.int IntKind.i64 6),I.v (Value.int IntKind.i64 7),I.v (Value.int IntKind.i64 8),I.v (Value.int IntKind.i64 9),I.v (Value.int IntKind.i64 15),I.v (Value.int IntKind.i64 18),I.v (Value.int IntKind.i64 21)])))),(int op)] [] (PT op) []∧QD (PT op))):gL TH 62 TY L (bF QD) [int op] []:=Eq.mp (by kernel_rfl) h
theorem PR (op:Int):LC 62 [int op] [] (bool (cQ op [5,6,7,8,9,15,18,21])) []:=by
 refine bw (X:=TH) (stop:=TY) XR (aP (by kernel_rfl)) (Xk _ _ op ⟨SZ (EF [5,6,7,8,9,15,18,21]) (L4 _ _),?_⟩)
 have e:=zX op [5,6,7,8,9,15,18,21]
 rw [← e]
 exact bp.refl _
noncomputable def TN:iZ:={ F:=F3 }
def Vy:Nat→Bool:=cM
theorem Yw:Fn 54:=⟨by kernel_rfl,by kernel_rfl⟩
noncomputable abbrev PN (ax:Int):D:=bool (yn ax { n:=11,get:=fun i=>rI (flat 1 [I.v (Value.int IntKind.i64 2),I.v (Value.int IntKind.i64 3),I.v (Value.int IntKind.i64 4),I.v (Value.int IntKind.i64 5),I.v (Value.int IntKind.i64 6),I.v (Value.int IntKind.i64 7),I.v (Value.int IntKind.i64 8),I.v (Value.int IntKind.i64 9),I.v (Value.int IntKind.i64 10),I.v (Value.int IntKind.i64 12),I.v (Value.int IntKind.i64 14)] i) })
theorem Xu (L:LP) (QD:D→Prop) (op:Int) (h:(LC 50 [(.c (.im (.sl 1 11 (flat 1 [I.v (Value.int IntKind.i64 2),I.v (Value.int IntKind.i64 3),I.v (Value.int IntKind.i64 4),I.v (Value.int IntKind.i64 5),I.v (Value.int IntKind.i64 6),I.v (Value.int IntKind.i64 7),I.v (Value.int IntKind.i64 8),I.v (Value.int IntKind.i64 9),I.v (Value.int IntKind.i64 10),I.v (Value.int IntKind.i64 12),I.v (Value.int IntKind.i64 14)])))),(int op)] [] (PN op) []∧QD (PN op))):gL TN 54 Vy L (bF QD) [int op] []:=Eq.mp (by kernel_rfl) h
theorem QJ (op:Int):LC 54 [int op] [] (bool (cQ op [2,3,4,5,6,7,8,9,10,12,14])) []:=by
 refine bw (X:=TN) (stop:=Vy) Yw (aP (by kernel_rfl)) (Xu _ _ op ⟨SZ (EF [2,3,4,5,6,7,8,9,10,12,14]) (L4 _ _),?_⟩)
 have e:=zX op [2,3,4,5,6,7,8,9,10,12,14]
 rw [← e]
 exact bp.refl _
noncomputable def V4:iZ:={ F:=F3 }
def Ue:Nat→Bool:=cM
theorem W9:Fn 61:=⟨by kernel_rfl,by kernel_rfl⟩
theorem Yu (L:LP) (QD:D→Prop) (op:Int) (h:(LC 62 [(int op)] [] (bool (cQ op [5,6,7,8,9,15,18,21])) []∧br (cQ op [5,6,7,8,9,15,18,21]) (QD (bool true)) (br (op==3) (QD (bool true)) (QD (bool (op==4)))))):gL V4 61 Ue L (bF QD) [int op] []:=Eq.mp (by kernel_rfl) h
theorem Vg (op:Int):LC 61 [int op] [] (bool (qM op)) []:=by
 refine bw (X:=V4) (stop:=Ue) W9 (aP (by kernel_rfl)) (Yu _ _ op ⟨PR _,?_⟩)
 refine ay (fun h=>?_) (fun h=>ay (fun h2=>?_) (fun h2=>?_))
 ·have e:qM op=true:=by simp only [qM,h,Bool.true_or]
  rw [e]; exact bp.refl _
 ·have e:qM op=true:=by simp only [qM,h2,Bool.true_or,Bool.or_true]
  rw [e]; exact bp.refl _
 ·have e:qM op=(op==4):=by simp only [qM,h,h2,Bool.false_or]
  rw [e]; exact bp.refl _
noncomputable def J6:iZ:={ F:=F3 }
def Ml:Nat→Bool:=fun i=>Nat.beq i 2
theorem Vs:Fn 58:=⟨by kernel_rfl,by kernel_rfl⟩
noncomputable abbrev wE (ax:Sq af):D:=.c (.im (.sl 14 ax.1 (fun i=>bn (ax.2 i))))
noncomputable abbrev oL (ax:Sq af):jr:=(0,((wE ax),[]))
noncomputable abbrev dy (ax:Sq af):D:=int (↑ax.1:Int)
noncomputable abbrev qS (ax:Sq af):jr:=(7,((dy ax),[]))
theorem XO (L:LP) (QD:D→Prop) (x:Sq af) (h:L (aj 58 2) ⟨[(oL x),(1,((.c (.im (.fn 59 0 (fun x=>I.v (Value.bool false))))),[])),(qS x),oB],[],[]⟩):gL J6 58 Ml L (bF QD) [eR 14 bn x,.c (.im (.fn 59 0 fun _=>.v (.bool false)))] []:=Eq.mp (by kernel_rfl) h
noncomputable def IP (x:Sq af) (k:Nat):VS:=⟨[(0,(wE x),[]),(1,(.c (.im (.fn 59 0 (fun x=>I.v (Value.bool false))))),[]),(7,(dy x),[]),(8,int k,[])],[],[]⟩
theorem KZ (L:LP) (QD:D→Prop) (x:Sq af) (k:Nat) (h:br (decide ((↑k:Int)<(↑x.1:Int))) (nd (cC (↑k:Int) x.1) ((LC 59 [(.a (lift (aT (x.2 k))))] [] (bool (CZ (x.2 k))) []∧br (CZ (x.2 k)) (QD (int (↑k:Int))) (L (aj 58 2) ⟨[(oL x),(1,((.c (.im (.fn 59 0 (fun x=>I.v (Value.bool false))))),[])),(qS x),(8,((int (IntKind.i64.wrap ((↑k:Int)+1))),[]))],[],[]⟩)))) (QD (int (-1)))):dh J6 58 Ml L (bF QD) 2 (IP x k):=Eq.mp (by kernel_rfl) h
theorem X3 (x:Sq af) (a:Int) (hx:x.n≤maxLen):∀ k,k≤x.n→gB (fun i=>CZ (x.get i)) (x.n-k) k=a→ah 58 0 (cf (int a)) (aj 58 2) (IP x k):=by
 refine bo (fun k hk ih ha=>?_) (fun ha=>?_)
 ·have e:x.n-k=(x.n-(k+1))+1:=by omega
  rw [e] at ha
  refine bD (X:=J6) (stop:=Ml) (KZ _ _ x k ?_)
  refine ay (fun h=>?_) (fun h=>(dec_lt h hk).elim)
  refine aA (au hk) ⟨U1 _,?_⟩
  refine ay (fun h1=>?_) (fun h1=>?_)
  ·rw [jB (p:=fun i=>CZ (x.get i)) h1] at ha
   subst ha; exact bp.refl _
  ·rw [iD (p:=fun i=>CZ (x.get i)) h1] at ha
   rw [cd hk hx]
   exact ih ha
 ·rw [Nat.sub_self] at ha
  refine bD (X:=J6) (stop:=Ml) (KZ _ _ x _ ?_)
  refine ay (fun h=>cE h) (fun h=>?_)
  subst ha; exact bp.refl _
theorem T9 (x:Sq af):LC 58 [eR 14 bn x,.c (.im (.fn 59 0 fun _=>.v (.bool false)))] [] (int (Hv x)) []:=
 cl.with Vs (p:=x.n≤maxLen) (fun E av w vs h=>by cases h with|cons q _=>exact na q) fun hx=>
  bw (X:=J6) (stop:=Ml) Vs (aP (by kernel_rfl)) (XO _ _ x (X3 x _ hx 0 (bB _) rfl))
noncomputable def UI:iZ:={ F:=F3 }
def Ua:Nat→Bool:=cM
theorem Xo:Fn 41:=⟨by kernel_rfl,by kernel_rfl⟩
noncomputable abbrev j2 (ax:ai):D:=int (↑ax.2.1:Int)
theorem XT (L:LP) (QD:D→Prop) (t:ai) (h:(LC 58 [(.c (.im (.sl 14 t.2.1 (fun i=>bn (t.ins.2 i))))),(.c (.im (.fn 59 0 (fun x=>I.v (Value.bool false)))))] [] (int (Hv t.2)) []∧br (decide (Hv t.2<0)) (QD (j2 t)) (QD (int (Hv t.2))))):gL UI 41 Ua L (bF QD) [dU t] []:=Eq.mp (by kernel_rfl) h
theorem TQ (t:ai):LC 41 [dU t] [] (int (ju t.ins)) []:=by
 have key:=FQ (p:=fun i=>CZ (t.ins.get i)) (m:=t.ins.n) (k:=0)
 rw [Nat.zero_add] at key
 refine bw (X:=UI) (stop:=Ua) Xo (aP (by kernel_rfl)) (XT _ _ t ⟨T9 _,?_⟩)
 refine ay (fun h=>?_) (fun h=>?_)
 ·have e:(ju t.ins:Int)=(t.ins.n:Int):=by unfold ju; rw [← key]; exact (congrArg (fun b=>bif b then _ else _) h)
  rw [e]; exact bp.refl _
 ·have e:(ju t.ins:Int)=Hv t.ins:=by unfold ju; rw [← key]; exact (congrArg (fun b=>bif b then _ else _) h)
  rw [e]; exact bp.refl _
noncomputable def Qt:iZ:={ F:=F3 }
def Qx:Nat→Bool:=cM
theorem UP:Fn 49:=⟨by kernel_rfl,by kernel_rfl⟩
theorem U3 (L:LP) (QD:D→Prop) (v:qH) (h:(LC 66 [(.a (lift (Nb (v))))] [] (bool (kx v)) []∧br (kx v) (br (v.1 != 0) (QD (bool (v.1 != 5))) (QD (bool false))) (QD (bool false)))):gL Qt 49 Qx L (bF QD) [M1 v] []:=Eq.mp (by kernel_rfl) h
theorem tK (v:qH):LC 49 [M1 v] [] (bool (dO v)) []:=by
 refine bw (X:=Qt) (stop:=Qx) UP (aP (by kernel_rfl)) (U3 _ _ v ⟨RH _,?_⟩)
 refine ay (fun h=>ay (fun h2=>?_) (fun h2=>?_)) (fun h=>?_)
 ·have e:dO v=(v.kind != 5):=by simp only [dO,h,show (v.kind != 0)=true from h2,Bool.true_and]
  rw [e]; exact bp.refl _
 ·have e:dO v=false:=by simp only [dO,h,show (v.kind != 0)=false from h2,Bool.true_and,Bool.false_and]
  rw [e]; exact bp.refl _
 ·have e:dO v=false:=by simp only [dO,h,Bool.false_and]
  rw [e]; exact bp.refl _
noncomputable def Qp:iZ:={ F:=F3 }
def P7:Nat→Bool:=cM
theorem TZ:Fn 84:=⟨by kernel_rfl,by kernel_rfl⟩
noncomputable abbrev DZ:D:=.t [(.false,[(ci 0)]),(.false,[(ci 9223372036854775807)])]
theorem Ve (L:LP) (QD:D→Prop) (op:Int) (h:br (op==3) (QD (.t [(.false,[(ci 3)]),(.false,[(ci 4)])])) (br (op==4) (QD (.t [(.false,[(ci 5)]),(.false,[(ci 14)])])) (br (op==5) (QD (.t [(.false,[(ci 0)]),(.false,[(ci 1)])])) (br (op==6) (QD (.t [(.false,[(ci 1)]),(.false,[(ci 6)])])) (br (op==10) (QD (.t [(.false,[(ci 0)]),(.false,[(ci 63)])])) (br (op==11) (QD (.t [(.false,[(ci 0)]),(.false,[(ci 63)])])) (br (op==15) (QD (.t [(.false,[(ci 0)]),(.false,[(ci 600)])])) (br (op==18) (QD (.t [(.false,[(ci 1)]),(.false,[(ci 200)])])) (br (op==7) (QD DZ) (br (op==16) (QD DZ) (br (op==17) (QD DZ) (QD (.t [(.false,[(ci 0)]),(.false,[(ci 0)])]))))))))))))):gL Qp 84 P7 L (bF QD) [int op] []:=Eq.mp (by kernel_rfl) h
theorem SQ (op:Int):LC 84 [int op] [] (PS (fM op)) []:=by
 refine bw (X:=Qp) (stop:=P7) TZ (aP (by kernel_rfl)) (Ve _ _ op ?_)
 repeat' (refine ay (fun h=>?_) (fun h=>?_))
 all_goals (simp only [fM, *,cond_true,cond_false]; exact bp.refl _)
noncomputable def Cb:iZ:={ F:=F3 }
def BS:Nat→Bool:=fun i=>Nat.beq i 2
theorem Qz:Fn 85:=⟨by kernel_rfl,by kernel_rfl⟩
theorem Ud (L:LP) (QD:D→Prop) (x:Sq ByteArray) (h:L (aj 85 2) ⟨[(o8 x),(5,((mZ x),[])),(6,((lK x),[])),(7,((int 0),[]))],[],[]⟩):gL Cb 85 BS L (bF QD) [eR 1 ff x] []:=Eq.mp (by kernel_rfl) h
noncomputable def GF (x:Sq ByteArray) (k:Nat):VS:=⟨[(0,(mZ x),[]),(5,(mZ x),[]),(6,(lK x),[]),(7,int k,[])],[],[]⟩
theorem FN (L:LP) (QD:D→Prop) (x:Sq ByteArray) (k:Nat) (h:br (decide ((↑k:Int)<(↑x.1:Int))) (nd (cC (↑k:Int) x.1) (br ((x.2 k).toList==(ByteArray.mk #[]).toList) (QD (bool false)) ((LC 98 [(mZ x),(.c (.im (.v (.string (x.2 k)))))] [] (int (cD (fun i=>(x.2 k).toList==(x.2 i).toList) x.1)) []∧br (cD (fun i=>(x.2 k).toList==(x.2 i).toList) x.1 != (↑k:Int)) (QD (bool false)) (L (aj 85 2) ⟨[(o8 x),(5,((mZ x),[])),(6,((lK x),[])),(7,((int (IntKind.i64.wrap ((↑k:Int)+1))),[]))],[],[]⟩))))) (QD (bool (decide ((↑x.1:Int)≤64))))):dh Cb 85 BS L (bF QD) 2 (GF x k):=Eq.mp (by kernel_rfl) h
theorem Uc (x:Sq ByteArray) (a:Bool) (hx:x.n≤maxLen):∀ k,k≤x.n→(b5 (rR x) (x.n-k) k&&decide ((x.n:Int)≤64))=a→ah 85 0 (cf (bool a)) (aj 85 2) (GF x k):=by
 refine bo (fun k hk ih ha=>?_) (fun ha=>?_)
 ·have e:x.n-k=(x.n-(k+1))+1:=by omega
  rw [e] at ha
  refine bD (X:=Cb) (stop:=BS) (FN _ _ x k ?_)
  refine ay (fun h=>?_) (fun h=>(dec_lt h hk).elim)
  refine aA (au hk) (ay (fun h1=>?_) (fun h1=>?_))
  ·rw [fj (p:=rR x) (by unfold rR; rw [show nQ (x.get k) EL=true from h1]; rfl)] at ha
   subst ha; exact bp.refl _
  ·refine ⟨SC _ _,?_⟩
   have ee:cD (fun i=>(x.get k).toList==(x.get i).toList) x.n=cD (fun i=>nQ (x.get i) (x.get k)) x.n:=congrArg (fun p=>cD p x.n) (funext fun i=>A4 _ _)
   refine ay (fun h2=>?_) (fun h2=>?_)
   ·rw [fj (p:=rR x) (by unfold rR; rw [← ee]; simp only [bne,Bool.not_eq_true'] at h2; rw [h2,Bool.and_false])] at ha
    subst ha; exact bp.refl _
   ·rw [gN (p:=rR x) (by unfold rR; rw [← ee]; simp only [bne,Bool.not_eq_false'] at h2; rw [h2,show nQ (x.get k) EL=false from h1]; rfl)] at ha
    rw [cd hk hx]
    exact ih ha
 ·rw [Nat.sub_self] at ha
  refine bD (X:=Cb) (stop:=BS) (FN _ _ x _ ?_)
  refine ay (fun h=>cE h) (fun h=>?_)
  subst ha; exact bp.refl _
theorem DI (x:Sq ByteArray):LC 85 [eR 1 ff x] [] (bool (jk x)) []:=
 cl.with Qz (p:=x.n≤maxLen) (fun E av w vs h=>by cases h with|cons q _=>exact na q) fun hx=>
  bw (X:=Cb) (stop:=BS) Qz (aP (by kernel_rfl)) (Ud _ _ x (Uc x _ hx 0 (bB _) rfl))
open Go Go.V
noncomputable def dg (x y:af):Bool:=x.op==y.op&&(x.a==y.a&&(x.b==y.b&&(x.c==y.c&&(x.n==y.n&&((x.k.kind==y.k.kind&&(x.k.n==y.k.n&&(x.k.s==y.k.s&&true)))&&((x.place.fn==y.place.fn&&(x.place.line==y.place.line&&true))&&(x.exit==y.exit&&((x.once==y.once)&&(dM (fun a b=>a==b) x.args y.args&&dM nQ x.names y.names)))))))))
noncomputable def nH (x:af):Bool := !(decide (x.op<0)||(decide (x.op>21)||(decide (x.n<(fM x.op).1)||decide (x.n>(fM x.op).2))))
noncomputable def nF (x:af):Bool := !((decide (fG x.op<1)&&x.a != 0)||((decide (fG x.op<2)&&x.b != 0)||((decide (fG x.op<3)&&x.c != 0)||(x.op != 20&&decide ((x.args.n:Int)>0)))))
noncomputable def ln (x:af):Bool := !((x.op==1&&(x.k.kind != 3 || (decide (x.k.n<0)||(decide (x.k.n≥24) || !(x.k.s.toList==(ByteArray.mk #[]).toList)))))||(x.op==2 && !dO x.k))
noncomputable def zeroV (v:qH):Bool:=v.kind==0&&(v.n==0&&(v.s==(ByteArray.mk ⟨[]⟩)&&true))
noncomputable def dW (p:EJ):Bool:=p.fn==0&&(p.line==0&&true)
noncomputable def lq (x:af):Bool := !(x.op != 1 && (x.op != 2 && !zeroV x.k))
noncomputable def eL (x:af):Bool := !(decide (x.place.fn<0)||(decide (x.place.line<0)||(x.op != 19 && !dW x.place)))
noncomputable def ep (x:af):Bool:=bif x.op==7||(x.op==16||x.op==17) then jk x.names else ((x.names.n:Int)==0)
noncomputable def aW (x:af):Bool:=nH x&&(nF x&&(ln x&&(lq x&&(eL x&&ep x))))
noncomputable def DM (x:Sq iY) (v:Int):Int:=cD (fun i=>(x.get i).value==v) x.n
noncomputable def ek (t:ai) (n before:Int):Bool:=decide (n≥0)&&(decide (n<before)&&oy (t.ins.get n.toNat).op)
noncomputable def Ze:Ah:=[
 (95,fun ds rs=>(bool (dg (sU ds 0) (sU ds 1)),[],[])),
 (60,fun ds rs=>(bool (aW (sU ds 0)),[],[])),
 (80,fun ds rs=>(bool (ek (fT ds 0) (aI ds 1) (aI ds 2)),[],[])),
 (96,fun ds rs=>(int (DM (FP ds 0).aC (aI ds 1)),[],[]))]
noncomputable def F4:=ext F3 Ze
def Bh:Nat→Bool:=cM
theorem M4:Fn 63:=⟨by kernel_rfl,by kernel_rfl⟩
noncomputable abbrev xV (ax:af):D:=.c (.im (.sl 1 ax.6.1 (fun i=>cg (ax.args.2 i))))
noncomputable abbrev EE:D:=.c (.im (.sl 1 0 (flat 1 [])))
theorem S3 (L:LP) (QD:D→Prop) (x:af) (h:br (x.1==20) (QD (xV x)) ((LC 70 [(int x.1)] [] (int 0) []∧(LC 70 [(int x.1)] [] (int 0) []∧QD EE)))):gL (P6 0) 63 Bh L (bF QD) [j3 x] []:=Eq.mp (by kernel_rfl) h
noncomputable abbrev jh (ax:af):D:=.c (.im (.sl 1 1 (flat 1 [iI ax.2])))
theorem SH (L:LP) (QD:D→Prop) (x:af) (h:br (x.1==20) (QD (xV x)) ((LC 70 [(int x.1)] [] (int 1) []∧(LC 70 [(int x.1)] [] (int 1) []∧QD (jh x))))):gL (P6 1) 63 Bh L (bF QD) [j3 x] []:=Eq.mp (by kernel_rfl) h
noncomputable abbrev sj (ax:af):D:=.c (.im (.sl 1 2 (flat 1 [iI ax.2,iI ax.3])))
theorem Sr (L:LP) (QD:D→Prop) (x:af) (h:br (x.1==20) (QD (xV x)) ((LC 70 [(int x.1)] [] (int 2) []∧(LC 70 [(int x.1)] [] (int 2) []∧QD (sj x))))):gL (P6 2) 63 Bh L (bF QD) [j3 x] []:=Eq.mp (by kernel_rfl) h
theorem SN (L:LP) (QD:D→Prop) (x:af) (h:br (x.1==20) (QD (xV x)) ((LC 70 [(int x.1)] [] (int 3) []∧(LC 70 [(int x.1)] [] (int 3) []∧QD (.c (.im (.sl 1 3 (flat 1 [iI x.2,iI x.3,iI x.4])))))))):gL (P6 3) 63 Bh L (bF QD) [j3 x] []:=Eq.mp (by kernel_rfl) h
theorem UM {b:Bool} {x y:Int} (hx:x=0∨x=1∨x=2∨x=3) (hy:y=0∨y=1∨y=2∨y=3):(bif b then x else y)=0∨(bif b then x else y)=1∨(bif b then x else y)=2∨(bif b then x else y)=3:=by
 cases b
 ·exact hy
 ·exact hx
theorem xa (op:Int):fG op=0∨fG op=1∨fG op=2∨fG op=3:=by
 unfold fG
 iterate 13 (refine UM (by omega) ?_)
 omega
theorem Ak (l m:List Int) (n:Nat) (hn:n≤l.length) (hm:∀ i,i<n→l.getD i 0=m.getD i 0):bp (.c (.im (.sl 1 n (flat 1 (l.map iI))))) (eR 1 cg ⟨n,fun i=>m.getD i 0⟩):=Qf fun i hi j hj=>by
 have:j=0:=by omega
 subst this
 show dP (bu (l.map iI) (i*1+0)) (iI (m.getD i 0))
 rw [Nat.mul_one,Nat.add_zero,ml (by omega),hm i hi]
 exact dP.refl _
theorem TW (x:af):LC 63 [j3 x] [] (eR 1 cg (aR x)) []:=by
 have key:∀ n:Nat,fG x.op=n→(x.op==20)=false→aR x=⟨n,fun i=>[x.a,x.b,x.c].getD i 0⟩:=fun n h1 h2=>by
  unfold aR; rw [h1,h2]; rfl
 have lp:(x.op==20)=true→aR x=x.args:=fun h=>by unfold aR; rw [h]; rfl
 have c95:∀ n:Nat,fG x.op=n→LC 70 [int x.op] [] (int (n:Int)) []:=fun n h=>h▸P3 x.op
 have hl:[j3 x].length≤(wS 63).ntmps:=aP (by kernel_rfl)
 rcases xa x.op with h|h|h|h
 ·refine bw (X:=P6 0) (stop:=Bh) M4 hl (S3 _ _ x (ay (fun h1=>?_) (fun h1=>⟨c95 0 h,c95 0 h,?_⟩)))
  ·rw [lp h1]; exact bp.refl _
  ·rw [key 0 h h1]; exact Ak [] [x.a,x.b,x.c] 0 (bf _) fun i hi=>by omega
 ·refine bw (X:=P6 1) (stop:=Bh) M4 hl (SH _ _ x (ay (fun h1=>?_) (fun h1=>⟨c95 1 h,c95 1 h,?_⟩)))
  ·rw [lp h1]; exact bp.refl _
  ·rw [key 1 h h1]; exact Ak [x.a] [x.a,x.b,x.c] 1 (bf _) fun i hi=>by
    match i,hi with
    | 0,_=>rfl
 ·refine bw (X:=P6 2) (stop:=Bh) M4 hl (Sr _ _ x (ay (fun h1=>?_) (fun h1=>⟨c95 2 h,c95 2 h,?_⟩)))
  ·rw [lp h1]; exact bp.refl _
  ·rw [key 2 h h1]; exact Ak [x.a,x.b] [x.a,x.b,x.c] 2 (bf _) fun i hi=>by
    match i,hi with
    | 0,_=>rfl
    | 1,_=>rfl
 ·refine bw (X:=P6 3) (stop:=Bh) M4 hl (SN _ _ x (ay (fun h1=>?_) (fun h1=>⟨c95 3 h,c95 3 h,?_⟩)))
  ·rw [lp h1]; exact bp.refl _
  ·rw [key 3 h h1]; exact Ak [x.a,x.b,x.c] [x.a,x.b,x.c] 3 (bf _) fun i hi=>rfl
noncomputable def qm:iZ:={ F:=F4 }
def qt:Nat→Bool:=fun i=>Nat.beq i 3||Nat.beq i 5||Nat.beq i 7||Nat.beq i 9||Nat.beq i 11||Nat.beq i 13
theorem WG:Fn 60:=⟨by kernel_rfl,by kernel_rfl⟩
noncomputable abbrev dV:jr:=(1,((.c (.rt 0 0 0)),[]))
noncomputable abbrev cY (ax:af):ae:=.box (lift (aT (ax)))
theorem Yp (L:LP) (QD:D→Prop) (x:af) (h:(LC 84 [(int x.1)] [] (.t [(.false,[(ci ((fM x.1).1))]),(.false,[(ci ((fM x.1).2))])]) []∧(LC 70 [(int x.1)] [] (int (fG x.1)) []∧L (aj 60 3) ⟨[dV,(3,((int ((fM x.1).1)),[])),(4,((int ((fM x.1).2)),[])),(5,((int (fG x.1)),[]))],[(cY x)],[]⟩))):gL qm 60 qt L (bF QD) [j3 x] []:=Eq.mp (by kernel_rfl) h
noncomputable abbrev pB:jr:=(1,(.c (.rt 0 0 0)),[])
noncomputable def Md (x:af)  : VS:=⟨[pB,(3,(int ((fM x.1).1)),[]),(4,(int ((fM x.1).2)),[]),(5,(int (fG x.1)),[])],[(cY x)],[]⟩
theorem Rc (L:LP) (QD:D→Prop) (x:af)  (h:br (decide (x.1<0)) (QD (bool false)) (br (decide (x.1>21)) (QD (bool false)) (br (decide (x.5<(fM x.1).1)) (QD (bool false)) (br (decide (x.5>(fM x.1).2)) (QD (bool false)) (L (aj 60 5) ⟨[dV,(5,((int (fG x.1)),[])),(15,((bool false),[]))],[(cY x)],[]⟩))))):dh qm 60 qt L (bF QD) 3 (Md x ):=Eq.mp (by kernel_rfl) h
noncomputable def C1 (x:af)  : VS:=⟨[pB,(5,(int (fG x.1)),[]),(15,(bool false),[])],[(cY x)],[]⟩
noncomputable abbrev jj (ax:af):VS:=⟨[dV,(36,((bool false),[]))],[(cY ax)],[]⟩
theorem RE (L:LP) (QD:D→Prop) (x:af)  (h:br (decide (fG x.1<1)) (br (x.2 != 0) (QD (bool false)) (br (decide (fG x.1<2)) (br (x.3 != 0) (QD (bool false)) (br (decide (fG x.1<3)) (br (x.4 != 0) (QD (bool false)) (br (x.1 != 20) (br (decide ((↑x.6.1:Int)>0)) (QD (bool false)) (L (aj 60 7) (jj x))) (L (aj 60 7) (jj x)))) (br (x.1 != 20) (br (decide ((↑x.6.1:Int)>0)) (QD (bool false)) (L (aj 60 7) (jj x))) (L (aj 60 7) (jj x))))) (br (decide (fG x.1<3)) (br (x.4 != 0) (QD (bool false)) (br (x.1 != 20) (br (decide ((↑x.6.1:Int)>0)) (QD (bool false)) (L (aj 60 7) (jj x))) (L (aj 60 7) (jj x)))) (br (x.1 != 20) (br (decide ((↑x.6.1:Int)>0)) (QD (bool false)) (L (aj 60 7) (jj x))) (L (aj 60 7) (jj x)))))) (br (decide (fG x.1<2)) (br (x.3 != 0) (QD (bool false)) (br (decide (fG x.1<3)) (br (x.4 != 0) (QD (bool false)) (br (x.1 != 20) (br (decide ((↑x.6.1:Int)>0)) (QD (bool false)) (L (aj 60 7) (jj x))) (L (aj 60 7) (jj x)))) (br (x.1 != 20) (br (decide ((↑x.6.1:Int)>0)) (QD (bool false)) (L (aj 60 7) (jj x))) (L (aj 60 7) (jj x))))) (br (decide (fG x.1<3)) (br (x.4 != 0) (QD (bool false)) (br (x.1 != 20) (br (decide ((↑x.6.1:Int)>0)) (QD (bool false)) (L (aj 60 7) (jj x))) (L (aj 60 7) (jj x)))) (br (x.1 != 20) (br (decide ((↑x.6.1:Int)>0)) (QD (bool false)) (L (aj 60 7) (jj x))) (L (aj 60 7) (jj x)))))):dh qm 60 qt L (bF QD) 5 (C1 x ):=Eq.mp (by kernel_rfl) h
noncomputable def C4 (x:af)  : VS:=⟨[pB,(36,(bool false),[])],[(cY x)],[]⟩
noncomputable abbrev yX (ax:af):VS:=⟨[dV,(73,((bool false),[]))],[(cY ax)],[]⟩
theorem Ta (L:LP) (QD:D→Prop) (x:af)  (h:br (x.1==1) (br (x.7.1 != 3) (QD (bool false)) (br (decide (x.7.2<0)) (QD (bool false)) (br (decide (x.7.2≥24)) (QD (bool false)) (br (!x.7.3.toList==(ByteArray.mk #[]).toList) (QD (bool false)) (br (x.1==2) ((LC 49 [(.a (lift (Nb (x.7))))] [] (bool (dO x.7)) []∧br (!dO x.7) (QD (bool false)) (L (aj 60 9) (yX x)))) (L (aj 60 9) (yX x))))))) (br (x.1==2) ((LC 49 [(.a (lift (Nb (x.7))))] [] (bool (dO x.7)) []∧br (!dO x.7) (QD (bool false)) (L (aj 60 9) (yX x)))) (L (aj 60 9) (yX x)))):dh qm 60 qt L (bF QD) 7 (C4 x ):=Eq.mp (by kernel_rfl) h
noncomputable def DR (x:af)  : VS:=⟨[pB,(73,(bool false),[])],[(cY x)],[]⟩
noncomputable abbrev D9 (ax:af):VS:=⟨[dV,(112,((bool false),[]))],[(cY ax)],[]⟩
theorem SL (L:LP) (QD:D→Prop) (x:af)  (h:br (x.1 != 1) (br (x.1 != 2) (br (!(x.7.1==0&&(x.7.2==0&&(x.7.3=={ data:={ toList:=[] } }&&true)))) (QD (bool false)) (L (aj 60 11) (D9 x))) (L (aj 60 11) (D9 x))) (L (aj 60 11) (D9 x))):dh qm 60 qt L (bF QD) 9 (DR x ):=Eq.mp (by kernel_rfl) h
noncomputable def zS (x:af)  : VS:=⟨[pB,(112,(bool false),[])],[(cY x)],[]⟩
theorem NB (L:LP) (QD:D→Prop) (x:af)  (h:br (decide (x.9.1<0)) (QD (bool false)) (br (decide (x.9.2<0)) (QD (bool false)) (br (x.1 != 19) (br (!(x.9.1==0&&(x.9.2==0&&true))) (QD (bool false)) (L (aj 60 13) ⟨[dV,(127,((bool false),[]))],[(cY x)],[]⟩)) (L (aj 60 13) ⟨[dV,(127,((bool false),[]))],[(cY x)],[]⟩)))):dh qm 60 qt L (bF QD) 11 (zS x ):=Eq.mp (by kernel_rfl) h
noncomputable def Al (x:af)  : VS:=⟨[pB,(127,(bool false),[])],[(cY x)],[]⟩
noncomputable abbrev Ev (ax:af):D:=.c (.im (.sl 1 ax.8.1 (fun i=>ff (ax.names.2 i))))
theorem Pu (L:LP) (QD:D→Prop) (x:af)  (h:br (x.1==7) ((LC 85 [(Ev x)] [] (bool (jk x.8)) []∧QD (bool (jk x.8)))) (br (x.1==16) ((LC 85 [(Ev x)] [] (bool (jk x.8)) []∧QD (bool (jk x.8)))) (br (x.1==17) ((LC 85 [(Ev x)] [] (bool (jk x.8)) []∧QD (bool (jk x.8)))) (QD (bool ((↑x.8.1:Int)==0)))))):dh qm 60 qt L (bF QD) 13 (Al x ):=Eq.mp (by kernel_rfl) h
theorem NQ (x:af):ah 60 0 (cf (bool (ep x))) (aj 60 13) (Al x):=by
 refine bD (X:=qm) (stop:=qt) (Pu _ _ x ?_)
 refine ay (fun h=>?_) (fun h=>ay (fun h2=>?_) (fun h2=>ay (fun h3=>?_) (fun h3=>?_)))
 ·refine ⟨DI _,?_⟩
  rw [show ep x=jk x.names from by simp only [ep,show (x.op==7)=true from h,Bool.true_or,cond_true]]; exact bp.refl _
 ·refine ⟨DI _,?_⟩
  rw [show ep x=jk x.names from by simp only [ep,show (x.op==16)=true from h2,Bool.true_or,Bool.or_true,cond_true]]; exact bp.refl _
 ·refine ⟨DI _,?_⟩
  rw [show ep x=jk x.names from by simp only [ep,show (x.op==17)=true from h3,Bool.or_true,cond_true]]; exact bp.refl _
 ·rw [show ep x=((x.names.n:Int)==0) from by simp only [ep,show (x.op==7)=false from h,show (x.op==16)=false from h2,show (x.op==17)=false from h3,Bool.or_false,cond_false]]; exact bp.refl _
theorem NS (x:af):ah 60 0 (cf (bool (eL x&&(ep x)))) (aj 60 11) (zS x):=by
 refine bD (X:=qm) (stop:=qt) (NB _ _ x ?_)
 have no:eL x=false→bp (bool false) (bool (eL x&&(ep x))):=fun e=>by rw [e]; exact bp.refl _
 have go:eL x=true→ah 60 0 (cf (bool (eL x&&(ep x)))) (aj 60 13) (Al x):=fun e=>by rw [e]; exact NQ x
 repeat' (first|refine ay (fun h=>?_) (fun h=>?_)|refine ⟨tK _,?_⟩|done)
 all_goals (try simp only [Bool.and_true,Bool.not_eq_true',Bool.not_eq_false'] at *)
 all_goals first
  | exact no (by simp only [eL,zeroV,dW,Bool.and_true, *,bN])
  | exact go (by simp only [eL,zeroV,dW,Bool.and_true, *,bN])
theorem Rh (x:af):ah 60 0 (cf (bool (lq x&&(eL x&&(ep x))))) (aj 60 9) (DR x):=by
 refine bD (X:=qm) (stop:=qt) (SL _ _ x ?_)
 have no:lq x=false→bp (bool false) (bool (lq x&&(eL x&&(ep x)))):=fun e=>by rw [e]; exact bp.refl _
 have go:lq x=true→ah 60 0 (cf (bool (lq x&&(eL x&&(ep x))))) (aj 60 11) (zS x):=fun e=>by rw [e]; exact NS x
 repeat' (first|refine ay (fun h=>?_) (fun h=>?_)|refine ⟨tK _,?_⟩|done)
 all_goals (try simp only [Bool.and_true,Bool.not_eq_true',Bool.not_eq_false'] at *)
 all_goals first
  | exact no (by simp only [lq,zeroV,dW,Bool.and_true, *,bN])
  | exact go (by simp only [lq,zeroV,dW,Bool.and_true, *,bN])
theorem QQ (x:af):ah 60 0 (cf (bool (ln x&&(lq x&&(eL x&&(ep x)))))) (aj 60 7) (C4 x):=by
 refine bD (X:=qm) (stop:=qt) (Ta _ _ x ?_)
 have no:ln x=false→bp (bool false) (bool (ln x&&(lq x&&(eL x&&(ep x))))):=fun e=>by rw [e]; exact bp.refl _
 have go:ln x=true→ah 60 0 (cf (bool (ln x&&(lq x&&(eL x&&(ep x)))))) (aj 60 9) (DR x):=fun e=>by rw [e]; exact Rh x
 repeat' (first|refine ay (fun h=>?_) (fun h=>?_)|refine ⟨tK _,?_⟩|done)
 all_goals (try simp only [Bool.and_true,Bool.not_eq_true',Bool.not_eq_false'] at *)
 all_goals first
  | exact no (by simp only [ln,zeroV,dW,Bool.and_true, *,bN])
  | exact go (by simp only [ln,zeroV,dW,Bool.and_true, *,bN])
theorem Q3 (x:af):ah 60 0 (cf (bool (nF x&&(ln x&&(lq x&&(eL x&&(ep x))))))) (aj 60 5) (C1 x):=by
 refine bD (X:=qm) (stop:=qt) (RE _ _ x ?_)
 have no:nF x=false→bp (bool false) (bool (nF x&&(ln x&&(lq x&&(eL x&&(ep x)))))):=fun e=>by rw [e]; exact bp.refl _
 have go:nF x=true→ah 60 0 (cf (bool (nF x&&(ln x&&(lq x&&(eL x&&(ep x))))))) (aj 60 7) (C4 x):=fun e=>by rw [e]; exact QQ x
 repeat' (first|refine ay (fun h=>?_) (fun h=>?_)|refine ⟨tK _,?_⟩|done)
 all_goals (try simp only [Bool.and_true,Bool.not_eq_true',Bool.not_eq_false'] at *)
 all_goals first
  | exact no (by simp only [nF,zeroV,dW,Bool.and_true, *,bN])
  | exact go (by simp only [nF,zeroV,dW,Bool.and_true, *,bN])
theorem Re (x:af):ah 60 0 (cf (bool (nH x&&(nF x&&(ln x&&(lq x&&(eL x&&(ep x)))))))) (aj 60 3) (Md x):=by
 refine bD (X:=qm) (stop:=qt) (Rc _ _ x ?_)
 have no:nH x=false→bp (bool false) (bool (nH x&&(nF x&&(ln x&&(lq x&&(eL x&&(ep x))))))):=fun e=>by rw [e]; exact bp.refl _
 have go:nH x=true→ah 60 0 (cf (bool (nH x&&(nF x&&(ln x&&(lq x&&(eL x&&(ep x)))))))) (aj 60 5) (C1 x):=fun e=>by rw [e]; exact Q3 x
 repeat' (first|refine ay (fun h=>?_) (fun h=>?_)|refine ⟨tK _,?_⟩|done)
 all_goals (try simp only [Bool.and_true,Bool.not_eq_true',Bool.not_eq_false'] at *)
 all_goals first
  | exact no (by simp only [nH,zeroV,dW,Bool.and_true, *,bN])
  | exact go (by simp only [nH,zeroV,dW,Bool.and_true, *,bN])
theorem Qs (x:af):LC 60 [j3 x] [] (bool (aW x)) []:=
 bw (X:=qm) (stop:=qt) WG (aP (by kernel_rfl)) (Yp _ _ x ⟨SQ _,P3 _,Re x⟩)
theorem qj {n:Int} {m:Nat} (h0:0≤n) (h1:n<(m:Int)):cC n m=true:=by
 obtain ⟨k,rfl⟩:=Int.eq_ofNat_of_zero_le h0
 exact au (by omega)
open Go Go.V
noncomputable def Zd:Ah:=[]
noncomputable def F5:=ext F4 Zd
noncomputable def sH (x y:af):af×Bool:=
 bif x.1==3 then
  bif x.5==3 then
   ({ op:=y.1,a:=y.2,b:=y.3,c:=y.4,n:=x.5,args:=y.6,k:=y.7,names:=y.8,place:=y.9,exit:=y.10,once:=y.11 },true)
  else
   ({ op:=y.1,a:=y.2,b:=y.3,c:=y.4,n:=x.5,args:=y.6,k:=y.7,names:=y.8,place:=y.9,exit:=y.10,once:=y.11 },(x.5==4))
 else
  bif x.1==4 then
   ({ op:=y.1,a:=y.2,b:=y.3,c:=y.4,n:=x.5,args:=y.6,k:=y.7,names:=y.8,place:=y.9,exit:=y.10,once:=y.11 },(fK x.5 5 14))
  else
   bif x.1==5 then
    ({ op:=y.1,a:=y.2,b:=y.3,c:=y.4,n:=x.5,args:=y.6,k:=y.7,names:=y.8,place:=y.9,exit:=y.10,once:=y.11 },(fK x.5 0 1))
   else
    bif x.1==6 then
     ({ op:=y.1,a:=y.2,b:=y.3,c:=y.4,n:=x.5,args:=y.6,k:=y.7,names:=y.8,place:=y.9,exit:=y.10,once:=y.11 },(fK x.5 1 6))
    else
     bif x.1==10 then
      ({ op:=y.1,a:=y.2,b:=y.3,c:=y.4,n:=x.5,args:=y.6,k:=y.7,names:=y.8,place:=y.9,exit:=y.10,once:=y.11 },(fK x.5 0 63))
     else
      bif x.1==11 then
       ({ op:=y.1,a:=y.2,b:=y.3,c:=y.4,n:=x.5,args:=y.6,k:=y.7,names:=y.8,place:=y.9,exit:=y.10,once:=y.11 },(fK x.5 0 63))
      else
       bif x.1==15 then
        ({ op:=y.1,a:=y.2,b:=y.3,c:=y.4,n:=x.5,args:=y.6,k:=y.7,names:=y.8,place:=y.9,exit:=y.10,once:=y.11 },(fK x.5 0 600))
       else
        bif x.1==18 then
         ({ op:=y.1,a:=y.2,b:=y.3,c:=y.4,n:=x.5,args:=y.6,k:=y.7,names:=y.8,place:=y.9,exit:=y.10,once:=y.11 },(fK x.5 1 200))
        else
         bif x.1==7 then
          bif decide (x.5≥0) then
           ({ op:=y.1,a:=y.2,b:=y.3,c:=y.4,n:=x.5,args:=y.6,k:=y.7,names:=x.8,place:=y.9,exit:=y.10,once:=y.11 },(jk x.8))
          else
           ({ op:=y.1,a:=y.2,b:=y.3,c:=y.4,n:=x.5,args:=y.6,k:=y.7,names:=x.8,place:=y.9,exit:=y.10,once:=y.11 },false)
         else
          bif x.1==16 then
           bif decide (x.5≥0) then
            ({ op:=y.1,a:=y.2,b:=y.3,c:=y.4,n:=x.5,args:=y.6,k:=y.7,names:=x.8,place:=y.9,exit:=y.10,once:=y.11 },(jk x.8))
           else
            ({ op:=y.1,a:=y.2,b:=y.3,c:=y.4,n:=x.5,args:=y.6,k:=y.7,names:=x.8,place:=y.9,exit:=y.10,once:=y.11 },false)
          else
           bif x.1==17 then
            bif decide (x.5≥0) then
             ({ op:=y.1,a:=y.2,b:=y.3,c:=y.4,n:=x.5,args:=y.6,k:=y.7,names:=x.8,place:=y.9,exit:=y.10,once:=y.11 },(jk x.8))
            else
             ({ op:=y.1,a:=y.2,b:=y.3,c:=y.4,n:=x.5,args:=y.6,k:=y.7,names:=x.8,place:=y.9,exit:=y.10,once:=y.11 },false)
           else
            bif x.1==1 then
             bif x.7.1==3 then
              bif fK x.7.2 0 23 then
               ({ op:=y.1,a:=y.2,b:=y.3,c:=y.4,n:=y.5,args:=y.6,k:=x.7,names:=y.8,place:=y.9,exit:=y.10,once:=y.11 },(x.7.3.toList==(ByteArray.mk #[]).toList))
              else
               ({ op:=y.1,a:=y.2,b:=y.3,c:=y.4,n:=y.5,args:=y.6,k:=x.7,names:=y.8,place:=y.9,exit:=y.10,once:=y.11 },false)
             else
              ({ op:=y.1,a:=y.2,b:=y.3,c:=y.4,n:=y.5,args:=y.6,k:=x.7,names:=y.8,place:=y.9,exit:=y.10,once:=y.11 },false)
            else
             bif x.1==2 then
              ({ op:=y.1,a:=y.2,b:=y.3,c:=y.4,n:=y.5,args:=y.6,k:=x.7,names:=y.8,place:=y.9,exit:=y.10,once:=y.11 },(dO x.7))
             else
              bif x.1==19 then
               bif decide (x.9.1≥0) then
                ({ op:=y.1,a:=y.2,b:=y.3,c:=y.4,n:=y.5,args:=y.6,k:=y.7,names:=y.8,place:=x.9,exit:=y.10,once:=y.11 },(decide (x.9.2≥0)))
               else
                ({ op:=y.1,a:=y.2,b:=y.3,c:=y.4,n:=y.5,args:=y.6,k:=y.7,names:=y.8,place:=x.9,exit:=y.10,once:=y.11 },false)
              else
               (y,true)
noncomputable def iW (x y:af):Bool:=(sH x y).2&&(fK x.op 0 21&&dg x (sH x y).1)
noncomputable def b8:ByteArray:=ByteArray.mk ⟨[]⟩
noncomputable def yA (x:af):af:=
 bif x.1 != 20 then
  bif decide ((↑(aR x).1:Int)>0) then
   bif decide ((↑(aR x).1:Int)>1) then
    bif decide ((↑(aR x).1:Int)>2) then
     ⟨x.1,x.2,x.3,x.4,0,⟨0,fun _=>0⟩,⟨0,0,b8⟩,⟨0,fun _=>b8⟩,⟨0,0⟩,x.10,x.11⟩
    else
     ⟨x.1,x.2,x.3,0,0,⟨0,fun _=>0⟩,⟨0,0,b8⟩,⟨0,fun _=>b8⟩,⟨0,0⟩,x.10,x.11⟩
   else
    bif decide ((↑(aR x).1:Int)>2) then
     ⟨x.1,x.2,0,x.4,0,⟨0,fun _=>0⟩,⟨0,0,b8⟩,⟨0,fun _=>b8⟩,⟨0,0⟩,x.10,x.11⟩
    else
     ⟨x.1,x.2,0,0,0,⟨0,fun _=>0⟩,⟨0,0,b8⟩,⟨0,fun _=>b8⟩,⟨0,0⟩,x.10,x.11⟩
  else
   bif decide ((↑(aR x).1:Int)>1) then
    bif decide ((↑(aR x).1:Int)>2) then
     ⟨x.1,0,x.3,x.4,0,⟨0,fun _=>0⟩,⟨0,0,b8⟩,⟨0,fun _=>b8⟩,⟨0,0⟩,x.10,x.11⟩
    else
     ⟨x.1,0,x.3,0,0,⟨0,fun _=>0⟩,⟨0,0,b8⟩,⟨0,fun _=>b8⟩,⟨0,0⟩,x.10,x.11⟩
   else
    bif decide ((↑(aR x).1:Int)>2) then
     ⟨x.1,0,0,x.4,0,⟨0,fun _=>0⟩,⟨0,0,b8⟩,⟨0,fun _=>b8⟩,⟨0,0⟩,x.10,x.11⟩
    else
     ⟨x.1,0,0,0,0,⟨0,fun _=>0⟩,⟨0,0,b8⟩,⟨0,fun _=>b8⟩,⟨0,0⟩,x.10,x.11⟩
 else
  ⟨x.1,0,0,0,0,x.args,⟨0,0,b8⟩,⟨0,fun _=>b8⟩,⟨0,0⟩,x.10,x.11⟩
noncomputable def aO (x:af):Bool:=iW x (yA x)
open Go Go.V
noncomputable def Zn:Ah:=[
 (79,fun ds rs=>(bool (aO (sU ds 0)),[],[]))]
noncomputable def F6:=ext F5 Zn
noncomputable def cW {α:Type} (x y:Sq α):Sq α:=⟨x.n+y.n,fun i=>Bool.rec (y.get (i-x.n)) (x.get i) (Nat.blt i x.n)⟩
theorem Fj {α:Type} (x y:Sq α) (e:α→Nat→I):j0 x.n (fun i=>e (x.get i)) (fun i=>e (y.get i))=fun i=>e ((cW x y).get i):=by
 funext i j
 show (Bool.rec (e (y.get (i-x.n)) j) (e (x.get i) j) (Nat.blt i x.n):I)=e (Bool.rec (y.get (i-x.n)) (x.get i) (Nat.blt i x.n)) j
 cases Nat.blt i x.n<;>rfl
theorem ra (el sz:Nat) (g g':Nat→Nat→I):cw (.arr el sz 0 g) (.arr el sz 0 g'):=cw.arr fun i hi=>by omega
noncomputable def yg {α:Type} (g:Nat→Sq α):Nat→Nat→Sq α→Sq α
 | 0,_,l=>l
 | m+1,k,l=>yg g m (k+1) (cW l (g k))
def cx {α:Type} (a:α):Sq α:=⟨0,fun _=>a⟩
noncomputable def ER (f:dD):Bool := !(decide (f.fn<0)||(decide (f.line<0)||decide ((f.vars.n:Int)>24)))
noncomputable def X1 (t:ai) (e:ag) (k:Int) (j:Nat):Bool := !(!ek t (e.aC.get j).value k||((t.ins.get (e.aC.get j).value.toNat).op != 17||(DM e.aC (e.aC.get j).value != (j:Int)||((e.aC.get j).cls != (t.ins.get (e.aC.get j).value.toNat).n||(!dM nQ (e.aC.get j).names (t.ins.get (e.aC.get j).value.toNat).names||(((e.aC.get j).items.n:Int)!=((e.aC.get j).names.n:Int)))))))
noncomputable def RM (t:ai) (e:ag) (k v:Int):Bool:=v == -1 || !(!ek t v k||((t.ins.get v.toNat).op==17&&decide (DM e.aC v<0)))
noncomputable def Wn (t:ai) (e:ag) (k:Int) (l:Sq Int):Bool:=cL (fun i=>RM t e k (l.get i)) l.n
noncomputable def X5 (t:ai) (e:ag) (k:Int) (l:Sq Int):Bool:=cL (X1 t e k) e.aC.n&&Wn t e k (yg (fun j=>(e.aC.get j).items) e.aC.n 0 l)
noncomputable def wG (t:ai) (e:ag) (k:Int):Bool := !(decide ((e.frames.n:Int)<1)||(decide ((e.frames.n:Int)>6)||decide (e.back<0)))&&(cL (fun j=>ER (e.frames.get j)) e.frames.n&&X5 t e k (yg (fun j=>(e.frames.get j).vars) e.frames.n 0 (cx 0)))
structure ku (e:ag):Prop where
 frames:e.frames.n≤1000
 vars:∀ j,j<e.frames.n→(e.frames.get j).vars.n≤1000
 aC:e.aC.n≤1000
 names:∀ j,j<e.aC.n→(e.aC.get j).names.n≤1000
 items:∀ j,j<e.aC.n→(e.aC.get j).items.n≤1000
structure ed (t:ai):Prop where
 ins:t.ins.n≤1000
 aa:t.aa.n≤1000
 args:∀ k,k<t.ins.n→(t.ins.get k).args.n≤1000
 names:∀ k,k<t.ins.n→(t.ins.get k).names.n≤1000
 str:∀ k,k<t.ins.n→(t.ins.get k).k.s.size≤1000
 ex:∀ k,k<t.aa.n→ku (t.aa.get k)
theorem Nw {t:ai} {v k:Int} (h:ek t v k=true):0≤v∧v<k:=by
 simp only [ek,cG,decide_eq_true_eq] at h
 omega
theorem s9 {t:ai} {v k:Int} (h:ek t v k=true) (hk:k≤t.ins.n):cC v t.ins.n=true:=by
 have:=Nw h
 exact qj this.1 (by omega)
theorem ez {n:Nat} {b:Nat} (h:n≤2000000) (hb:b≤1000):dX n b=true:=by
 have h2:n*b≤2000000*1000:=Nat.mul_le_mul h hb
 unfold dX
 simp only [cG]
 exact ⟨Nat.ble_eq_true_of_le (bU h (by decide)),Nat.ble_eq_true_of_le (bU h2 (by decide))⟩
theorem aK {a b:Nat} (h:a<b):Nat.blt a b=true:=by simpa [cX] using h
open Go Go.V
noncomputable def Y6:Ah:=[
 (83,fun ds rs=>(bool (wG (fT ds 0) (FP ds 1) (aI ds 2)),[],[]))]
noncomputable def F7:=ext F6 Y6
theorem OT (x:af) (h:x.args.n≤1000):(aR x).n≤1000:=by
 unfold aR
 cases x.op==20
 ·show (fG x.op).toNat≤1000
  rcases xa x.op with h|h|h|h<;>rw [h]<;>decide
 ·exact h
def iv (x:af):Bool:=x.op==20||x.op==21
noncomputable def a6 (t:ai) (k:Nat):Bool := !(iv (t.ins.get k)!=((k:Int)==(t.ins.n:Int)-1))&&(!((t.ins.get k).op==1&&decide ((k:Int)≥(ju t.ins:Int)))&&aO (t.ins.get k))
noncomputable def a12 (t:ai) (k:Nat):Bool := !((t.ins.get k).op==1&&(decide ((k:Int)>0)&&decide ((t.ins.get k).k.n≤(t.ins.get (k-1)).k.n))) && !((t.ins.get k).op==20&&(((t.ins.get k).args.n:Int)!=(ju t.ins:Int)))
noncomputable def u16 (t:ai) (k:Nat) (v:Int):Bool:=ek t v k && !((t.ins.get v.toNat).op==17)
noncomputable def G1 (t:ai) (k:Nat):Bool:=cL (fun j=>u16 t k ((aR (t.ins.get k)).get j)) (aR (t.ins.get k)).n
noncomputable def a20 (t:ai) (k:Nat):Bool := !((t.ins.get k).once && !Wx (t.ins.get k).op)&&(!decide ((t.ins.get k).exit < -1)&&(!decide ((t.ins.get k).exit≥(t.aa.n:Int))&&(!(decide ((t.ins.get k).exit≥0)&&eX (t.ins.get k).op==0) && !(decide ((t.ins.get k).exit<0)&&eX (t.ins.get k).op==2))))
def jQ (t:ai) (k:Nat) (i:Nat):Bool := !cL (fun j => !((t.ins.get j).exit==(i:Int))) k
noncomputable def TA (t:ai) (k:Nat):Bool := !decide ((t.ins.get k).exit≥0)||(!jQ t k (t.ins.get k).exit.toNat&&wG t (t.aa.get (t.ins.get k).exit.toNat) k)
noncomputable def lf (t:ai) (k:Nat):Bool:=a6 t k&&(a12 t k&&(G1 t k&&(a20 t k&&TA t k)))
noncomputable def nT (t:ai):Bool := !(decide (t.place.fn<0)||(decide (t.place.line<0)||((t.ins.n:Int)==0)))&&cL (lf t) t.ins.n
theorem sk {p q:Nat→Bool}:∀ {m k:Nat},(∀ i,k≤i→i<k+m→p i=q i)→b5 p m k=b5 q m k
 | 0,k,_=>rfl
 | m+1,k,h=>by
   unfold b5
   rw [h k (bf _) (by omega),sk fun i h1 h2=>h i (by omega) (by omega)]
theorem xb {p:Nat→Bool}:∀ {m k:Nat},b5 p (m+1) k=(b5 p m k&&p (k+m))
 | 0,k=>by simp [b5]
 | m+1,k=>by
   rw [show b5 p (m+1+1) k=(bif p k then b5 p (m+1) (k+1) else false) from rfl,xb (m:=m) (k:=k+1),show b5 p (m+1) k=(bif p k then b5 p m (k+1) else false) from rfl,show k+1+m=k+(m+1) by omega]
   cases p k<;>simp
theorem sD (t:ai) (k i:Nat):jQ t (k+1) i=(jQ t k i||((t.ins.get k).exit==(i:Int))):=by
 unfold jQ cL
 rw [xb,Nat.zero_add]
 cases b5 (fun j => !((t.ins.get j).exit==(i:Int))) k 0<;>simp
theorem G6 {n:Nat} (h:0<n) (hn:n≤1000):IntKind.i64.wrap ((n:Int)-1)=(n:Int)-1:=fR (by omega) (by omega)
open Go Go.V
noncomputable def Zb:Ah:=[
 (57,fun ds rs=>(bool (nT (fT ds 0)),[],[])),
 (64,fun ds rs=>(bool (ek (fT ds 0) (aI ds 1) (aI ds 2)),[],[])),
 (71,fun ds rs=>(.c (.ky 89 [rs.length]),[],[.box (lift (ba (FP ds 0)))]))]
noncomputable def F8:=ext F7 Zb
noncomputable def de (t:ai) (q:Nat):List C:=[.im (iI t.place.fn),.im (iI t.place.line),.im (j7 14 bn t.ins),.im (j7 3 bq t.aa),.mp q]
noncomputable def wj (t:ai) (q:Nat):D:=.a (de t q)
theorem Q4 (op:Int):cQ op [1,2,3,4,10,12,14,16,17]=oy op:=by
 simp [cQ,oy]
noncomputable def X8:iZ:={ F:=F8 }
noncomputable def jH (t:ai):Int:=bif decide ((t.ins.n:Int)>200) then 2 else bif decide ((t.aa.n:Int)>60) then 2 else bif nT t then 0 else 31
noncomputable def UO:iZ:={ F:=F8 }
def T1:Nat→Bool:=cM
theorem Yt:Fn 71:=⟨by kernel_rfl,by kernel_rfl⟩
theorem XY (L:LP) (QE:D→List ae→Prop) (e:ag) (r0 r1 r2 r3 r4 r5 r6 r7 r8 r9 dF dE:ae) (h:QE (.c (.ky 89 [12])) [r0,r1,r2,r3,r4,r5,r6,r7,r8,r9,dF,dE,(.box (lift (ba (e))))]):gL UO 71 T1 L QE [Gq e] [r0,r1,r2,r3,r4,r5,r6,r7,r8,r9,dF,dE]:=Eq.mp (by kernel_rfl) h
theorem Vf (e:ag) (r0 r1 r2 r3 r4 r5 r6 r7 r8 r9 dF dE:ae):LC 71 [Gq e] [r0,r1,r2,r3,r4,r5,r6,r7,r8,r9,dF,dE] (.c (.ky 89 [12])) [r0,r1,r2,r3,r4,r5,r6,r7,r8,r9,dF,dE,.box (lift (ba e))]:=
 ig Yt (aP (by kernel_rfl)) (fp (X:=UO) (stop:=T1) (XY _ _ e r0 r1 r2 r3 r4 r5 r6 r7 r8 r9 dF dE ⟨13,aP rfl,aP rfl,rfl,rfl,bp.refl _,by repeat' (first|exact trivial|refine ⟨.inl (.inl rfl),?_⟩|refine ⟨rfl,?_⟩|done)⟩))
def HL:Nat→Bool:=cM
theorem SB:Fn 64:=⟨by kernel_rfl,by kernel_rfl⟩
noncomputable abbrev D2 (ax:ai) (aX:Int):D:=bool (cQ (ax.ins.2 aX.toNat).1 [1,2,3,4,10,12,14,16,17])
theorem S6 (L:LP) (QE:D→List ae→Prop) (t:ai) (n before:Int) (r0 r1 r2 r3 r4:ae) (h:br (decide (n≥0)) (br (decide (n<before)) (nd (cC n t.2.1) ((LC 51 [(int ((t.ins.2 n.toNat).1))] [] (D2 t n) []∧QE (bool (cQ (t.ins.2 n.toNat).1 [1,2,3,4,10,12,14,16,17])) [r0,r1,r2,r3,r4,(.box (de (t) 1))]))) (QE (bool false) [r0,r1,r2,r3,r4,(.box (de (t) 1))])) (QE (bool false) [r0,r1,r2,r3,r4,(.box (de (t) 1))])):gL X8 64 HL L QE [wj t 1,int n,int before] [r0,r1,r2,r3,r4]:=Eq.mp (by kernel_rfl) h
theorem M9 (t:ai) (n before:Int) (r0 r1 r2 r3 r4:ae) (hb:before≤t.ins.n):LC 64 [wj t 1,int n,int before] [r0,r1,r2,r3,r4] (bool (ek t n before)) [r0,r1,r2,r3,r4]:=by
 refine ig SB (aP (by kernel_rfl)) (fp (X:=X8) (stop:=HL) (S6 _ _ t n before r0 r1 r2 r3 r4 ?_))
 refine ay (fun h=>ay (fun h2=>aA (qj (of_decide_eq_true h) (by have:=of_decide_eq_true h2; omega)) ⟨zF _,?_⟩) (fun h2=>?_)) (fun h=>?_)
 ·rw [show ek t n before=cQ (t.ins.get n.toNat).op [1,2,3,4,10,12,14,16,17] from by simp only [ek,show decide (n≥0)=true from h,show decide (n<before)=true from h2,Bool.true_and,Q4]]; exact ⟨5,aP rfl,aP rfl,rfl,rfl,bp.refl _,bj _ _⟩
 ·rw [show ek t n before=false from by simp only [ek,show decide (n<before)=false from h2,Bool.false_and,Bool.and_false]]; exact ⟨5,aP rfl,aP rfl,rfl,rfl,bp.refl _,bj _ _⟩
 ·rw [show ek t n before=false from by simp only [ek,show decide (n≥0)=false from h,Bool.false_and]]; exact ⟨5,aP rfl,aP rfl,rfl,rfl,bp.refl _,bj _ _⟩
theorem Ng (L:LP) (QE:D→List ae→Prop) (t:ai) (n before:Int) (r0 r1 r2 r3 r4 r5 r6 r7 r8 r9 dF dE BF:ae) (h:br (decide (n≥0)) (br (decide (n<before)) (nd (cC n t.2.1) ((LC 51 [(int ((t.ins.2 n.toNat).1))] [] (D2 t n) []∧QE (bool (cQ (t.ins.2 n.toNat).1 [1,2,3,4,10,12,14,16,17])) [r0,r1,r2,r3,r4,r5,r6,r7,r8,r9,dF,dE,BF,(.box (de (t) 1))]))) (QE (bool false) [r0,r1,r2,r3,r4,r5,r6,r7,r8,r9,dF,dE,BF,(.box (de (t) 1))])) (QE (bool false) [r0,r1,r2,r3,r4,r5,r6,r7,r8,r9,dF,dE,BF,(.box (de (t) 1))])):gL X8 64 HL L QE [wj t 1,int n,int before] [r0,r1,r2,r3,r4,r5,r6,r7,r8,r9,dF,dE,BF]:=Eq.mp (by kernel_rfl) h
theorem I9 (t:ai) (n before:Int) (r0 r1 r2 r3 r4 r5 r6 r7 r8 r9 dF dE BF:ae) (hb:before≤t.ins.n):LC 64 [wj t 1,int n,int before] [r0,r1,r2,r3,r4,r5,r6,r7,r8,r9,dF,dE,BF] (bool (ek t n before)) [r0,r1,r2,r3,r4,r5,r6,r7,r8,r9,dF,dE,BF]:=by
 refine ig SB (aP (by kernel_rfl)) (fp (X:=X8) (stop:=HL) (Ng _ _ t n before r0 r1 r2 r3 r4 r5 r6 r7 r8 r9 dF dE BF ?_))
 refine ay (fun h=>ay (fun h2=>aA (qj (of_decide_eq_true h) (by have:=of_decide_eq_true h2; omega)) ⟨zF _,?_⟩) (fun h2=>?_)) (fun h=>?_)
 ·rw [show ek t n before=cQ (t.ins.get n.toNat).op [1,2,3,4,10,12,14,16,17] from by simp only [ek,show decide (n≥0)=true from h,show decide (n<before)=true from h2,Bool.true_and,Q4]]; exact ⟨13,aP rfl,aP rfl,rfl,rfl,bp.refl _,bj _ _⟩
 ·rw [show ek t n before=false from by simp only [ek,show decide (n<before)=false from h2,Bool.false_and,Bool.and_false]]; exact ⟨13,aP rfl,aP rfl,rfl,rfl,bp.refl _,bj _ _⟩
 ·rw [show ek t n before=false from by simp only [ek,show decide (n≥0)=false from h,Bool.false_and]]; exact ⟨13,aP rfl,aP rfl,rfl,rfl,bp.refl _,bj _ _⟩
theorem O2 (L:LP) (QE:D→List ae→Prop) (t:ai) (n before:Int) (r0 r1 r2 r3 r4 r5 r6 r7 r8 r9 dF dE BF ey Qu P0:ae) (h:br (decide (n≥0)) (br (decide (n<before)) (nd (cC n t.2.1) ((LC 51 [(int ((t.ins.2 n.toNat).1))] [] (D2 t n) []∧QE (bool (cQ (t.ins.2 n.toNat).1 [1,2,3,4,10,12,14,16,17])) [r0,r1,r2,r3,r4,r5,r6,r7,r8,r9,dF,dE,BF,ey,Qu,P0,(.box (de (t) 1))]))) (QE (bool false) [r0,r1,r2,r3,r4,r5,r6,r7,r8,r9,dF,dE,BF,ey,Qu,P0,(.box (de (t) 1))])) (QE (bool false) [r0,r1,r2,r3,r4,r5,r6,r7,r8,r9,dF,dE,BF,ey,Qu,P0,(.box (de (t) 1))])):gL X8 64 HL L QE [wj t 1,int n,int before] [r0,r1,r2,r3,r4,r5,r6,r7,r8,r9,dF,dE,BF,ey,Qu,P0]:=Eq.mp (by kernel_rfl) h
theorem KN (t:ai) (n before:Int) (r0 r1 r2 r3 r4 r5 r6 r7 r8 r9 dF dE BF ey Qu P0:ae) (hb:before≤t.ins.n):LC 64 [wj t 1,int n,int before] [r0,r1,r2,r3,r4,r5,r6,r7,r8,r9,dF,dE,BF,ey,Qu,P0] (bool (ek t n before)) [r0,r1,r2,r3,r4,r5,r6,r7,r8,r9,dF,dE,BF,ey,Qu,P0]:=by
 refine ig SB (aP (by kernel_rfl)) (fp (X:=X8) (stop:=HL) (O2 _ _ t n before r0 r1 r2 r3 r4 r5 r6 r7 r8 r9 dF dE BF ey Qu P0 ?_))
 refine ay (fun h=>ay (fun h2=>aA (qj (of_decide_eq_true h) (by have:=of_decide_eq_true h2; omega)) ⟨zF _,?_⟩) (fun h2=>?_)) (fun h=>?_)
 ·rw [show ek t n before=cQ (t.ins.get n.toNat).op [1,2,3,4,10,12,14,16,17] from by simp only [ek,show decide (n≥0)=true from h,show decide (n<before)=true from h2,Bool.true_and,Q4]]; exact ⟨16,aP rfl,aP rfl,rfl,rfl,bp.refl _,bj _ _⟩
 ·rw [show ek t n before=false from by simp only [ek,show decide (n<before)=false from h2,Bool.false_and,Bool.and_false]]; exact ⟨16,aP rfl,aP rfl,rfl,rfl,bp.refl _,bj _ _⟩
 ·rw [show ek t n before=false from by simp only [ek,show decide (n≥0)=false from h,Bool.false_and]]; exact ⟨16,aP rfl,aP rfl,rfl,rfl,bp.refl _,bj _ _⟩
open Go Go.V
def Qn:Code→Option (List Tmp×Code×Code)
 | .rangeFunc _ ps a b=>some (ps.toList,a,b)
 | .seq a b=>match Qn a with
   | some x=>some x
   | none=>Qn b
 | .cond _ a b=>match Qn a with
   | some x=>some x
   | none=>Qn b
 | .block _ a=>Qn a
 | .loop a=>Qn a
 | _=>none
noncomputable def F0 (f:FuncId):Code:=match Qn (nV f) with
 | some x=>x.2.1
 | none=>.skip
noncomputable def Gt (f:FuncId):Code:=match Qn (nV f) with
 | some x=>x.2.2
 | none=>.skip
noncomputable def YI (X:iZ) (f:FuncId) (r:Nat) (Q:D→List ae→Prop) (sl:aG) (rs:List ae):Prop:=
 sI mn Tryd.prog X hints (wS f).ntmps f (some r) cM (fun _ _=>False) (PV r Q) 10000 false [.code (F0 f),.beginRound,.code (Gt f)] ⟨sl,rs,[]⟩
theorem VZ {X:iZ} {f:FuncId} {r:Nat} {Ap Ft:aG} {ps:List Tmp} {ds:List D} {rs:List ae} {d:D} {aE:List ae} (hr:rs[r]?=some (.loop f (wS f).ntmps Ap ps (F0 f) (Gt f) .ready none)) (Ll:K8 (wS f).ntmps ps ds Ap=some Ft) (h:YI X f r (Go.V.Ends rs d aE) Ft rs):rk mn Tryd.prog r ds rs d aE:=
 HA rY hr Ll fun b cs hb=>zN (L:=fun _ _=>False) rY mixed hb (fun _ _ q=>q.elim) (fun _ _ q=>q) 10000 h
def Qo (b:Bool) (x:Option ae):ae:=match x with
 | some (.loop f N sl ps c d _ _)=>.loop f N sl ps c d (bif b then .ready else .done) (bif b then none else some .ret)
 | _=>.dead
noncomputable def Gj (n:Nat) (sl:aG):Bool:=List.rec true (fun x _ ih=>Bool.rec false ih (iR n x.2.1)) sl
theorem qZ {n:Nat}:∀ {sl:aG},Gj n sl=true→∀ x∈sl,iR n x.2.1=true
 | [],_,x,hx=>by cases hx
 | y::l,h,x,hx=>by
   obtain ⟨h1,h2⟩:=Bool.fU (show (Bool.rec false (Gj n l) (iR n y.2.1):Bool)=true from h)
   rcases List.mem_cons.1 hx with rfl|hx
   ·exact h1
   ·exact qZ h2 x hx
def eG (n:Nat):List ae→Prop
 | []=>True
 | x::l=>ib n x∧eG n l
theorem eG.mem {n:Nat}:∀ {l:List ae},eG n l→∀ x∈l,ib n x
 | [],_,x,hx=>by cases hx
 | y::l,h,x,hx=>by
   rcases List.mem_cons.1 hx with rfl|hx
   ·exact h.1
   ·exact eG.mem h.2 x hx
theorem eG.mono {n m:Nat} (Y1:n≤m):∀ {l:List ae},eG n l→eG m l
 | [],_=>trivial
 | _::_,h=>⟨h.1.mono Y1,eG.mono Y1 h.2⟩
theorem Jg {n:Nat} {f N:Nat} {sl:aG} {ps:List Tmp} {a b:Code} {st:LoopState} {pd:Option Code} (h:Gj n sl=true):ib n (.loop f N sl ps a b st pd):=
 .inr ⟨f,N,sl,ps,a,b,st,pd,rfl,fun t d c q=>qZ h _ (gV q)⟩
theorem ah.cut {f:FuncId} {n0:Nat} {Q:D→List ae→Prop} {todo:List Item} {s:VS} (n:Nat) (h0:n0≤n) (hn:n≤s.rs.length) (FO:Gj n s.sl=true) (Ie:s.df=[]) (Il:eG n (s.rs.take n)) (g:ah f n0 Q todo ⟨s.sl,s.rs.take n,s.df⟩):ah f n0 Q todo s:=
 fun b cs hb=>Goal.ghost (g b cs hb) fun aw w0 sp a w E dA vR hR oZ=>by
  refine ⟨E.take n,by rw [List.take_take,Nat.min_eq_left h0],?_,oZ⟩
  exact hR.cut hn (fun x hx=>nI h0 (dA x hx)) (fun t d q=>qZ FO _ (gV q)) (fun t d c q=>oZ _ (gV q)) (by rw [Ie]; intro r hr; cases hr) (fun q x e=>Il.mem x (List.mem_of_getElem? e))
open Go Go.V
noncomputable def EV (p:Int→Bool):iZ:={ F:=F8,S:=[14],FY:=fun r ds rs=>(bool (p (aI ds 0)),[(r,Qo (p (aI ds 0)) (aY rs r))],[]) }
def allM (p:Int→Bool) (e:ag):Bool:=cL (fun j=>cL (fun i=>p ((e.frames.get j).vars.get i)) (e.frames.get j).vars.n) e.frames.n&&cL (fun j=>cL (fun i=>p ((e.aC.get j).items.get i)) (e.aC.get j).items.n) e.aC.n
def qD:Nat→Bool:=fun i=>Nat.beq i 1||Nat.beq i 4||Nat.beq i 10||Nat.beq i 13
theorem XP:Fn 89:=⟨by kernel_rfl,by kernel_rfl⟩
noncomputable abbrev mA:jr:=(0,((.c (.yl 14)),[]))
noncomputable abbrev yo:jr:=(1,((.c (.rt 12 0 0)),[]))
noncomputable abbrev tS (ax:ag):D:=.c (.im (.sl 3 ax.1.1 (fun i=>cK (ax.frames.2 i))))
noncomputable abbrev kC (ax:ag):D:=int (↑ax.1.1:Int)
noncomputable abbrev ea (ax:ag):ae:=.box (lift (ba (ax)))
noncomputable abbrev kA (ax aX:Nat) (aN:aG) (cq:List Tmp) (ct dJ:Code):ae:=.loop ax aX aN cq ct dJ .ready none
theorem Yd (L:LP) (QE:D→List ae→Prop) (p:Int→Bool) (e:ag) (r0 r1 r2 r3 r4 r5 r6 r7 r8 r9 dF dE ey:ae) (f N:Nat) (sl:aG) (ps:List Tmp) (ca cb:Code) (h:L (aj 89 1) ⟨[mA,yo,(12,((tS e),[])),(13,((kC e),[])),(14,((int 0),[]))],[r0,r1,r2,r3,r4,r5,r6,r7,r8,r9,dF,dE,(ea e),ey,(kA f N sl ps ca cb)],[]⟩):gL (EV p) 89 qD L QE [.c (.yl 14),.c (.rt 12 0 0)] [r0,r1,r2,r3,r4,r5,r6,r7,r8,r9,dF,dE,.box (lift (ba e)),ey,.loop f N sl ps ca cb .ready none]:=Eq.mp (by kernel_rfl) h
noncomputable abbrev ze:jr:=(0,(.c (.yl 14)),[])
noncomputable def D6 (p:Int→Bool) (e:ag) (r0 r1 r2 r3 r4 r5 r6 r7 r8 r9 dF dE ey:ae) (f N:Nat) (sl:aG) (ps:List Tmp) (ca cb:Code) (j:Nat):VS:=⟨[ze,(1,(.c (.rt 12 0 0)),[]),(12,(tS e),[]),(13,(kC e),[]),(14,int j,[])],[r0,r1,r2,r3,r4,r5,r6,r7,r8,r9,dF,dE,(ea e),ey,(kA f N sl ps ca cb)],[]⟩
noncomputable abbrev ua (ax:ag) (aX:Nat):ae:=.box (lift (jb (ax.frames.2 aX)))
noncomputable abbrev xw (ax:ag):D:=.c (.im (.sl 4 ax.2.1 (fun i=>e5 (ax.aC.2 i))))
noncomputable abbrev lH (ax:ag):D:=int (↑ax.2.1:Int)
theorem Mf (L:LP) (QE:D→List ae→Prop) (p:Int→Bool) (e:ag) (r0 r1 r2 r3 r4 r5 r6 r7 r8 r9 dF dE ey:ae) (f N:Nat) (sl:aG) (ps:List Tmp) (ca cb:Code) (j:Nat) (h:br (decide ((↑j:Int)<(↑e.1.1:Int))) (nd (cC (↑j:Int) e.1.1) (L (aj 89 4) ⟨[mA,yo,(12,((tS e),[])),(13,((kC e),[])),(14,((int (↑j:Int)),[])),(19,((.c (.im (.sl 1 ((e.frames.2 j).3.1) (fun i=>cg ((e.frames.get (↑j:Int).toNat).vars.2 i))))),[])),(20,((int ((↑(e.frames.2 j).3.1:Int))),[])),(21,((int 0),[]))],[r0,r1,r2,r3,r4,r5,r6,r7,r8,r9,dF,dE,(ea e),ey,(kA f N sl ps ca cb),(ua e j)],[]⟩)) (L (aj 89 10) ⟨[mA,(32,((xw e),[])),(33,((lH e),[])),(34,((int 0),[]))],[r0,r1,r2,r3,r4,r5,r6,r7,r8,r9,dF,dE,(ea e),ey,(kA f N sl ps ca cb)],[]⟩)):dh (EV p) 89 qD L QE 1 (D6 p e r0 r1 r2 r3 r4 r5 r6 r7 r8 r9 dF dE ey f N sl ps ca cb j):=Eq.mp (by kernel_rfl) h
noncomputable def MF (p:Int→Bool) (e:ag) (r0 r1 r2 r3 r4 r5 r6 r7 r8 r9 dF dE ey:ae) (f N:Nat) (sl:aG) (ps:List Tmp) (ca cb:Code) (j i:Nat):VS:=⟨[ze,(1,(.c (.rt 12 0 0)),[]),(12,(.c (.im (.sl 3 e.1.1 (fun i=>cK (e.frames.2 i))))),[]),(13,(kC e),[]),(14,int j,[]),(19,(.c (.im (.sl 1 ((e.frames.2 j).3.1) (fun i=>cg ((e.frames.get (↑j:Int).toNat).vars.2 i))))),[]),(20,(int ((↑(e.frames.2 j).3.1:Int))),[]),(21,int i,[])],[r0,r1,r2,r3,r4,r5,r6,r7,r8,r9,dF,dE,(ea e),ey,(kA f N sl ps ca cb),(ua e j)],[]⟩
theorem Io (L:LP) (QE:D→List ae→Prop) (p:Int→Bool) (e:ag) (r0 r1 r2 r3 r4 r5 r6 r7 r8 r9 dF dE ey:ae) (f N:Nat) (sl:aG) (ps:List Tmp) (ca cb:Code) (j i:Nat) (h:br (decide ((↑i:Int)<(↑(e.frames.2 j).3.1:Int))) (nd (cC (↑i:Int) (e.frames.2 j).3.1) ((rk mn Tryd.prog 14 [(int ((e.frames.get (↑j:Int).toNat).vars.2 i))] [r0,r1,r2,r3,r4,r5,r6,r7,r8,r9,dF,dE,(.box (lift (ba (e)))),ey,(.loop f N sl ps ca cb .ready none),(.box (lift (jb (e.frames.2 j))))] (bool (p ((e.frames.get (↑j:Int).toNat).vars.2 i))) [r0,r1,r2,r3,r4,r5,r6,r7,r8,r9,dF,dE,(.box (lift (ba (e)))),ey,(.loop f N sl ps ca cb (bif p ((e.frames.get (↑j:Int).toNat).vars.2 i) then LoopState.ready else LoopState.done) (bif p ((e.frames.get (↑j:Int).toNat).vars.2 i) then none else some Code.ret)),(.box (lift (jb (e.frames.2 j))))]∧br (!p ((e.frames.get (↑j:Int).toNat).vars.2 i)) (QE (.t []) [r0,r1,r2,r3,r4,r5,r6,r7,r8,r9,dF,dE,(.box (lift (ba (e)))),ey,(.loop f N sl ps ca cb (bif p ((e.frames.get (↑j:Int).toNat).vars.2 i) then LoopState.ready else LoopState.done) (bif p ((e.frames.get (↑j:Int).toNat).vars.2 i) then none else some Code.ret)),(.box (lift (jb (e.frames.2 j))))]) (L (aj 89 4) ⟨[mA,yo,(12,((.c (.im (.sl 3 e.1.1 (fun i=>cK (e.frames.2 i))))),[])),(13,((kC e),[])),(14,((int (↑j:Int)),[])),(19,((.c (.im (.sl 1 ((e.frames.2 j).3.1) (fun i=>cg ((e.frames.get (↑j:Int).toNat).vars.2 i))))),[])),(20,((int ((↑(e.frames.2 j).3.1:Int))),[])),(21,((int (IntKind.i64.wrap ((↑i:Int)+1))),[]))],[r0,r1,r2,r3,r4,r5,r6,r7,r8,r9,dF,dE,(ea e),ey,(.loop f N sl ps ca cb (bif p ((e.frames.get (↑j:Int).toNat).vars.2 i) then LoopState.ready else LoopState.done) (bif p ((e.frames.get (↑j:Int).toNat).vars.2 i) then none else some Code.ret)),(ua e j)],[]⟩)))) (L (aj 89 1) ⟨[mA,yo,(12,((.c (.im (.sl 3 e.1.1 (fun i=>cK (e.frames.2 i))))),[])),(13,((kC e),[])),(14,((int (IntKind.i64.wrap ((↑j:Int)+1))),[]))],[r0,r1,r2,r3,r4,r5,r6,r7,r8,r9,dF,dE,(ea e),ey,(kA f N sl ps ca cb),(ua e j)],[]⟩)):dh (EV p) 89 qD L QE 4 (MF p e r0 r1 r2 r3 r4 r5 r6 r7 r8 r9 dF dE ey f N sl ps ca cb j i):=Eq.mp (by kernel_rfl) h
noncomputable def Aj (p:Int→Bool) (e:ag) (r0 r1 r2 r3 r4 r5 r6 r7 r8 r9 dF dE ey:ae) (f N:Nat) (sl:aG) (ps:List Tmp) (ca cb:Code) (j:Nat):VS:=⟨[ze,(32,(xw e),[]),(33,(lH e),[]),(34,int j,[])],[r0,r1,r2,r3,r4,r5,r6,r7,r8,r9,dF,dE,(ea e),ey,(kA f N sl ps ca cb)],[]⟩
noncomputable abbrev pG (ax:ag) (aX:Nat):ae:=.box (lift (lZ (ax.aC.2 aX)))
theorem FJ (L:LP) (QE:D→List ae→Prop) (p:Int→Bool) (e:ag) (r0 r1 r2 r3 r4 r5 r6 r7 r8 r9 dF dE ey:ae) (f N:Nat) (sl:aG) (ps:List Tmp) (ca cb:Code) (j:Nat) (h:br (decide ((↑j:Int)<(↑e.2.1:Int))) (nd (cC (↑j:Int) e.2.1) (L (aj 89 13) ⟨[mA,(32,((xw e),[])),(33,((lH e),[])),(34,((int (↑j:Int)),[])),(39,((.c (.im (.sl 1 ((e.aC.2 j).4.1) (fun i=>cg ((e.aC.get (↑j:Int).toNat).items.2 i))))),[])),(40,((int ((↑(e.aC.2 j).4.1:Int))),[])),(41,((int 0),[]))],[r0,r1,r2,r3,r4,r5,r6,r7,r8,r9,dF,dE,(ea e),ey,(kA f N sl ps ca cb),(pG e j)],[]⟩)) (QE (.t []) [r0,r1,r2,r3,r4,r5,r6,r7,r8,r9,dF,dE,(.box (lift (ba (e)))),ey,(.loop f N sl ps ca cb .ready none)])):dh (EV p) 89 qD L QE 10 (Aj p e r0 r1 r2 r3 r4 r5 r6 r7 r8 r9 dF dE ey f N sl ps ca cb j):=Eq.mp (by kernel_rfl) h
noncomputable def FL (p:Int→Bool) (e:ag) (r0 r1 r2 r3 r4 r5 r6 r7 r8 r9 dF dE ey:ae) (f N:Nat) (sl:aG) (ps:List Tmp) (ca cb:Code) (j i:Nat):VS:=⟨[ze,(32,(.c (.im (.sl 4 e.2.1 (fun i=>e5 (e.aC.2 i))))),[]),(33,(lH e),[]),(34,int j,[]),(39,(.c (.im (.sl 1 ((e.aC.2 j).4.1) (fun i=>cg ((e.aC.get (↑j:Int).toNat).items.2 i))))),[]),(40,(int ((↑(e.aC.2 j).4.1:Int))),[]),(41,int i,[])],[r0,r1,r2,r3,r4,r5,r6,r7,r8,r9,dF,dE,(ea e),ey,(kA f N sl ps ca cb),(pG e j)],[]⟩
theorem FD (L:LP) (QE:D→List ae→Prop) (p:Int→Bool) (e:ag) (r0 r1 r2 r3 r4 r5 r6 r7 r8 r9 dF dE ey:ae) (f N:Nat) (sl:aG) (ps:List Tmp) (ca cb:Code) (j i:Nat) (h:br (decide ((↑i:Int)<(↑(e.aC.2 j).4.1:Int))) (nd (cC (↑i:Int) (e.aC.2 j).4.1) ((rk mn Tryd.prog 14 [(int ((e.aC.get (↑j:Int).toNat).items.2 i))] [r0,r1,r2,r3,r4,r5,r6,r7,r8,r9,dF,dE,(.box (lift (ba (e)))),ey,(.loop f N sl ps ca cb .ready none),(.box (lift (lZ (e.aC.2 j))))] (bool (p ((e.aC.get (↑j:Int).toNat).items.2 i))) [r0,r1,r2,r3,r4,r5,r6,r7,r8,r9,dF,dE,(.box (lift (ba (e)))),ey,(.loop f N sl ps ca cb (bif p ((e.aC.get (↑j:Int).toNat).items.2 i) then LoopState.ready else LoopState.done) (bif p ((e.aC.get (↑j:Int).toNat).items.2 i) then none else some Code.ret)),(.box (lift (lZ (e.aC.2 j))))]∧br (!p ((e.aC.get (↑j:Int).toNat).items.2 i)) (QE (.t []) [r0,r1,r2,r3,r4,r5,r6,r7,r8,r9,dF,dE,(.box (lift (ba (e)))),ey,(.loop f N sl ps ca cb (bif p ((e.aC.get (↑j:Int).toNat).items.2 i) then LoopState.ready else LoopState.done) (bif p ((e.aC.get (↑j:Int).toNat).items.2 i) then none else some Code.ret)),(.box (lift (lZ (e.aC.2 j))))]) (L (aj 89 13) ⟨[mA,(32,((.c (.im (.sl 4 e.2.1 (fun i=>e5 (e.aC.2 i))))),[])),(33,((lH e),[])),(34,((int (↑j:Int)),[])),(39,((.c (.im (.sl 1 ((e.aC.2 j).4.1) (fun i=>cg ((e.aC.get (↑j:Int).toNat).items.2 i))))),[])),(40,((int ((↑(e.aC.2 j).4.1:Int))),[])),(41,((int (IntKind.i64.wrap ((↑i:Int)+1))),[]))],[r0,r1,r2,r3,r4,r5,r6,r7,r8,r9,dF,dE,(ea e),ey,(.loop f N sl ps ca cb (bif p ((e.aC.get (↑j:Int).toNat).items.2 i) then LoopState.ready else LoopState.done) (bif p ((e.aC.get (↑j:Int).toNat).items.2 i) then none else some Code.ret)),(pG e j)],[]⟩)))) (L (aj 89 10) ⟨[mA,(32,((.c (.im (.sl 4 e.2.1 (fun i=>e5 (e.aC.2 i))))),[])),(33,((lH e),[])),(34,((int (IntKind.i64.wrap ((↑j:Int)+1))),[]))],[r0,r1,r2,r3,r4,r5,r6,r7,r8,r9,dF,dE,(ea e),ey,(kA f N sl ps ca cb),(pG e j)],[]⟩)):dh (EV p) 89 qD L QE 13 (FL p e r0 r1 r2 r3 r4 r5 r6 r7 r8 r9 dF dE ey f N sl ps ca cb j i):=Eq.mp (by kernel_rfl) h
theorem O3 (p:Int→Bool) (e:ag) (r0 r1 r2 r3 r4 r5 r6 r7 r8 r9 dF dE ey:ae) (f N:Nat) (sl:aG) (ps:List Tmp) (ca cb:Code) (hy:∀ (n:Int) (x:ae),rk mn Tryd.prog 14 [int n] [r0,r1,r2,r3,r4,r5,r6,r7,r8,r9,dF,dE,.box (lift (ba e)),ey,.loop f N sl ps ca cb .ready none,x] (bool (p n)) [r0,r1,r2,r3,r4,r5,r6,r7,r8,r9,dF,dE,.box (lift (ba e)),ey,.loop f N sl ps ca cb (bif p n then .ready else .done) (bif p n then none else some .ret),x]) (hS:ku e) (hw:eG 15 [r0,r1,r2,r3,r4,r5,r6,r7,r8,r9,dF,dE,.box (lift (ba e)),ey,.loop f N sl ps ca cb .ready none]) (a:Bool) (j:Nat) (hj:j<e.aC.n) (end_:b5 (fun j=>cL (fun i=>p ((e.aC.get j).items.get i)) (e.aC.get j).items.n) (e.aC.n-(j+1)) (j+1)=a→ah 89 15 (Go.V.Ends [r0,r1,r2,r3,r4,r5,r6,r7,r8,r9,dF,dE,.box (lift (ba e)),ey,.loop f N sl ps ca cb .ready none] (.t []) [r0,r1,r2,r3,r4,r5,r6,r7,r8,r9,dF,dE,.box (lift (ba e)),ey,.loop f N sl ps ca cb (bif a then .ready else .done) (bif a then none else some .ret)]) (aj 89 10) (Aj p e r0 r1 r2 r3 r4 r5 r6 r7 r8 r9 dF dE ey f N sl ps ca cb (j+1))):∀ i,i≤(e.aC.get j).items.n→(b5 (fun i=>p ((e.aC.get j).items.get i)) ((e.aC.get j).items.n-i) i&&b5 (fun j=>cL (fun i=>p ((e.aC.get j).items.get i)) (e.aC.get j).items.n) (e.aC.n-(j+1)) (j+1))=a→ah 89 15 (Go.V.Ends [r0,r1,r2,r3,r4,r5,r6,r7,r8,r9,dF,dE,.box (lift (ba e)),ey,.loop f N sl ps ca cb .ready none] (.t []) [r0,r1,r2,r3,r4,r5,r6,r7,r8,r9,dF,dE,.box (lift (ba e)),ey,.loop f N sl ps ca cb (bif a then .ready else .done) (bif a then none else some .ret)]) (aj 89 13) (FL p e r0 r1 r2 r3 r4 r5 r6 r7 r8 r9 dF dE ey f N sl ps ca cb j i):=by
 have hV:(e.aC.get j).items.n≤1000:=hS.items j hj
 have hN:e.aC.n≤1000:=hS.aC
 refine bo (fun i hi ih ha=>?_) (fun ha=>?_)
 ·have q:(e.aC.get j).items.n-i=((e.aC.get j).items.n-(i+1))+1:=by omega
  rw [q] at ha
  refine aH (X:=EV p) (stop:=qD) (FD _ _ p e r0 r1 r2 r3 r4 r5 r6 r7 r8 r9 dF dE ey f N sl ps ca cb j i ?_)
  rw [cd hi (bU hV (by decide))]
  refine ay (fun h=>?_) (fun h=>(dec_lt h hi).elim)
  refine aA (au hi) ⟨hy _ _,?_⟩
  refine ay (fun h1=>?_) (fun h1=>?_)
  ·have h1:=(Bool.not_eq_true' _).mp h1
   rw [h1]
   rw [fj (p:=(fun i=>p ((e.aC.get j).items.get i))) h1,Bool.false_and] at ha
   subst ha
   refine ⟨15,aP rfl,aP rfl,rfl,rfl,bp.refl _,?_⟩
   repeat' (first|exact trivial|refine ⟨.inl (.inl rfl),?_⟩|refine ⟨.inl (.inr ⟨_,_,_,_,_,_,_,_,_,_,rfl,rfl⟩),?_⟩|done)
  ·have h1:=(Bool.not_eq_false' _▸h1:p _=true)
   rw [h1]
   rw [gN (p:=(fun i=>p ((e.aC.get j).items.get i))) h1] at ha
   exact ih ha
 ·rw [Nat.sub_self] at ha
  refine aH (X:=EV p) (stop:=qD) (FD _ _ p e r0 r1 r2 r3 r4 r5 r6 r7 r8 r9 dF dE ey f N sl ps ca cb j _ ?_)
  rw [cd hj (bU hN (by decide))]
  refine ay (fun h=>cE h) (fun h=>?_)
  exact ah.cut 15 (bf _) (aP rfl) rfl rfl hw (end_ (by simpa [b5] using ha))
theorem Oi (p:Int→Bool) (e:ag) (r0 r1 r2 r3 r4 r5 r6 r7 r8 r9 dF dE ey:ae) (f N:Nat) (sl:aG) (ps:List Tmp) (ca cb:Code) (hy:∀ (n:Int) (x:ae),rk mn Tryd.prog 14 [int n] [r0,r1,r2,r3,r4,r5,r6,r7,r8,r9,dF,dE,.box (lift (ba e)),ey,.loop f N sl ps ca cb .ready none,x] (bool (p n)) [r0,r1,r2,r3,r4,r5,r6,r7,r8,r9,dF,dE,.box (lift (ba e)),ey,.loop f N sl ps ca cb (bif p n then .ready else .done) (bif p n then none else some .ret),x]) (hS:ku e) (hw:eG 15 [r0,r1,r2,r3,r4,r5,r6,r7,r8,r9,dF,dE,.box (lift (ba e)),ey,.loop f N sl ps ca cb .ready none]) (a:Bool):∀ j,j≤e.aC.n→(b5 (fun j=>cL (fun i=>p ((e.aC.get j).items.get i)) (e.aC.get j).items.n) (e.aC.n-j) j)=a→ah 89 15 (Go.V.Ends [r0,r1,r2,r3,r4,r5,r6,r7,r8,r9,dF,dE,.box (lift (ba e)),ey,.loop f N sl ps ca cb .ready none] (.t []) [r0,r1,r2,r3,r4,r5,r6,r7,r8,r9,dF,dE,.box (lift (ba e)),ey,.loop f N sl ps ca cb (bif a then .ready else .done) (bif a then none else some .ret)]) (aj 89 10) (Aj p e r0 r1 r2 r3 r4 r5 r6 r7 r8 r9 dF dE ey f N sl ps ca cb j):=by
 have hN:e.aC.n≤1000:=hS.aC
 refine bo (fun j hj ih ha=>?_) (fun ha=>?_)
 ·have q:e.aC.n-j=(e.aC.n-(j+1))+1:=by omega
  rw [q] at ha
  refine aH (X:=EV p) (stop:=qD) (FJ _ _ p e r0 r1 r2 r3 r4 r5 r6 r7 r8 r9 dF dE ey f N sl ps ca cb j ?_)
  refine ay (fun h=>?_) (fun h=>(dec_lt h hj).elim)
  refine aA (au hj) ?_
  refine O3 p e r0 r1 r2 r3 r4 r5 r6 r7 r8 r9 dF dE ey f N sl ps ca cb hy hS hw a j hj (fun q=>ih q) 0 (bB _) ?_
  have e2:b5 (fun j=>cL (fun i=>p ((e.aC.get j).items.get i)) (e.aC.get j).items.n) (e.aC.n-(j+1)+1) j=(b5 (fun i=>p ((e.aC.get j).items.get i)) (e.aC.get j).items.n 0&&b5 (fun j=>cL (fun i=>p ((e.aC.get j).items.get i)) (e.aC.get j).items.n) (e.aC.n-(j+1)) (j+1)):=by
   show (bif cL (fun i=>p ((e.aC.get j).items.get i)) (e.aC.get j).items.n then b5 (fun j=>cL (fun i=>p ((e.aC.get j).items.get i)) (e.aC.get j).items.n) (e.aC.n-(j+1)) (j+1) else false)=_
   unfold cL
   cases b5 (fun i=>p ((e.aC.get j).items.get i)) (e.aC.get j).items.n 0<;>rfl
  rw [e2] at ha
  rw [Nat.sub_zero]
  simpa [Bool.and_assoc] using ha
 ·rw [Nat.sub_self] at ha
  refine aH (X:=EV p) (stop:=qD) (FJ _ _ p e r0 r1 r2 r3 r4 r5 r6 r7 r8 r9 dF dE ey f N sl ps ca cb _ ?_)
  refine ay (fun h=>cE h) (fun h=>?_)
  have ha:true=a:=ha
  subst ha
  refine ⟨15,aP rfl,aP rfl,rfl,rfl,bp.refl _,?_⟩
  repeat' (first|exact trivial|refine ⟨.inl (.inl rfl),?_⟩|refine ⟨.inl (.inr ⟨_,_,_,_,_,_,_,_,_,_,rfl,rfl⟩),?_⟩|done)
theorem Sf (p:Int→Bool) (e:ag) (r0 r1 r2 r3 r4 r5 r6 r7 r8 r9 dF dE ey:ae) (f N:Nat) (sl:aG) (ps:List Tmp) (ca cb:Code) (hy:∀ (n:Int) (x:ae),rk mn Tryd.prog 14 [int n] [r0,r1,r2,r3,r4,r5,r6,r7,r8,r9,dF,dE,.box (lift (ba e)),ey,.loop f N sl ps ca cb .ready none,x] (bool (p n)) [r0,r1,r2,r3,r4,r5,r6,r7,r8,r9,dF,dE,.box (lift (ba e)),ey,.loop f N sl ps ca cb (bif p n then .ready else .done) (bif p n then none else some .ret),x]) (hS:ku e) (hw:eG 15 [r0,r1,r2,r3,r4,r5,r6,r7,r8,r9,dF,dE,.box (lift (ba e)),ey,.loop f N sl ps ca cb .ready none]) (a:Bool) (j:Nat) (hj:j<e.frames.n) (end_:(b5 (fun j=>cL (fun i=>p ((e.frames.get j).vars.get i)) (e.frames.get j).vars.n) (e.frames.n-(j+1)) (j+1)&&cL (fun j=>cL (fun i=>p ((e.aC.get j).items.get i)) (e.aC.get j).items.n) e.aC.n)=a→ah 89 15 (Go.V.Ends [r0,r1,r2,r3,r4,r5,r6,r7,r8,r9,dF,dE,.box (lift (ba e)),ey,.loop f N sl ps ca cb .ready none] (.t []) [r0,r1,r2,r3,r4,r5,r6,r7,r8,r9,dF,dE,.box (lift (ba e)),ey,.loop f N sl ps ca cb (bif a then .ready else .done) (bif a then none else some .ret)]) (aj 89 1) (D6 p e r0 r1 r2 r3 r4 r5 r6 r7 r8 r9 dF dE ey f N sl ps ca cb (j+1))):∀ i,i≤(e.frames.get j).vars.n→(b5 (fun i=>p ((e.frames.get j).vars.get i)) ((e.frames.get j).vars.n-i) i&&(b5 (fun j=>cL (fun i=>p ((e.frames.get j).vars.get i)) (e.frames.get j).vars.n) (e.frames.n-(j+1)) (j+1)&&cL (fun j=>cL (fun i=>p ((e.aC.get j).items.get i)) (e.aC.get j).items.n) e.aC.n))=a→ah 89 15 (Go.V.Ends [r0,r1,r2,r3,r4,r5,r6,r7,r8,r9,dF,dE,.box (lift (ba e)),ey,.loop f N sl ps ca cb .ready none] (.t []) [r0,r1,r2,r3,r4,r5,r6,r7,r8,r9,dF,dE,.box (lift (ba e)),ey,.loop f N sl ps ca cb (bif a then .ready else .done) (bif a then none else some .ret)]) (aj 89 4) (MF p e r0 r1 r2 r3 r4 r5 r6 r7 r8 r9 dF dE ey f N sl ps ca cb j i):=by
 have hV:(e.frames.get j).vars.n≤1000:=hS.vars j hj
 have hN:e.frames.n≤1000:=hS.frames
 refine bo (fun i hi ih ha=>?_) (fun ha=>?_)
 ·have q:(e.frames.get j).vars.n-i=((e.frames.get j).vars.n-(i+1))+1:=by omega
  rw [q] at ha
  refine aH (X:=EV p) (stop:=qD) (Io _ _ p e r0 r1 r2 r3 r4 r5 r6 r7 r8 r9 dF dE ey f N sl ps ca cb j i ?_)
  rw [cd hi (bU hV (by decide))]
  refine ay (fun h=>?_) (fun h=>(dec_lt h hi).elim)
  refine aA (au hi) ⟨hy _ _,?_⟩
  refine ay (fun h1=>?_) (fun h1=>?_)
  ·have h1:=(Bool.not_eq_true' _).mp h1
   rw [h1]
   rw [fj (p:=(fun i=>p ((e.frames.get j).vars.get i))) h1,Bool.false_and] at ha
   subst ha
   refine ⟨15,aP rfl,aP rfl,rfl,rfl,bp.refl _,?_⟩
   repeat' (first|exact trivial|refine ⟨.inl (.inl rfl),?_⟩|refine ⟨.inl (.inr ⟨_,_,_,_,_,_,_,_,_,_,rfl,rfl⟩),?_⟩|done)
  ·have h1:=(Bool.not_eq_false' _▸h1:p _=true)
   rw [h1]
   rw [gN (p:=(fun i=>p ((e.frames.get j).vars.get i))) h1] at ha
   exact ih ha
 ·rw [Nat.sub_self] at ha
  refine aH (X:=EV p) (stop:=qD) (Io _ _ p e r0 r1 r2 r3 r4 r5 r6 r7 r8 r9 dF dE ey f N sl ps ca cb j _ ?_)
  rw [cd hj (bU hN (by decide))]
  refine ay (fun h=>cE h) (fun h=>?_)
  exact ah.cut 15 (bf _) (aP rfl) rfl rfl hw (end_ (by simpa [b5] using ha))
theorem Tf (p:Int→Bool) (e:ag) (r0 r1 r2 r3 r4 r5 r6 r7 r8 r9 dF dE ey:ae) (f N:Nat) (sl:aG) (ps:List Tmp) (ca cb:Code) (hy:∀ (n:Int) (x:ae),rk mn Tryd.prog 14 [int n] [r0,r1,r2,r3,r4,r5,r6,r7,r8,r9,dF,dE,.box (lift (ba e)),ey,.loop f N sl ps ca cb .ready none,x] (bool (p n)) [r0,r1,r2,r3,r4,r5,r6,r7,r8,r9,dF,dE,.box (lift (ba e)),ey,.loop f N sl ps ca cb (bif p n then .ready else .done) (bif p n then none else some .ret),x]) (hS:ku e) (hw:eG 15 [r0,r1,r2,r3,r4,r5,r6,r7,r8,r9,dF,dE,.box (lift (ba e)),ey,.loop f N sl ps ca cb .ready none]) (a:Bool):∀ j,j≤e.frames.n→(b5 (fun j=>cL (fun i=>p ((e.frames.get j).vars.get i)) (e.frames.get j).vars.n) (e.frames.n-j) j&&cL (fun j=>cL (fun i=>p ((e.aC.get j).items.get i)) (e.aC.get j).items.n) e.aC.n)=a→ah 89 15 (Go.V.Ends [r0,r1,r2,r3,r4,r5,r6,r7,r8,r9,dF,dE,.box (lift (ba e)),ey,.loop f N sl ps ca cb .ready none] (.t []) [r0,r1,r2,r3,r4,r5,r6,r7,r8,r9,dF,dE,.box (lift (ba e)),ey,.loop f N sl ps ca cb (bif a then .ready else .done) (bif a then none else some .ret)]) (aj 89 1) (D6 p e r0 r1 r2 r3 r4 r5 r6 r7 r8 r9 dF dE ey f N sl ps ca cb j):=by
 have hN:e.frames.n≤1000:=hS.frames
 refine bo (fun j hj ih ha=>?_) (fun ha=>?_)
 ·have q:e.frames.n-j=(e.frames.n-(j+1))+1:=by omega
  rw [q] at ha
  refine aH (X:=EV p) (stop:=qD) (Mf _ _ p e r0 r1 r2 r3 r4 r5 r6 r7 r8 r9 dF dE ey f N sl ps ca cb j ?_)
  refine ay (fun h=>?_) (fun h=>(dec_lt h hj).elim)
  refine aA (au hj) ?_
  refine Sf p e r0 r1 r2 r3 r4 r5 r6 r7 r8 r9 dF dE ey f N sl ps ca cb hy hS hw a j hj (fun q=>ih q) 0 (bB _) ?_
  have e2:b5 (fun j=>cL (fun i=>p ((e.frames.get j).vars.get i)) (e.frames.get j).vars.n) (e.frames.n-(j+1)+1) j=(b5 (fun i=>p ((e.frames.get j).vars.get i)) (e.frames.get j).vars.n 0&&b5 (fun j=>cL (fun i=>p ((e.frames.get j).vars.get i)) (e.frames.get j).vars.n) (e.frames.n-(j+1)) (j+1)):=by
   show (bif cL (fun i=>p ((e.frames.get j).vars.get i)) (e.frames.get j).vars.n then b5 (fun j=>cL (fun i=>p ((e.frames.get j).vars.get i)) (e.frames.get j).vars.n) (e.frames.n-(j+1)) (j+1) else false)=_
   unfold cL
   cases b5 (fun i=>p ((e.frames.get j).vars.get i)) (e.frames.get j).vars.n 0<;>rfl
  rw [e2] at ha
  rw [Nat.sub_zero]
  simpa [Bool.and_assoc] using ha
 ·rw [Nat.sub_self] at ha
  refine aH (X:=EV p) (stop:=qD) (Mf _ _ p e r0 r1 r2 r3 r4 r5 r6 r7 r8 r9 dF dE ey f N sl ps ca cb _ ?_)
  refine ay (fun h=>cE h) (fun h=>?_)
  exact Oi p e r0 r1 r2 r3 r4 r5 r6 r7 r8 r9 dF dE ey f N sl ps ca cb hy hS hw a 0 (bB _) (by simpa [b5,cL] using ha)
theorem T4 (p:Int→Bool) (e:ag) (r0 r1 r2 r3 r4 r5 r6 r7 r8 r9 dF dE ey:ae) (f N:Nat) (sl:aG) (ps:List Tmp) (ca cb:Code) (hy:∀ (n:Int) (x:ae),rk mn Tryd.prog 14 [int n] [r0,r1,r2,r3,r4,r5,r6,r7,r8,r9,dF,dE,.box (lift (ba e)),ey,.loop f N sl ps ca cb .ready none,x] (bool (p n)) [r0,r1,r2,r3,r4,r5,r6,r7,r8,r9,dF,dE,.box (lift (ba e)),ey,.loop f N sl ps ca cb (bif p n then .ready else .done) (bif p n then none else some .ret),x]) (hS:ku e) (hw:eG 15 [r0,r1,r2,r3,r4,r5,r6,r7,r8,r9,dF,dE,.box (lift (ba e)),ey,.loop f N sl ps ca cb .ready none]):LC 89 [.c (.yl 14),.c (.rt 12 0 0)] [r0,r1,r2,r3,r4,r5,r6,r7,r8,r9,dF,dE,.box (lift (ba e)),ey,.loop f N sl ps ca cb .ready none] (.t []) [r0,r1,r2,r3,r4,r5,r6,r7,r8,r9,dF,dE,.box (lift (ba e)),ey,.loop f N sl ps ca cb (bif allM p e then .ready else .done) (bif allM p e then none else some .ret)]:=
 ig XP (aP (by kernel_rfl)) (fp (X:=EV p) (stop:=qD) (Yd _ _ p e r0 r1 r2 r3 r4 r5 r6 r7 r8 r9 dF dE ey f N sl ps ca cb (Tf p e r0 r1 r2 r3 r4 r5 r6 r7 r8 r9 dF dE ey f N sl ps ca cb hy hS hw (allM p e) 0 (bB _) (by unfold allM cL; rfl))))
open Go Go.V
noncomputable def DP:aG:=[(3,.c (.rt 6 0 0),[]),(5,.c (.rt 8 0 0),[]),(6,.c (.rt 9 0 0),[]),(7,.c (.rt 11 0 0),[]),(110,.c (.ky 89 [12]),[])]
noncomputable def MS (p:Bool):iZ:={ F:=F8,S:=[14],B:=fun _ _ _=>p,R1:=fun _ _ _=>(.t [],[],[]),R2:=fun _ ds rs=>(.t [],[(14,Qo false (aY rs 14))],[]) }
noncomputable def jc (t:ai) (k:Int) (v:List Int) (n:Int):Bool:=n == -1||(ek t n k && !((t.ins.get n.toNat).op==17 && !dx n v))
noncomputable def jM (x:Sq iY):Nat→List Int
 | 0=>[]
 | j+1=>qA (x.get j).value (jM x j)
noncomputable def G8 (t:ai) (e:ag) (k:Int) (j:Nat):Bool := !(!ek t (e.aC.get j).value k||(dx (e.aC.get j).value (jM e.aC j)||((((e.aC.get j).items.n:Int)!=((e.aC.get j).names.n:Int))||(((t.ins.get (e.aC.get j).value.toNat).op != 17)||(((t.ins.get (e.aC.get j).value.toNat).n != (e.aC.get j).cls) || !dM nQ (t.ins.get (e.aC.get j).value.toNat).names (e.aC.get j).names)))))
noncomputable def jF (t:ai) (e:ag) (k:Int):Bool := !(decide ((e.frames.n:Int)<1)||(decide ((e.frames.n:Int)>6)||decide (e.back<0)))&&(cL (G8 t e k) e.aC.n&&(cL (fun j=>ER (e.frames.get j)) e.frames.n&&allM (jc t k (jM e.aC e.aC.n)) e))
def wb:Nat→Bool:=fun i=>Nat.beq i 5||Nat.beq i 15||Nat.beq i 20
theorem WZ:Fn 65:=⟨by kernel_rfl,by kernel_rfl⟩
noncomputable abbrev uI:jr:=(3,((.c (.rt 6 0 0)),[]))
noncomputable abbrev uy:jr:=(4,((.c (.rt 7 0 0)),[]))
noncomputable abbrev uD:jr:=(5,((.c (.rt 8 0 0)),[]))
noncomputable abbrev vk:jr:=(6,((.c (.rt 9 0 0)),[]))
noncomputable abbrev uj:jr:=(7,((.c (.rt 11 0 0)),[]))
noncomputable abbrev fI (ax:ai):ae:=.box (de (ax) 1)
noncomputable abbrev eV:C:=.im (.v (.bool false))
theorem Xt (L:LP) (QE:D→List ae→Prop) (p:Bool) (t:ai) (e:ag) (k:Int) (r0 r1 r2 r3 r4 r5:ae) (h:br (decide ((↑e.1.1:Int)<1)) (QE (bool false) [r0,r1,r2,r3,r4,r5,(.box (de (t) 1)),(.box (lift (ba (e)))),(.box [(ci k)]),(.box [(.im (.v (.bool false)))])]) (br (decide ((↑e.1.1:Int)>6)) (QE (bool false) [r0,r1,r2,r3,r4,r5,(.box (de (t) 1)),(.box (lift (ba (e)))),(.box [(ci k)]),(.box [(.im (.v (.bool false)))])]) (br (decide (e.3<0)) (QE (bool false) [r0,r1,r2,r3,r4,r5,(.box (de (t) 1)),(.box (lift (ba (e)))),(.box [(ci k)]),(.box [(.im (.v (.bool false)))])]) (L (aj 65 5) ⟨[uI,uy,uD,vk,uj,(31,((xw e),[])),(32,((lH e),[])),(33,((int 0),[]))],[r0,r1,r2,r3,r4,r5,(fI t),(ea e),(.box [(ci k)]),(.box [eV]),(.set []),(.box [(.mp 10)])],[]⟩)))):gL (MS p) 65 wb L QE [wj t 1,Gq e,int k] [r0,r1,r2,r3,r4,r5]:=Eq.mp (by kernel_rfl) h
noncomputable def D8 (p:Bool) (t:ai) (e:ag) (k:Int) (r0 r1 r2 r3 r4 r5:ae) (v:List Int) (j:Nat):VS:=⟨[(3,(.c (.rt 6 0 0)),[]),(4,(.c (.rt 7 0 0)),[]),(5,(.c (.rt 8 0 0)),[]),(6,(.c (.rt 9 0 0)),[]),(7,(.c (.rt 11 0 0)),[]),(31,(xw e),[]),(32,(lH e),[]),(33,int j,[])],[r0,r1,r2,r3,r4,r5,(fI t),(ea e),(.box [(ci k)]),(.box [eV]),.set v,(.box [(.mp 10)])],[]⟩
theorem Kc (L:LP) (QE:D→List ae→Prop) (p:Bool) (t:ai) (e:ag) (k:Int) (r0 r1 r2 r3 r4 r5:ae) (v:List Int) (j:Nat) (h:br (decide ((↑j:Int)<(↑e.2.1:Int))) (nd (cC (↑j:Int) e.2.1) ((LC 64 [(.a (de (t) 1)),(int ((e.aC.2 j).1)),(int k)] [r0,r1,r2,r3,r4,r5,(fI t),(ea e),(.box [(ci k)]),(.box [eV]),(.set v),(.box [(.mp 10)]),(pG e j)] (bool (ek t (e.aC.2 j).1 k)) [r0,r1,r2,r3,r4,r5,(fI t),(ea e),(.box [(ci k)]),(.box [eV]),(.set v),(.box [(.mp 10)]),(pG e j)]∧br (!ek t (e.aC.2 j).1 k) (QE (bool false) [r0,r1,r2,r3,r4,r5,(.box (de (t) 1)),(.box (lift (ba (e)))),(.box [(ci k)]),(.box [(.im (.v (.bool false)))]),(.set v),(.box [(.mp 10)]),(.box (lift (lZ (e.aC.2 j))))]) (br (dx (e.aC.2 j).1 v) (QE (bool false) [r0,r1,r2,r3,r4,r5,(.box (de (t) 1)),(.box (lift (ba (e)))),(.box [(ci k)]),(.box [(.im (.v (.bool false)))]),(.set v),(.box [(.mp 10)]),(.box (lift (lZ (e.aC.2 j))))]) (br ((↑(e.aC.2 j).4.1:Int)!=(↑(e.aC.2 j).3.1:Int)) (QE (bool false) [r0,r1,r2,r3,r4,r5,(.box (de (t) 1)),(.box (lift (ba (e)))),(.box [(ci k)]),(.box [(.im (.v (.bool false)))]),(.set v),(.box [(.mp 10)]),(.box (lift (lZ (e.aC.2 j))))]) (nd (cC (e.aC.2 j).1 t.2.1) (br ((t.ins.2 (e.aC.2 j).1.toNat).1 != 17) (QE (bool false) [r0,r1,r2,r3,r4,r5,(.box (de (t) 1)),(.box (lift (ba (e)))),(.box [(ci k)]),(.box [(.im (.v (.bool false)))]),(.set v),(.box [(.mp 10)]),(.box (lift (lZ (e.aC.2 j)))),(.box (lift (aT (t.ins.2 (e.aC.2 j).1.toNat))))]) (br ((t.ins.2 (e.aC.2 j).1.toNat).5 != (e.aC.2 j).2) (QE (bool false) [r0,r1,r2,r3,r4,r5,(.box (de (t) 1)),(.box (lift (ba (e)))),(.box [(ci k)]),(.box [(.im (.v (.bool false)))]),(.set v),(.box [(.mp 10)]),(.box (lift (lZ (e.aC.2 j)))),(.box (lift (aT (t.ins.2 (e.aC.2 j).1.toNat))))]) ((LC 86 [(.c (.im (.sl 1 ((t.ins.2 (e.aC.2 j).1.toNat).8.1) (fun i=>ff ((t.ins.get (e.aC.get (↑j:Int).toNat).value.toNat).names.2 i))))),(.c (.im (.sl 1 ((e.aC.2 j).3.1) (fun i=>ff ((e.aC.get (↑j:Int).toNat).names.2 i)))))] [] (bool (dM nQ (t.ins.2 (e.aC.2 j).1.toNat).8 (e.aC.2 j).3)) []∧br (!dM nQ (t.ins.2 (e.aC.2 j).1.toNat).8 (e.aC.2 j).3) (QE (bool false) [r0,r1,r2,r3,r4,r5,(.box (de (t) 1)),(.box (lift (ba (e)))),(.box [(ci k)]),(.box [(.im (.v (.bool false)))]),(.set v),(.box [(.mp 10)]),(.box (lift (lZ (e.aC.2 j)))),(.box (lift (aT (t.ins.2 (e.aC.2 j).1.toNat))))]) (L (aj 65 5) ⟨[uI,uy,uD,vk,uj,(31,((xw e),[])),(32,((lH e),[])),(33,((int (IntKind.i64.wrap ((↑j:Int)+1))),[]))],[r0,r1,r2,r3,r4,r5,(fI t),(ea e),(.box [(ci k)]),(.box [eV]),(.set (qA (e.aC.2 j).1 v)),(.box [(.mp 10)]),(pG e j),(.box (lift (aT (t.ins.2 (e.aC.2 j).1.toNat))))],[]⟩))))))))))) (L (aj 65 15) ⟨[uI,uy,uD,vk,uj,(88,((tS e),[])),(89,((kC e),[])),(90,((int 0),[]))],[r0,r1,r2,r3,r4,r5,(fI t),(ea e),(.box [(ci k)]),(.box [eV]),(.set v),(.box [(.mp 10)])],[]⟩)):dh (MS p) 65 wb L QE 5 (D8 p t e k r0 r1 r2 r3 r4 r5 v j):=Eq.mp (by kernel_rfl) h
noncomputable def yN (p:Bool) (t:ai) (e:ag) (k:Int) (r0 r1 r2 r3 r4 r5:ae) (v:List Int) (j:Nat):VS:=⟨[(3,(.c (.rt 6 0 0)),[]),(4,(.c (.rt 7 0 0)),[]),(5,(.c (.rt 8 0 0)),[]),(6,(.c (.rt 9 0 0)),[]),(7,(.c (.rt 11 0 0)),[]),(88,(tS e),[]),(89,(kC e),[]),(90,int j,[])],[r0,r1,r2,r3,r4,r5,(fI t),(ea e),(.box [(ci k)]),(.box [eV]),.set v,(.box [(.mp 10)])],[]⟩
theorem FE (L:LP) (QE:D→List ae→Prop) (p:Bool) (t:ai) (e:ag) (k:Int) (r0 r1 r2 r3 r4 r5:ae) (v:List Int) (j:Nat) (h:br (decide ((↑j:Int)<(↑e.1.1:Int))) (nd (cC (↑j:Int) e.1.1) (br (decide ((e.frames.2 j).1<0)) (QE (bool false) [r0,r1,r2,r3,r4,r5,(.box (de (t) 1)),(.box (lift (ba (e)))),(.box [(ci k)]),(.box [(.im (.v (.bool false)))]),(.set v),(.box [(.mp 10)]),(.box (lift (jb (e.frames.2 j))))]) (br (decide ((e.frames.2 j).2<0)) (QE (bool false) [r0,r1,r2,r3,r4,r5,(.box (de (t) 1)),(.box (lift (ba (e)))),(.box [(ci k)]),(.box [(.im (.v (.bool false)))]),(.set v),(.box [(.mp 10)]),(.box (lift (jb (e.frames.2 j))))]) (br (decide ((↑(e.frames.2 j).3.1:Int)>24)) (QE (bool false) [r0,r1,r2,r3,r4,r5,(.box (de (t) 1)),(.box (lift (ba (e)))),(.box [(ci k)]),(.box [(.im (.v (.bool false)))]),(.set v),(.box [(.mp 10)]),(.box (lift (jb (e.frames.2 j))))]) (L (aj 65 15) ⟨[uI,uy,uD,vk,uj,(88,((tS e),[])),(89,((kC e),[])),(90,((int (IntKind.i64.wrap ((↑j:Int)+1))),[]))],[r0,r1,r2,r3,r4,r5,(fI t),(ea e),(.box [(ci k)]),(.box [eV]),(.set v),(.box [(.mp 10)]),(ua e j)],[]⟩))))) (L (aj 65 20) ⟨[uI,uy,uD,vk,uj,(88,((tS e),[])),(89,((kC e),[])),(90,((int (↑j:Int)),[])),(91,((bool false),[]))],[r0,r1,r2,r3,r4,r5,(fI t),(ea e),(.box [(ci k)]),(.box [eV]),(.set v),(.box [(.mp 10)])],[]⟩)):dh (MS p) 65 wb L QE 15 (yN p t e k r0 r1 r2 r3 r4 r5 v j):=Eq.mp (by kernel_rfl) h
noncomputable def zD (p:Bool) (t:ai) (e:ag) (k:Int) (r0 r1 r2 r3 r4 r5:ae) (v:List Int):VS:=⟨[(3,(.c (.rt 6 0 0)),[]),(4,(.c (.rt 7 0 0)),[]),(5,(.c (.rt 8 0 0)),[]),(6,(.c (.rt 9 0 0)),[]),(7,(.c (.rt 11 0 0)),[])],[r0,r1,r2,r3,r4,r5,(fI t),(ea e),(.box [(ci k)]),(.box [eV]),.set v,(.box [(.mp 10)])],[]⟩
noncomputable abbrev Ut:ae:=.loop 65 137 [(3,((.c (.rt 6 0 0)),[])),(5,((.c (.rt 8 0 0)),[])),(6,((.c (.rt 9 0 0)),[])),(7,((.c (.rt 11 0 0)),[])),(110,((.c (.ky 89 [12])),[]))] [111] (F0 65) (Gt 65) .ready none
noncomputable abbrev Ep (ax aX aN cq ct dJ:ae) (ec:ai) (qY:ag) (Zv:Int) (Y9:List Int):List ae:=[ax,aX,aN,cq,ct,dJ,(fI ec),(ea qY),(.box [(ci Zv)]),(.box [eV]),(.set Y9),(.box [(.mp 10)]),(ea qY),.l7,Ut]
theorem OB (L:LP) (QE:D→List ae→Prop) (p:Bool) (t:ai) (e:ag) (k:Int) (r0 r1 r2 r3 r4 r5:ae) (v:List Int) (h:(LC 71 [(.a (lift (ba (e))))] [r0,r1,r2,r3,r4,r5,(fI t),(ea e),(.box [(ci k)]),(.box [eV]),(.set v),(.box [(.mp 10)])] (.c (.ky 89 [12])) [r0,r1,r2,r3,r4,r5,(fI t),(ea e),(.box [(ci k)]),(.box [eV]),(.set v),(.box [(.mp 10)]),(ea e)]∧br (p) ((LC 89 [(.c (.yl 14)),(.c (.rt 12 0 0))] (Ep r0 r1 r2 r3 r4 r5 t e k v) (.t []) (Ep r0 r1 r2 r3 r4 r5 t e k v)∧QE (bool true) [r0,r1,r2,r3,r4,r5,(.box (de (t) 1)),(.box (lift (ba (e)))),(.box [(ci k)]),(.box [(.im (.v (.bool true)))]),(.set v),(.box [(.mp 10)]),(.box (lift (ba (e)))),.dead,.dead])) ((LC 89 [(.c (.yl 14)),(.c (.rt 12 0 0))] (Ep r0 r1 r2 r3 r4 r5 t e k v) (.t []) [r0,r1,r2,r3,r4,r5,(fI t),(ea e),(.box [(ci k)]),(.box [eV]),(.set v),(.box [(.mp 10)]),(ea e),.l7,(.loop 65 137 [(3,((.c (.rt 6 0 0)),[])),(5,((.c (.rt 8 0 0)),[])),(6,((.c (.rt 9 0 0)),[])),(7,((.c (.rt 11 0 0)),[])),(110,((.c (.ky 89 [12])),[]))] [111] (F0 65) (Gt 65) .done (some .ret))]∧QE (bool false) [r0,r1,r2,r3,r4,r5,(.box (de (t) 1)),(.box (lift (ba (e)))),(.box [(ci k)]),(.box [(.im (.v (.bool false)))]),(.set v),(.box [(.mp 10)]),(.box (lift (ba (e)))),.dead,.dead])))):dh (MS p) 65 wb L QE 20 (zD p t e k r0 r1 r2 r3 r4 r5 v):=Eq.mp (by kernel_rfl) h
noncomputable abbrev KV:ae:=.loop 65 137 [(3,((.c (.rt 6 0 0)),[])),(5,((.c (.rt 8 0 0)),[])),(6,((.c (.rt 9 0 0)),[])),(7,((.c (.rt 11 0 0)),[])),(110,((.c (.ky 89 [12])),[]))] [111] (F0 65) (Gt 65) .busy none
theorem Vn (QE:D→List ae→Prop) (t:ai) (e:ag) (k n:Int) (v:List Int) (r0 r1 r2 r3 r4 r5:ae) (x:ae) (h:br (n != -1) ((LC 64 [(.a (de (t) 1)),(int n),(int k)] [r0,r1,r2,r3,r4,r5,(fI t),(ea e),(.box [(ci k)]),(.box [eV]),(.set v),(.box [(.mp 10)]),(ea e),.l7,KV,x] (bool (ek t n k)) [r0,r1,r2,r3,r4,r5,(fI t),(ea e),(.box [(ci k)]),(.box [eV]),(.set v),(.box [(.mp 10)]),(ea e),.l7,KV,x]∧br (!ek t n k) (QE (bool false) [r0,r1,r2,r3,r4,r5,(.box (de (t) 1)),(.box (lift (ba (e)))),(.box [(ci k)]),(.box [(.im (.v (.bool false)))]),(.set v),(.box [(.mp 10)]),(.box (lift (ba (e)))),.l7,(.loop 65 137 [(3,((.c (.rt 6 0 0)),[])),(5,((.c (.rt 8 0 0)),[])),(6,((.c (.rt 9 0 0)),[])),(7,((.c (.rt 11 0 0)),[])),(110,((.c (.ky 89 [12])),[]))] [111] (F0 65) (Gt 65) .done (some .ret)),x]) (nd (cC n t.2.1) (br ((t.ins.2 n.toNat).1==17) (br (!dx n v) (QE (bool false) [r0,r1,r2,r3,r4,r5,(.box (de (t) 1)),(.box (lift (ba (e)))),(.box [(ci k)]),(.box [(.im (.v (.bool false)))]),(.set v),(.box [(.mp 10)]),(.box (lift (ba (e)))),.l7,(.loop 65 137 [(3,((.c (.rt 6 0 0)),[])),(5,((.c (.rt 8 0 0)),[])),(6,((.c (.rt 9 0 0)),[])),(7,((.c (.rt 11 0 0)),[])),(110,((.c (.ky 89 [12])),[]))] [111] (F0 65) (Gt 65) .done (some .ret)),x]) (QE (bool true) [r0,r1,r2,r3,r4,r5,(.box (de (t) 1)),(.box (lift (ba (e)))),(.box [(ci k)]),(.box [(.im (.v (.bool false)))]),(.set v),(.box [(.mp 10)]),(.box (lift (ba (e)))),.l7,(.loop 65 137 [(3,((.c (.rt 6 0 0)),[])),(5,((.c (.rt 8 0 0)),[])),(6,((.c (.rt 9 0 0)),[])),(7,((.c (.rt 11 0 0)),[])),(110,((.c (.ky 89 [12])),[]))] [111] (F0 65) (Gt 65) .ready none),x])) (QE (bool true) [r0,r1,r2,r3,r4,r5,(.box (de (t) 1)),(.box (lift (ba (e)))),(.box [(ci k)]),(.box [(.im (.v (.bool false)))]),(.set v),(.box [(.mp 10)]),(.box (lift (ba (e)))),.l7,(.loop 65 137 [(3,((.c (.rt 6 0 0)),[])),(5,((.c (.rt 8 0 0)),[])),(6,((.c (.rt 9 0 0)),[])),(7,((.c (.rt 11 0 0)),[])),(110,((.c (.ky 89 [12])),[]))] [111] (F0 65) (Gt 65) .ready none),x]))))) (QE (bool true) [r0,r1,r2,r3,r4,r5,(.box (de (t) 1)),(.box (lift (ba (e)))),(.box [(ci k)]),(.box [(.im (.v (.bool false)))]),(.set v),(.box [(.mp 10)]),(.box (lift (ba (e)))),.l7,(.loop 65 137 [(3,((.c (.rt 6 0 0)),[])),(5,((.c (.rt 8 0 0)),[])),(6,((.c (.rt 9 0 0)),[])),(7,((.c (.rt 11 0 0)),[])),(110,((.c (.ky 89 [12])),[]))] [111] (F0 65) (Gt 65) .ready none),x])):YI X8 65 14 QE ((111,int n,[])::DP) [r0,r1,r2,r3,r4,r5,.box (de t 1),.box (lift (ba e)),.box [.im (iI k)],.box [.im (iB false)],.set v,.box [.mp 10],.box (lift (ba e)),.l7,.loop 65 137 DP [111] (F0 65) (Gt 65) .ready none,x]:=Eq.mp (by kernel_rfl) h
theorem ZD (t:ai) (e:ag) (k n:Int) (v:List Int) (r0 r1 r2 r3 r4 r5:ae) (x:ae) (hk:k≤t.ins.n):rk mn Tryd.prog 14 [int n] [r0,r1,r2,r3,r4,r5,.box (de t 1),.box (lift (ba e)),.box [.im (iI k)],.box [.im (iB false)],.set v,.box [.mp 10],.box (lift (ba e)),.l7,.loop 65 137 DP [111] (F0 65) (Gt 65) .ready none,x] (bool (jc t k v n)) [r0,r1,r2,r3,r4,r5,.box (de t 1),.box (lift (ba e)),.box [.im (iI k)],.box [.im (iB false)],.set v,.box [.mp 10],.box (lift (ba e)),.l7,.loop 65 137 DP [111] (F0 65) (Gt 65) (bif jc t k v n then .ready else .done) (bif jc t k v n then none else some .ret),x]:=by
 refine VZ (X:=X8) (f:=65) (Ap:=DP) (Ft:=(111,int n,[])::DP) (ps:=[111]) (by kernel_rfl) (by kernel_rfl) (Vn _ t e k n v r0 r1 r2 r3 r4 r5 x ?_)
 refine ay (fun h=>?_) (fun h=>?_)
 ·have h:(n == -1)=false:=(Bool.not_eq_true' _).mp h
  refine ⟨KN _ _ _ _ _ _ _ _ _ _ _ _ _ _ _ _ _ _ _ hk,?_⟩
  refine ay (fun h1=>?_) (fun h1=>aA (s9 (by simpa using h1) hk) ?_)
  ·have e1:jc t k v n=false:=by simp only [jc,h,show ek t n k=false from by simpa using h1,bN]
   rw [e1]
   exact ⟨16,aP rfl,aP rfl,rfl,rfl,bp.refl _,by repeat' (first|exact trivial|refine ⟨.inl (.inl rfl),?_⟩|refine ⟨.inl (.inr ⟨_,_,_,_,_,_,_,_,_,_,rfl,rfl⟩),?_⟩|done)⟩
  ·have h1:ek t n k=true:=by simpa using h1
   refine ay (fun h2=>ay (fun h3=>?_) (fun h3=>?_)) (fun h2=>?_)
   ·have e1:jc t k v n=false:=by simp only [jc,h,h1,show ((t.ins.get n.toNat).op==17)=true from h2,show (!dx n v)=true from h3,bN]
    rw [e1]
    exact ⟨16,aP rfl,aP rfl,rfl,rfl,bp.refl _,by repeat' (first|exact trivial|refine ⟨.inl (.inl rfl),?_⟩|refine ⟨.inl (.inr ⟨_,_,_,_,_,_,_,_,_,_,rfl,rfl⟩),?_⟩|done)⟩
   ·have e1:jc t k v n=true:=by simp only [jc,h,h1,show ((t.ins.get n.toNat).op==17)=true from h2,show (!dx n v)=false from h3,bN]
    rw [e1]
    exact ⟨16,aP rfl,aP rfl,rfl,rfl,bp.refl _,by repeat' (first|exact trivial|refine ⟨.inl (.inl rfl),?_⟩|refine ⟨.inl (.inr ⟨_,_,_,_,_,_,_,_,_,_,rfl,rfl⟩),?_⟩|done)⟩
   ·have e1:jc t k v n=true:=by simp only [jc,h,h1,show ((t.ins.get n.toNat).op==17)=false from h2,bN]
    rw [e1]
    exact ⟨16,aP rfl,aP rfl,rfl,rfl,bp.refl _,by repeat' (first|exact trivial|refine ⟨.inl (.inl rfl),?_⟩|refine ⟨.inl (.inr ⟨_,_,_,_,_,_,_,_,_,_,rfl,rfl⟩),?_⟩|done)⟩
 ·have h:(n == -1)=true:=(Bool.not_eq_false' _▸h:(n == -1)=true)
  have e1:jc t k v n=true:=by simp only [jc,h,bN]
  rw [e1]
  exact ⟨16,aP rfl,aP rfl,rfl,rfl,bp.refl _,by repeat' (first|exact trivial|refine ⟨.inl (.inl rfl),?_⟩|refine ⟨.inl (.inr ⟨_,_,_,_,_,_,_,_,_,_,rfl,rfl⟩),?_⟩|done)⟩
theorem On (p:Bool) (t:ai) (e:ag) (k:Int) (r0 r1 r2 r3 r4 r5:ae) (hk:k≤t.ins.n) (hS:ku e) (hw:eG 6 [r0,r1,r2,r3,r4,r5]) (v:List Int) (a:Bool) (hp:p=allM (jc t k v) e) (ha:p=a):ah 65 6 (Go.V.Ends [r0,r1,r2,r3,r4,r5] (bool a) [r0,r1,r2,r3,r4,r5]) (aj 65 20) (zD p t e k r0 r1 r2 r3 r4 r5 v):=by
 have c:=T4 (jc t k v) e (r0) (r1) (r2) (r3) (r4) (r5) (.box (de t 1)) (.box (lift (ba e))) (.box [.im (iI k)]) (.box [.im (iB false)]) (.set v) (.box [.mp 10]) (.l7) 65 137 DP [111] (F0 65) (Gt 65) (fun n x=>ZD t e k n v r0 r1 r2 r3 r4 r5 x hk) hS ⟨(hw.1).mono (by decide),(hw.2.1).mono (by decide),(hw.2.2.1).mono (by decide),(hw.2.2.2.1).mono (by decide),(hw.2.2.2.2.1).mono (by decide),(hw.2.2.2.2.2.1).mono (by decide),.inl rfl,.inl rfl,.inl rfl,.inl rfl,.inl rfl,.inl rfl,.inl rfl,.inl rfl,Jg rfl,trivial⟩
 refine aH (X:=MS p) (stop:=wb) (OB _ _ p t e k r0 r1 r2 r3 r4 r5 v ⟨Vf _ _ _ _ _ _ _ _ _ _ _ _ _,?_⟩)
 rw [← hp] at c
 refine ay (fun h=>⟨?_,?_⟩) (fun h=>⟨?_,?_⟩)
 ·rw [h] at c; exact c
 ·rw [← ha,h]; exact ⟨6,aP rfl,aP rfl,rfl,rfl,bp.refl _,bj _ _⟩
 ·rw [h] at c; exact c
 ·rw [← ha,h]; exact ⟨6,aP rfl,aP rfl,rfl,rfl,bp.refl _,bj _ _⟩
theorem Ps (p:Bool) (t:ai) (e:ag) (k:Int) (r0 r1 r2 r3 r4 r5:ae) (hk:k≤t.ins.n) (hS:ku e) (hw:eG 6 [r0,r1,r2,r3,r4,r5]) (v:List Int) (a:Bool) (hN:e.frames.n≤6) (hp:p=allM (jc t k v) e):∀ j,j≤e.frames.n→(b5 (fun j=>ER (e.frames.get j)) (e.frames.n-j) j&&p)=a→ah 65 6 (Go.V.Ends [r0,r1,r2,r3,r4,r5] (bool a) [r0,r1,r2,r3,r4,r5]) (aj 65 15) (yN p t e k r0 r1 r2 r3 r4 r5 v j):=by
 refine bo (fun j hj ih ha=>?_) (fun ha=>?_)
 ·have q:e.frames.n-j=(e.frames.n-(j+1))+1:=by omega
  rw [q] at ha
  have no:ER (e.frames.get j)=false→a=false:=fun q=>by rw [fj (p:=fun j=>ER (e.frames.get j)) q,Bool.false_and] at ha; exact ha.symm
  have go:ER (e.frames.get j)=true→ah 65 6 (Go.V.Ends [r0,r1,r2,r3,r4,r5] (bool a) [r0,r1,r2,r3,r4,r5]) (aj 65 15) (yN p t e k r0 r1 r2 r3 r4 r5 v (j+1)):=fun q=>by rw [gN (p:=fun j=>ER (e.frames.get j)) q] at ha; exact ih ha
  refine aH (X:=MS p) (stop:=wb) (FE _ _ p t e k r0 r1 r2 r3 r4 r5 v j ?_)
  rw [cd hj (bU hN (by decide))]
  refine ay (fun h=>?_) (fun h=>(dec_lt h hj).elim)
  refine aA (au hj) ?_
  refine ay (fun h1=>?_) (fun h1=>ay (fun h2=>?_) (fun h2=>ay (fun h3=>?_) (fun h3=>?_)))
  ·rw [no (by simp only [ER,show decide ((e.frames.get j).fn<0)=true from h1,bN])]; exact ⟨6,aP rfl,aP rfl,rfl,rfl,bp.refl _,bj _ _⟩
  ·rw [no (by simp only [ER,show decide ((e.frames.get j).line<0)=true from h2,bN])]; exact ⟨6,aP rfl,aP rfl,rfl,rfl,bp.refl _,bj _ _⟩
  ·rw [no (by simp only [ER,show decide (((e.frames.get j).vars.n:Int)>24)=true from h3,bN])]; exact ⟨6,aP rfl,aP rfl,rfl,rfl,bp.refl _,bj _ _⟩
  ·refine ah.cut 12 (aP rfl) (aP rfl) rfl rfl ⟨(hw.1).mono (by decide),(hw.2.1).mono (by decide),(hw.2.2.1).mono (by decide),(hw.2.2.2.1).mono (by decide),(hw.2.2.2.2.1).mono (by decide),(hw.2.2.2.2.2.1).mono (by decide),.inl rfl,.inl rfl,.inl rfl,.inl rfl,.inl rfl,.inl rfl,trivial⟩ (go ?_)
   simp only [ER,show decide ((e.frames.get j).fn<0)=false from h1,show decide ((e.frames.get j).line<0)=false from h2,show decide (((e.frames.get j).vars.n:Int)>24)=false from h3,bN]
 ·rw [Nat.sub_self] at ha
  refine aH (X:=MS p) (stop:=wb) (FE _ _ p t e k r0 r1 r2 r3 r4 r5 v _ ?_)
  refine ay (fun h=>cE h) (fun h=>?_)
  exact ah.le (zD p t e k r0 r1 r2 r3 r4 r5 v) (by repeat' (first|exact trivial|refine cR rfl ?_)) (rc (rc (rc (rc (rc (rc (rc (rc (rc (rc (rc (rc (.nil))))))))))))) rfl (On p t e k r0 r1 r2 r3 r4 r5 hk hS hw v a hp (by simpa [b5] using ha))
theorem Rl (p:Bool) (t:ai) (e:ag) (k:Int) (r0 r1 r2 r3 r4 r5:ae) (hk:k≤t.ins.n) (hS:ku e) (hw:eG 6 [r0,r1,r2,r3,r4,r5]) (a:Bool) (hN:e.frames.n≤6) (hp:p=allM (jc t k (jM e.aC e.aC.n)) e):∀ j,j≤e.aC.n→(b5 (G8 t e k) (e.aC.n-j) j&&(cL (fun j=>ER (e.frames.get j)) e.frames.n&&p))=a→ah 65 6 (Go.V.Ends [r0,r1,r2,r3,r4,r5] (bool a) [r0,r1,r2,r3,r4,r5]) (aj 65 5) (D8 p t e k r0 r1 r2 r3 r4 r5 (jM e.aC j) j):=by
 have hO:=hS.aC
 refine bo (fun j hj ih ha=>?_) (fun ha=>?_)
 ·have q:e.aC.n-j=(e.aC.n-(j+1))+1:=by omega
  rw [q] at ha
  have no:G8 t e k j=false→a=false:=fun q=>by rw [fj q,Bool.false_and] at ha; exact ha.symm
  have go:G8 t e k j=true→ah 65 6 (Go.V.Ends [r0,r1,r2,r3,r4,r5] (bool a) [r0,r1,r2,r3,r4,r5]) (aj 65 5) (D8 p t e k r0 r1 r2 r3 r4 r5 (jM e.aC (j+1)) (j+1)):=fun q=>by rw [gN q] at ha; exact ih ha
  refine aH (X:=MS p) (stop:=wb) (Kc _ _ p t e k r0 r1 r2 r3 r4 r5 (jM e.aC j) j ?_)
  rw [cd hj (bU hO (by decide))]
  refine ay (fun h=>?_) (fun h=>(dec_lt h hj).elim)
  refine aA (au hj) ⟨I9 _ _ _ _ _ _ _ _ _ _ _ _ _ _ _ _ hk,?_⟩
  refine ay (fun h1=>?_) (fun h1=>?_)
  ·rw [no (by simp only [G8,show (!ek t (e.aC.get j).value k)=true from h1,bN])]; exact ⟨6,aP rfl,aP rfl,rfl,rfl,bp.refl _,bj _ _⟩
  have h1:ek t (e.aC.get j).value k=true:=by simpa using h1
  refine ay (fun h2=>?_) (fun h2=>?_)
  ·rw [no (by simp only [G8,h1,show dx (e.aC.get j).value (jM e.aC j)=true from h2,bN])]; exact ⟨6,aP rfl,aP rfl,rfl,rfl,bp.refl _,bj _ _⟩
  have h2:dx (e.aC.get j).value (jM e.aC j)=false:=h2
  refine ay (fun h3=>?_) (fun h3=>aA (s9 h1 hk) ?_)
  ·rw [no (by simp only [G8,h1,h2,show (((e.aC.get j).items.n:Int)!=((e.aC.get j).names.n:Int))=true from h3,bN])]; exact ⟨6,aP rfl,aP rfl,rfl,rfl,bp.refl _,bj _ _⟩
  have h3:(((e.aC.get j).items.n:Int)!=((e.aC.get j).names.n:Int))=false:=h3
  refine ay (fun h4=>?_) (fun h4=>?_)
  ·rw [no (by simp only [G8,h1,h2,h3,show ((t.ins.get (e.aC.get j).value.toNat).op != 17)=true from h4,bN])]; exact ⟨6,aP rfl,aP rfl,rfl,rfl,bp.refl _,bj _ _⟩
  have h4:((t.ins.get (e.aC.get j).value.toNat).op != 17)=false:=h4
  refine ay (fun h5=>?_) (fun h5=>⟨UG _ _,?_⟩)
  ·rw [no (by simp only [G8,h1,h2,h3,h4,show ((t.ins.get (e.aC.get j).value.toNat).n != (e.aC.get j).cls)=true from h5,bN])]; exact ⟨6,aP rfl,aP rfl,rfl,rfl,bp.refl _,bj _ _⟩
  have h5:((t.ins.get (e.aC.get j).value.toNat).n != (e.aC.get j).cls)=false:=h5
  refine ay (fun h6=>?_) (fun h6=>?_)
  ·rw [no (by simp only [G8,h1,h2,h3,h4,h5,show (!dM nQ (t.ins.get (e.aC.get j).value.toNat).names (e.aC.get j).names)=true from h6,bN])]; exact ⟨6,aP rfl,aP rfl,rfl,rfl,bp.refl _,bj _ _⟩
  have h6:(!dM nQ (t.ins.get (e.aC.get j).value.toNat).names (e.aC.get j).names)=false:=h6
  refine ah.cut 12 (aP rfl) (aP rfl) rfl rfl ⟨(hw.1).mono (by decide),(hw.2.1).mono (by decide),(hw.2.2.1).mono (by decide),(hw.2.2.2.1).mono (by decide),(hw.2.2.2.2.1).mono (by decide),(hw.2.2.2.2.2.1).mono (by decide),.inl rfl,.inl rfl,.inl rfl,.inl rfl,.inl rfl,.inl rfl,trivial⟩ (go ?_)
  simp only [G8,h1,h2,h3,h4,h5,h6,bN]
 ·rw [Nat.sub_self] at ha
  refine aH (X:=MS p) (stop:=wb) (Kc _ _ p t e k r0 r1 r2 r3 r4 r5 (jM e.aC _) _ ?_)
  refine ay (fun h=>cE h) (fun h=>?_)
  exact Ps p t e k r0 r1 r2 r3 r4 r5 hk hS hw _ a hN hp 0 (bB _) (by simpa [b5,cL] using ha)
theorem Uz (t:ai) (e:ag) (k:Int) (r0 r1 r2 r3 r4 r5:ae) (hk:k≤t.ins.n) (hS:ku e) (hw:eG 6 [r0,r1,r2,r3,r4,r5]):LC 65 [wj t 1,Gq e,int k] [r0,r1,r2,r3,r4,r5] (bool (jF t e k)) [r0,r1,r2,r3,r4,r5]:=by
 refine ig WZ (aP (by kernel_rfl)) (fp (X:=MS (allM (jc t k (jM e.aC e.aC.n)) e)) (stop:=wb) (Xt _ _ (allM (jc t k (jM e.aC e.aC.n)) e) t e k r0 r1 r2 r3 r4 r5 ?_))
 refine ay (fun h1=>?_) (fun h1=>ay (fun h2=>?_) (fun h2=>ay (fun h3=>?_) (fun h3=>?_)))
 ·rw [show jF t e k=false from by simp only [jF,show decide ((e.frames.n:Int)<1)=true from h1,bN]]; exact ⟨6,aP rfl,aP rfl,rfl,rfl,bp.refl _,bj _ _⟩
 ·rw [show jF t e k=false from by simp only [jF,show decide ((e.frames.n:Int)>6)=true from h2,bN]]; exact ⟨6,aP rfl,aP rfl,rfl,rfl,bp.refl _,bj _ _⟩
 ·rw [show jF t e k=false from by simp only [jF,show decide (e.back<0)=true from h3,bN]]; exact ⟨6,aP rfl,aP rfl,rfl,rfl,bp.refl _,bj _ _⟩
 ·have hN:e.frames.n≤6:=by have:=of_decide_eq_false h2; omega
  refine Rl _ t e k r0 r1 r2 r3 r4 r5 hk hS hw _ hN rfl 0 (bB _) ?_
  simp only [jF,cL,Nat.sub_zero,show decide ((e.frames.n:Int)<1)=false from h1,show decide ((e.frames.n:Int)>6)=false from h2,show decide (e.back<0)=false from h3,bN]
end Go.Proofs.YtghfgcfabbbbbaaDoor
