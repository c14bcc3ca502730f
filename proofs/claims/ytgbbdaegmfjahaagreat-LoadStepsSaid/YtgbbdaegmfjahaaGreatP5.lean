/- '==' of the program's structs. -/
import Derived.Test.YtgbbdaegmfjahaaGreatP3
import Derived.Laws.StructEq
import Derived.Tactics
import Derived.Tactics2
import Derived.StillTactics
import Derived.KernelRfl
import Derived.Test.YtgbbdaegmfjahaaGreatProg
import Derived.Test.YtgbbdaegmfjahaaGreatP4
import Derived.Shelf.GgClosure.StringsIndexFunc
import Derived.Ground.GgwProg
import Derived.Shelf.GgClosure.StringsIndexFuncTop
import Derived.WalkKit
import Derived.Laws.RangeAny
import Derived.Laws.RangeString
import Derived.ProofKit
set_option linter.unusedVariables false
namespace Go.Proofs.YtgbbdaegmfjahaaGreat
open Go.V
section
variable {k:List EK} {E:Env} (d:Nat) {av:Nat->Prop} {l m:List C} {b:Bool} {cs:List Value}
theorem Ec (h:La [] l m=some b):l=[]/\m=[]/\b=true:=by
 unfold La at h
 split at h<;>simp_all
theorem kX (h:La (.int::k) l m=some b):∃ x y l' m' c,l=.im (.v (.int .i64 x))::l'/\m=.im (.v (.int .i64 y))::m'/\La k l' m'=some c/\b=((x==y)&&c):=by
 unfold La at h
 grind
theorem M4 (h:La (.str::k) l m=some b):∃ x y l' m' c,l=.im (.v (.string x))::l'/\m=.im (.v (.string y))::m'/\La k l' m'=some c/\b=((x==y)&&c):=by
 unfold La at h
 grind
theorem dG {w:World} {x:Value} (h:aF (bp E av w) (.im (.v x)::l) cs):∃ tP,cs=x::tP/\aF (bp E av w) l tP:=by
 cases h with
 | cons q k=>exact ⟨_,by rw [q.1],k⟩
theorem rz {w:World} (h:aF (bp E av w) [] cs):cs=[]:=by
 cases h; rfl
theorem bq2 (p1 p2 q1 q2:Int) (w:World):(Op.equalIn (d+2) 25 (.agg #[.int .i64 p1,.int .i64 p2]) (.agg #[.int .i64 q1,.int .i64 q2])).run Tryz.prog w=.ok ((p1==q1)&&((p2==q2)&&true)) w:=by
 have u3:=Tryz.underlying3
 have a3:=Tryz.isAgg3
 have z3:=Tryz.sizeOf3
 have hS:Tryz.prog.underlying 25=some (.struct (Tryz.prog.fieldsOf 25)):=by kernel_rfl
 have hp:Tryz.prog.stoodInHeld 25=false:=by kernel_rfl
 rw [run_equalIn_agg w (d+1) 25 _ _ hS hp]
 simp only [Program.fieldsOf,Tryz.underlying25]
 go_simp
 grind
theorem bf8 (a1 a2 b1 b2:Int) (s1 s2:ByteArray) (w:World):(Op.equalIn (d+2) 44 (.agg #[.int .i64 a1,.int .i64 a2,.string s1]) (.agg #[.int .i64 b1,.int .i64 b2,.string s2])).run Tryz.prog w=.ok ((a1==b1)&&((a2==b2)&&((s1==s2)&&true))) w:=by
 have u3:=Tryz.underlying3
 have a3:=Tryz.isAgg3
 have z3:=Tryz.sizeOf3
 have u9:=Tryz.underlying9
 have a9:=Tryz.isAgg9
 have z9:=Tryz.sizeOf9
 have hS:Tryz.prog.underlying 44=some (.struct (Tryz.prog.fieldsOf 44)):=by kernel_rfl
 have hp:Tryz.prog.stoodInHeld 44=false:=by kernel_rfl
 rw [run_equalIn_agg w (d+1) 44 _ _ hS hp]
 simp only [Program.fieldsOf,Tryz.underlying44]
 go_simp
 grind [beq_toListBytes]
theorem bq5 (x1 x2 x3 y1 y2 y3 a1 a2 b1 b2:Int) (s1 s2:ByteArray) (w:World):(Op.equalIn (d+3) 46 (.agg #[.int .i64 x1,.int .i64 x2,.int .i64 x3,.int .i64 a1,.int .i64 a2,.string s1]) (.agg #[.int .i64 y1,.int .i64 y2,.int .i64 y3,.int .i64 b1,.int .i64 b2,.string s2])).run Tryz.prog w =
  .ok ((x1==y1)&&((x2==y2)&&((x3==y3)&&((a1==b1)&&((a2==b2)&&((s1==s2)&&true)))))) w:=by
 have u3:=Tryz.underlying3
 have a3:=Tryz.isAgg3
 have z3:=Tryz.sizeOf3
 have a44:=Tryz.isAgg44
 have z44:=Tryz.sizeOf44
 have e44:=bf8 d
 have hS:Tryz.prog.underlying 46=some (.struct (Tryz.prog.fieldsOf 46)):=by kernel_rfl
 have hp:Tryz.prog.stoodInHeld 46=false:=by kernel_rfl
 rw [run_equalIn_agg w (d+2) 46 _ _ hS hp]
 simp only [Program.fieldsOf,Tryz.underlying46]
 go_simp
 grind
theorem Ep {t:TypeId} {cs ds:Array Value} (hg:Tryz.prog.eqGuardType Tryz.prog.depth t=false) (h:∀ w,(Op.equalIn 10000 t (.agg cs) (.agg ds)).run Tryz.prog w=.ok b w) (w:World) (x y:Operand) :
  (do eqGuard .eql t x y (.agg cs) (.agg ds); binOp .eql t (.agg cs) (.agg ds)).run Tryz.prog w=.ok (.bool b) w/\
  (do eqGuard .neq t x y (.agg cs) (.agg ds); binOp .neq t (.agg cs) (.agg ds)).run Tryz.prog w=.ok (.bool (!b)) w:=by
 grind [Sem.run_bind,run_eqGuard_agg,Result.andThen_ok,run_eql_struct,run_neq_struct]
theorem ay3:∀ t ks,findF t [(46,[EK.int,.int,.int,.int,.int,.str]),(25,[EK.int,.int]),(44,[EK.int,.int,.str])]=some ks->∀ (l m:List C) (b:Bool),La ks l m=some b->∀ (E:Env) (av:Nat->Prop) (w:World) (cs ds:Array Value),aF (bp E av w) l cs.toList->aF (bp E av w) m ds.toList->∀ (x y:Operand),
  (do eqGuard .eql t x y (.agg cs) (.agg ds); binOp .eql t (.agg cs) (.agg ds)).run Tryz.prog w=.ok (.bool b) w/\
  (do eqGuard .neq t x y (.agg cs) (.agg ds); binOp .neq t (.agg cs) (.agg ds)).run Tryz.prog w=.ok (.bool (!b)) w:=by
 intro t ks ht l m b hb E av w cs ds hl hm x y
 have hmem:=oc ht
 obtain ⟨cs⟩:=cs
 obtain ⟨ds⟩:=ds
 simp only at hl hm
 rcases List.mem_cons.1 hmem with h|hmem
 .simp only [bN] at h
  obtain ⟨rfl,rfl⟩:=h
  obtain ⟨x1,y1,l,m,c,rfl,rfl,hb1,rfl⟩:=kX hb
  obtain ⟨x2,y2,l,m,c,rfl,rfl,hb2,rfl⟩:=kX hb1
  obtain ⟨x3,y3,l,m,c,rfl,rfl,hb3,rfl⟩:=kX hb2
  obtain ⟨x4,y4,l,m,c,rfl,rfl,hb4,rfl⟩:=kX hb3
  obtain ⟨x5,y5,l,m,c,rfl,rfl,hb5,rfl⟩:=kX hb4
  obtain ⟨x6,y6,l,m,c,rfl,rfl,hb6,rfl⟩:=M4 hb5
  obtain ⟨rfl,rfl,rfl⟩:=Ec hb6
  obtain ⟨cs,rfl,hl1⟩:=dG hl
  obtain ⟨cs,rfl,hl2⟩:=dG hl1
  obtain ⟨cs,rfl,hl3⟩:=dG hl2
  obtain ⟨cs,rfl,hl4⟩:=dG hl3
  obtain ⟨cs,rfl,hl5⟩:=dG hl4
  obtain ⟨cs,rfl,hl6⟩:=dG hl5
  obtain rfl:=rz hl6
  obtain ⟨ds,rfl,hm1⟩:=dG hm
  obtain ⟨ds,rfl,hm2⟩:=dG hm1
  obtain ⟨ds,rfl,hm3⟩:=dG hm2
  obtain ⟨ds,rfl,hm4⟩:=dG hm3
  obtain ⟨ds,rfl,hm5⟩:=dG hm4
  obtain ⟨ds,rfl,hm6⟩:=dG hm5
  obtain rfl:=rz hm6
  exact Ep (by kernel_rfl) (λw=>bq5 9997 x1 x2 x3 y1 y2 y3 x4 x5 y4 y5 x6 y6 w) w x y
 .rcases List.mem_cons.1 hmem with h|hmem
  .simp only [bN] at h
   obtain ⟨rfl,rfl⟩:=h
   obtain ⟨x1,y1,l,m,c,rfl,rfl,hb1,rfl⟩:=kX hb
   obtain ⟨x2,y2,l,m,c,rfl,rfl,hb2,rfl⟩:=kX hb1
   obtain ⟨rfl,rfl,rfl⟩:=Ec hb2
   obtain ⟨cs,rfl,hl1⟩:=dG hl
   obtain ⟨cs,rfl,hl2⟩:=dG hl1
   obtain rfl:=rz hl2
   obtain ⟨ds,rfl,hm1⟩:=dG hm
   obtain ⟨ds,rfl,hm2⟩:=dG hm1
   obtain rfl:=rz hm2
   exact Ep (by kernel_rfl) (λw=>bq2 9998 x1 x2 y1 y2 w) w x y
  .rcases List.mem_cons.1 hmem with h|hmem
   .simp only [bN] at h
    obtain ⟨rfl,rfl⟩:=h
    obtain ⟨x1,y1,l,m,c,rfl,rfl,hb1,rfl⟩:=kX hb
    obtain ⟨x2,y2,l,m,c,rfl,rfl,hb2,rfl⟩:=kX hb1
    obtain ⟨x3,y3,l,m,c,rfl,rfl,hb3,rfl⟩:=M4 hb2
    obtain ⟨rfl,rfl,rfl⟩:=Ec hb3
    obtain ⟨cs,rfl,hl1⟩:=dG hl
    obtain ⟨cs,rfl,hl2⟩:=dG hl1
    obtain ⟨cs,rfl,hl3⟩:=dG hl2
    obtain rfl:=rz hl3
    obtain ⟨ds,rfl,hm1⟩:=dG hm
    obtain ⟨ds,rfl,hm2⟩:=dG hm1
    obtain ⟨ds,rfl,hm3⟩:=dG hm2
    obtain rfl:=rz hm3
    exact Ep (by kernel_rfl) (λw=>bf8 9998 x1 x2 y1 y2 x3 y3 w) w x y
   .cases hmem
end
end Go.Proofs.YtgbbdaegmfjahaaGreat
set_option maxRecDepth 1000000
namespace Go.Proofs.YtgbbdaegmfjahaaGreat
open Go Go.V
noncomputable section
def tyL:List (Nat×Ty):=[
 (3,⟨1,8,(.int .i64 0),.int⟩),
 (52,⟨14,152,(.agg ⟨[(.int .i64 0),(.int .i64 0),(.int .i64 0),(.int .i64 0),(.int .i64 0),(.slice none 0 0),(.int .i64 0),(.int .i64 0),(.string ⟨⟨[]⟩⟩),(.slice none 0 0),(.int .i64 0),(.int .i64 0),(.int .i64 0),(.bool false)]⟩),(.struct [(0,1),(1,1),(2,1),(3,1),(4,1),(5,1),(6,3),(9,1),(10,2),(12,1),(13,1)])⟩),
 (29,⟨4,64,(.agg ⟨[(.int .i64 0),(.int .i64 0),(.slice none 0 0),(.slice none 0 0)]⟩),(.struct [(0,2),(2,1),(3,1)])⟩),
 (26,⟨1,24,(.slice none 0 0),(.slice 52)⟩),
 (22,⟨1,24,(.slice none 0 0),(.slice 3)⟩),
 (46,⟨6,56,(.agg ⟨[(.int .i64 0),(.int .i64 0),(.int .i64 0),(.int .i64 0),(.int .i64 0),(.string ⟨⟨[]⟩⟩)]⟩),(.struct [(0,1),(1,1),(2,1),(3,3)])⟩),
 (4,⟨1,1,(.bool false),.bool⟩),
 (50,⟨1,24,(.slice none 0 0),(.slice 9)⟩),
 (57,⟨3,56,(.agg ⟨[(.slice none 0 0),(.slice none 0 0),(.int .i64 0)]⟩),(.struct [(0,1),(1,1),(2,1)])⟩),
 (27,⟨1,24,(.slice none 0 0),(.slice 57)⟩),
 (55,⟨1,24,(.slice none 0 0),(.slice 59)⟩),
 (44,⟨3,32,(.agg ⟨[(.int .i64 0),(.int .i64 0),(.string ⟨⟨[]⟩⟩)]⟩),(.struct [(0,1),(1,1),(2,1)])⟩),
 (59,⟨4,64,(.agg ⟨[(.int .i64 0),(.int .i64 0),(.slice none 0 0),(.slice none 0 0)]⟩),(.struct [(0,1),(1,1),(2,1),(3,1)])⟩),
 (54,⟨1,24,(.slice none 0 0),(.slice 92)⟩),
 (33,⟨1,24,(.slice none 0 0),(.slice 46)⟩),
 (92,⟨3,40,(.agg ⟨[(.int .i64 0),(.int .i64 0),(.slice none 0 0)]⟩),(.struct [(0,1),(1,1),(2,1)])⟩),
 (68,⟨1,8,(.pointer none),(.ptr 73)⟩),
 (69,⟨1,8,(.pointer none),(.ptr 71)⟩),
 (73,⟨7,88,(.agg ⟨[(.pointer none),(.int .i64 0),(.int .i64 0),(.slice none 0 0),(.slice none 0 0),(.int .i64 0),(.int .i64 0)]⟩),(.struct [(0,1),(1,4),(5,1),(6,1)])⟩),
 (9,⟨1,16,(.string ⟨⟨[]⟩⟩),.str⟩),
 (40,⟨1,8,(.int .i64 0),.int⟩),
 (96,⟨5,72,(.agg ⟨[(.int .i64 0),(.int .i64 0),(.slice none 0 0),(.slice none 0 0),(.map none)]⟩),(.struct [(0,4),(4,1)])⟩),
 (36,⟨3,24,(.agg ⟨[(.int .i64 0),(.int .i64 0),(.int .i64 0)]⟩),(.array 3 3)⟩),
 (25,⟨2,16,(.agg ⟨[(.int .i64 0),(.int .i64 0)]⟩),(.struct [(0,1),(1,1)])⟩),
 (167,⟨1,8,(.int .u64 0),.other⟩),
 (94,⟨1,8,(.map none),(.map 3 4)⟩),
 (150,⟨1,24,(.slice none 0 0),(.slice 151)⟩),
 (71,⟨2,32,(.agg ⟨[(.slice none 0 0),(.int .i64 0)]⟩),(.struct [(0,1),(1,1)])⟩),
 (82,⟨1,8,(.agg ⟨[.nilFunc]⟩),(.struct [(0,1)])⟩),
 (39,⟨1,24,(.slice none 0 0),(.slice 29)⟩),
 (113,⟨1,8,(.int .i64 0),.int⟩),
 (152,⟨1,8,.nilFunc,.func⟩),
 (160,⟨1,8,(.int .u64 0),.other⟩),
 (37,⟨6,48,(.agg ⟨[(.int .i64 0),(.int .i64 0),(.int .i64 0),(.int .i64 0),(.int .i64 0),(.int .i64 0)]⟩),(.array 2 36)⟩),
 (90,⟨1,8,(.pointer none),(.ptr 57)⟩),
 (109,⟨1,24,(.slice none 0 0),(.slice 108)⟩),
 (125,⟨1,8,.nilFunc,.func⟩),
 (159,⟨1,8,.nilFunc,.func⟩),
 (21,⟨1,4,(.int .i32 0),.other⟩),
 (77,⟨1,8,(.map none),(.map 3 82)⟩),
 (106,⟨1,8,.nilFunc,.func⟩),
 (108,⟨1,8,.nilFunc,.func⟩),
 (115,⟨1,24,(.slice none 0 0),(.slice 44)⟩),
 (133,⟨1,24,(.slice none 0 0),(.slice 4)⟩),
 (151,⟨1,8,(.pointer none),(.ptr 3)⟩),
 (5,⟨1,1,(.int .u8 0),.other⟩),
 (164,⟨1,4,(.int .u32 0),.other⟩),
 (80,⟨1,8,.nilFunc,.func⟩)
]
def eqL:List (Nat×List EK):=[(46,[.int,.int,.int,.int,.int,.str]),(25,[.int,.int]),(44,[.int,.int,.str])]
def nF:ec:=⟨λt=>findF t tyL,λt=>findF t eqL,λg=>none,λg=>none⟩
def bh2:List (Nat×List (Nat×List Nat)):=[
 (8,[(0,[0,1]),(1,[0,1,5]),(2,[1,5,6]),(3,[5,6,7]),(4,[4])]),
 (11,[(0,[0,2]),(1,[2,3]),(2,[2,3]),(3,[2,3,4]),(4,[2,3,4,29]),(5,[2,3,4]),(6,[2,3,4]),(7,[2,3]),(8,[2,3,5]),(9,[2,3,5,6]),(10,[2,3,5,6]),(11,[2,3,5,6]),(12,[2,3,5]),(13,[2,3,5]),(14,[2,3,5,7]),(15,[2,3,5,7,8]),(16,[2,3,5,7,8,75]),(17,[2,3,5,7,8]),(18,[2,3,5,7,8]),(19,[2,3,5,85]),(20,[2,3,5]),(21,[2,3,5]),(22,[2,3]),(23,[2]),(24,[2,3,5]),(25,[2,3,5,9]),(26,[2,3,5,9,103]),(27,[2,3,5,9]),(28,[2,3,5,9,111]),(29,[2,3,5,9]),(30,[2,3,5,9]),(31,[2,3]),(32,[2])]),
 (17,[(0,[2,3,4]),(1,[3,4,5]),(2,[3,4,5,6]),(3,[3,4,5,6,7]),(4,[3,4,5,6,7,22]),(5,[3,4,5,6,7]),(6,[3,4,5,6,7,34]),(7,[3,4,5,6,7,34,35]),(8,[4,5]),(9,[3,4,5,6,7,34,43]),(10,[4,5]),(11,[3,4,5,6,7,34,50]),(12,[4,5]),(13,[3,4,5,6,7,34,57]),(14,[4,5]),(15,[3,4,5,6,7,34,64]),(16,[4,5]),(17,[3,4,5,6,7,34,77]),(18,[4,5]),(19,[3,4,5,6,7,34,87]),(20,[4,5]),(21,[3,4,5,6,7,34,100]),(22,[4,5]),(23,[3,4,5,6,7,34,117]),(24,[4,5]),(25,[3,4,5,7,34,129]),(26,[3,4,5,7,132]),(27,[4,5]),(28,[3,4,5,7,34,138]),(29,[3,4,5,7,141]),(30,[4,5]),(31,[3,4,5,7,34,159]),(32,[3,4,5,7,162]),(33,[4,5]),(34,[3,4,5,34,177]),(35,[4,5]),(36,[3,4,5,189]),(37,[4,5]),(38,[4])]),
 (18,[(0,[1]),(1,[1,15]),(2,[2]),(3,[1,31]),(4,[2]),(5,[1,3]),(6,[1,3,4]),(7,[3,4,39,40]),(8,[3,4,39,40,41]),(9,[3,4,5,39,40]),(10,[3,4,39,40,47]),(11,[2]),(12,[3,4,39,40]),(13,[2])]),
 (21,[(0,[2,3,4]),(1,[2,3,4,5]),(2,[2,3,4,5,12,13,14]),(3,[2,3,4,5,12,13,14,15]),(4,[2,3,4,5,6,7,12,13,14]),(5,[2,3,4,5,6,7,12,13,14,20]),(6,[2,3,4,5,6,7,8,12,13,14]),(7,[2,3,4,5,6,7,8,12,13,14,35]),(8,[2,3,4,5,6,8,9,12,13,14]),(9,[2,3,4,5,6,8,9,12,13,14,43]),(10,[3,8,10]),(11,[]),(12,[2,3,4,5,6,8,12,13,14]),(13,[2,3,4,5,6,12,13,14,58]),(14,[2,3,4,5,12,13,14]),(15,[2,3,4,5,12,13,14]),(16,[4])]),
 (22,[(0,[0,1]),(1,[0,1,10]),(2,[4]),(3,[0,1,5]),(4,[0,1,5,14]),(5,[0,1,5]),(6,[0,1,5,25]),(7,[4]),(8,[4])]),
 (23,[(0,[]),(1,[1]),(2,[1,2]),(3,[0])]),
 (24,[(0,[0,1,4]),(1,[1,4,5]),(2,[1,4,5,6]),(3,[1,4,5,6,13]),(4,[1,4,5,6]),(5,[1,4,5,6,7]),(6,[1,4,5,6,7,28]),(7,[1,4,5,6,7,8,9]),(8,[1,4,5,6,8,46]),(9,[1,4,5,6]),(10,[4])]),
 (25,[(0,[0,1]),(1,[0,1,10]),(2,[4]),(3,[0,1,5]),(4,[0,1,5,14]),(5,[0,1,5]),(6,[0,1,5,25]),(7,[4]),(8,[4])]),
 (26,[(0,[1]),(1,[1,13]),(2,[2]),(3,[1,3]),(4,[1,3,14,15,16]),(5,[1,3,14,15,16,17]),(6,[1,3,5,14,15,16]),(7,[1,3,5,14,15,16,22,23]),(8,[1,3,5,14,15,16,22,23,24]),(9,[1,3,5,6,14,15,16,22,23]),(10,[1,3,5,7,8,14,15,16,22,23]),(11,[1,3,5,7,14,15,16,22,23,34]),(12,[1,3,5,7,9,10,14,15,16,22,23]),(13,[1,3,5,7,9,14,15,16,22,23,42]),(14,[1,3,5,7,14,15,16,22,23]),(15,[1,3,5,14,15,16,22,23]),(16,[1,3,5,14,15,16,22,23]),(17,[1,3,14,15,16]),(18,[2])]),
 (27,[(0,[1]),(1,[1,14]),(2,[2]),(3,[1,3]),(4,[1,3,4]),(5,[1,3,4,19]),(6,[1,3,4]),(7,[1,3,4,5]),(8,[1,3,4,5,27]),(9,[1,3,4,5,6,7]),(10,[1,3,4,5,6,35]),(11,[1,3,4,5]),(12,[1,3,4]),(13,[1,3,8]),(14,[1,3,8,45]),(15,[1,3,8]),(16,[1,3,8,61]),(17,[1,3,8,9]),(18,[1,3,8,9,10,11]),(19,[1,3,8,9,10,71]),(20,[1,3,8,9]),(21,[1,3,8]),(22,[2])]),
 (28,[(0,[1,2,3]),(1,[1,2,3,24]),(2,[6]),(3,[6])]),
 (32,[(0,[0,1]),(1,[0,1,10]),(2,[4]),(3,[0,1,5]),(4,[0,1,5,14]),(5,[0,1,5]),(6,[0,1,5,25]),(7,[4]),(8,[4])]),
 (33,[(0,[0,1]),(1,[0,1,18]),(2,[4]),(3,[0,1]),(4,[4])]),
 (34,[(0,[0,3]),(1,[0]),(2,[4])]),
 (35,[(0,[0]),(1,[0,3]),(2,[0,3,4]),(3,[0,3,4,12]),(4,[0,3,4]),(5,[0,3,4]),(6,[0,5]),(7,[0,5,40]),(8,[0,5]),(9,[0]),(10,[2])]),
 (36,[(0,[0,2]),(1,[0,2,20]),(2,[0,2,20,21]),(3,[]),(4,[0,2,20,38]),(5,[0,2,20,38]),(6,[0,2,20,38]),(7,[0,3]),(8,[0,3]),(9,[]),(10,[0,2,20,56]),(11,[0,4]),(12,[0,4]),(13,[]),(14,[0,2,20,70]),(15,[0,2,5]),(16,[0,2,5]),(17,[0,2,6]),(18,[0,7]),(19,[0,7]),(20,[]),(21,[0,2,20,98]),(22,[0,2,20,98]),(23,[0,2,8]),(24,[]),(25,[0,2,20,109]),(26,[0,2,9]),(27,[]),(28,[0,2,20,121]),(29,[0,2,20,121]),(30,[0,2,10]),(31,[0,2,10]),(32,[0,2]),(33,[0,2,11]),(34,[0,2,11]),(35,[]),(36,[0,2,20,153]),(37,[0,2,12]),(38,[0,2,12]),(39,[0,2,12]),(40,[0,12,168]),(41,[]),(42,[]),(43,[0,2,20,185]),(44,[0,13]),(45,[0,13]),(46,[0,13]),(47,[]),(48,[0,2,201]),(49,[0,2,14]),(50,[0,2,14]),(51,[0,2,14]),(52,[])]),
 (37,[(0,[0]),(1,[0,3]),(2,[0,3,4]),(3,[0,3,4,12]),(4,[0,3,4]),(5,[0,3,4,24]),(6,[0,3,4]),(7,[0,3,31]),(8,[2]),(9,[0,3,37]),(10,[2]),(11,[2])]),
 (40,[(0,[1]),(1,[1,12]),(2,[2]),(3,[15]),(4,[2]),(5,[2])]),
 (43,[(0,[2,3,4]),(1,[2,3,4,9]),(2,[4,5]),(3,[2,3,4,21]),(4,[4,5]),(5,[3,4,6]),(6,[4,6,33]),(7,[4,5]),(8,[4,5])]),
 (44,[(0,[2,3,4]),(1,[2,3,4,12]),(2,[4,5]),(3,[2,3,4,24]),(4,[4,5]),(5,[2,3,4,6]),(6,[2,3,4,6,7]),(7,[2,3,4,6,7,8]),(8,[2,3,4,6,7,8,34]),(9,[2,3,4,6,7,8,34,35]),(10,[3,4,6,7,8]),(11,[4,6,8]),(12,[2,3,4,6,7,8,34,84]),(13,[2,3,4,6,7,8,95]),(14,[3,4,6,7,9]),(15,[3,4,6,8]),(16,[3,4,6,8,131]),(17,[3,4,6,8]),(18,[4,6,8]),(19,[2,3,4,6,7,8,34,144]),(20,[4,6,7,8]),(21,[4,6,8]),(22,[3,4,6,7,8,34,184]),(23,[4,6,7,8]),(24,[4,6,8]),(25,[3,4,6,7,8,34,208]),(26,[4,6,7,8]),(27,[4,6,8]),(28,[3,4,6,8,225]),(29,[4,6,8]),(30,[4,6,237]),(31,[4,5]),(32,[4,5])]),
 (46,[(0,[1,2]),(1,[1,2,3]),(2,[1,2,3,4]),(3,[1,2,3,4,13]),(4,[1,2,3,4]),(5,[1,2,3,4]),(6,[1,2,3,5]),(7,[1,2,3,5,31]),(8,[1,2,3,5]),(9,[1,2,3,5]),(10,[2])]),
 (47,[(0,[0,1]),(1,[1,5]),(2,[1,5,10]),(3,[4]),(4,[4])]),
 (48,[(0,[]),(1,[0])]),
 (49,[(0,[1]),(1,[1,3]),(2,[1,3,8]),(3,[2]),(4,[2])]),
 (50,[(0,[1,2,3]),(1,[1,2,3,7]),(2,[1,2,3,7,8]),(3,[1,2,3,7,24]),(4,[1,2,3,7,24]),(5,[1,2,3,7,24]),(6,[6]),(7,[1,2,3,7,46]),(8,[6]),(9,[1,3,7,74]),(10,[6]),(11,[1,3,7,85]),(12,[6]),(13,[1,3,7,120,121,122]),(14,[1,3,7,120,121,122,123]),(15,[1,3,7,10,120,121,122]),(16,[1,3,7,120,121,122,140]),(17,[6]),(18,[1,3,7,120,121,122]),(19,[1,3,7,144]),(20,[6]),(21,[1,3,7,149]),(22,[6]),(23,[1,3,7]),(24,[6])]),
 (51,[(0,[2,3]),(1,[4])]),
 (54,[(0,[0,1]),(1,[4])]),
 (55,[(0,[1]),(1,[1,5]),(2,[2]),(3,[2])]),
 (56,[(0,[1]),(1,[2])]),
 (59,[(0,[0]),(1,[0,1]),(2,[0,1,2]),(3,[0,1,2,3]),(4,[0,1,2,3,4]),(5,[0])]),
 (60,[(0,[1,2,4,5]),(1,[1,2,4,5,6]),(2,[1,2,4,5,6,7]),(3,[1,2,4,5,6,7,20]),(4,[4,5]),(5,[1,2,4,5,6,7,24]),(6,[4,5]),(7,[1,2,4,5,6,7,33]),(8,[1,2,4,5,6,7,8]),(9,[1,2,4,5,6,7,51]),(10,[4,5]),(11,[4,5,6,7,55]),(12,[4,5,6,7,10]),(13,[4,5,7,73]),(14,[4,5]),(15,[1,2,4,5,6,7,75]),(16,[4,5,6,7,81]),(17,[4,5,6,7,12]),(18,[4,5,7,94]),(19,[4,5]),(20,[4,5])]),
 (61,[(0,[1,2,4]),(1,[1,2,4,6]),(2,[1,2,4,6,19]),(3,[4,5]),(4,[1,2,4,6,7]),(5,[1,2,4,6,7,27]),(6,[1,2,4,6,7]),(7,[1,2,4,6,7,8]),(8,[1,2,4,6,7,8,9]),(9,[1,2,4,6,7,8,9,39]),(10,[4,5]),(11,[1,2,4,6,7,48]),(12,[4,5]),(13,[4,5])]),
 (62,[(0,[1,2,4]),(1,[1,2,4,5]),(2,[1,2,4,5,6]),(3,[1,2,4,5,6,20]),(4,[4]),(5,[1,2,4,5,6,23]),(6,[1,2,4,5,6,23,24]),(7,[1,2,4,5,6,23,24]),(8,[1,2,4,5,6,7]),(9,[1,2,4,5,6,7,31]),(10,[1,4,6,57]),(11,[4]),(12,[4]),(13,[1,2,4,6,7,8]),(14,[1,2,4,6,7,8,69]),(15,[4]),(16,[1,4,6,8,77]),(17,[4]),(18,[1,4,8,81]),(19,[4]),(20,[4]),(21,[1,2,4,5,6,23,90]),(22,[1,2,4,5,6,110]),(23,[4]),(24,[1,2,4,5,6,9]),(25,[1,2,4,5,6,9,115]),(26,[1,2,4,5,6,9]),(27,[1,2,4,5,6,9,133]),(28,[4]),(29,[1,2,4,5,6,136]),(30,[1,2,4,5,6,10]),(31,[1,2,4,5,6,10,140]),(32,[1,2,4,5,6,10]),(33,[1,2,4,5,6,10,11]),(34,[1,2,4,5,6,10,11,12]),(35,[1,2,4,5,6,10,183]),(36,[4]),(37,[4])]),
 (63,[(0,[0]),(1,[2])]),
 (64,[(0,[1,2]),(1,[1,2,5]),(2,[1,2,5,14]),(3,[1,2,5]),(4,[1,2,5,6]),(5,[1,2,5,6,7]),(6,[1,2,5,6,7,32]),(7,[4]),(8,[1,2,5,44]),(9,[4]),(10,[4])]),
 (65,[(0,[1,2,3]),(1,[1,2,3]),(2,[1,3,7,8]),(3,[1,3,7,8,9]),(4,[1,3,7,8,28]),(5,[1,3,7,8,28]),(6,[6]),(7,[1,3,7,8,60]),(8,[6]),(9,[1,3,7,8,78]),(10,[10,11]),(11,[124]),(12,[6]),(13,[125]),(14,[6]),(15,[6])]),
 (66,[(0,[1,2,3]),(1,[1,2,3,7]),(2,[1,3,7,8]),(3,[1,3,7,8,51]),(4,[6]),(5,[1,3,7,8,54]),(6,[1,3,7,8,59]),(7,[6]),(8,[1,3,7,8,64]),(9,[6]),(10,[1,3,7,8,69]),(11,[3,7,8,74]),(12,[6]),(13,[3,8,9]),(14,[9,10]),(15,[115]),(16,[6]),(17,[6]),(18,[122]),(19,[6]),(20,[6])]),
 (67,[(0,[0]),(1,[0,3]),(2,[0,3,13]),(3,[0,3]),(4,[0,3]),(5,[3]),(6,[2])]),
 (68,[(0,[0]),(1,[3]),(2,[3,4]),(3,[3,4]),(4,[3,4]),(5,[3,4]),(6,[3,4]),(7,[3,4]),(8,[3,4]),(9,[3,4]),(10,[4]),(11,[2]),(12,[2])]),
 (72,[(0,[0,1]),(1,[0,1,10]),(2,[4]),(3,[0,1,12,13]),(4,[0,1,12,13,14]),(5,[0,1,5,12,13]),(6,[0,1,12,13,24]),(7,[4]),(8,[0,1,12,13]),(9,[4])]),
 (73,[(0,[1]),(1,[1,3]),(2,[1,3,27]),(3,[2]),(4,[1,3,4]),(5,[1,3,4,5]),(6,[1,3,4,5,36]),(7,[1,3,4,5]),(8,[1,3,4,5,6]),(9,[1,3,4,5,6,7]),(10,[1,3,4,5,6,74]),(11,[2]),(12,[1,3,4,5,6,107]),(13,[2]),(14,[1,3,4,5,6,8]),(15,[1,3,4,5,6,8,9]),(16,[1,3,4,5,6,8,9,113]),(17,[1,3,4,5,6,8,9]),(18,[1,3,4,5,6,8,9,135]),(19,[2]),(20,[1,3,4,5,6,178]),(21,[2]),(22,[1,3,4,5,6,181]),(23,[1,3,4,5,6,198]),(24,[2]),(25,[1,3,4,5]),(26,[2])]),
 (74,[(0,[1]),(1,[1,4]),(2,[1,4,5]),(3,[1,4,5]),(4,[1,4,5]),(5,[1,4,5]),(6,[1,4,5]),(7,[1,4,5]),(8,[1,4,5]),(9,[1,4,5]),(10,[2]),(11,[1,4,17]),(12,[1,4,17]),(13,[1,4,17]),(14,[1,4,17]),(15,[2]),(16,[1,4,27]),(17,[2]),(18,[1,36]),(19,[2]),(20,[2])]),
 (75,[(0,[1,2]),(1,[1,2]),(2,[1,2,22,23,24]),(3,[1,2,22,23,24,25]),(4,[1,2,3,4,22,23,24]),(5,[1,2,22,23,24]),(6,[1,2,22,23,24]),(7,[1,2,47,48,49]),(8,[1,2,47,48,49,50]),(9,[1,2,5,6,47,48,49]),(10,[1,2,5,7,8,47,48,49]),(11,[1,2,5,7,8,47,48,49,60,61,62]),(12,[1,2,5,7,8,47,48,49,60,61,62,63]),(13,[1,2,5,7,8,9,10,47,48,49,60,61,62]),(14,[1,2,5,7,8,47,48,49,60,61,62]),(15,[1,2,5,7,8,47,48,49,60,61,62]),(16,[1,2,5,7,8,47,48,49,75,76,77]),(17,[1,2,5,7,8,47,48,49,75,76,77,78]),(18,[1,2,5,7,8,11,12,47,48,49,75,76,77]),(19,[1,2,5,7,8,47,48,49,75,76,77]),(20,[1,2,5,7,8,47,48,49,75,76,77]),(21,[1,2,47,48,49]),(22,[1,2,47,48,49]),(23,[2])]),
 (76,[(0,[2,3]),(1,[2,3,5]),(2,[2,3,5,6]),(3,[2,3,5,6,15]),(4,[4]),(5,[2,3,5,6,15,16]),(6,[3,5,30]),(7,[4]),(8,[]),(9,[2,3,5,6,15,40]),(10,[2,3,5,6,51]),(11,[4]),(12,[2,3,5,6,7]),(13,[2,3,5,6,87]),(14,[4]),(15,[5,6]),(16,[]),(17,[2,3,5,6,15,97]),(18,[5,6,132]),(19,[4]),(20,[]),(21,[2,3,5,15,136]),(22,[5,156]),(23,[4]),(24,[]),(25,[2,3,5,15,160]),(26,[5,173]),(27,[4]),(28,[]),(29,[2,3,177]),(30,[4]),(31,[4])]),
 (77,[(0,[1]),(1,[1,3]),(2,[2])]),
 (78,[(0,[1,2,3]),(1,[1,2,3,6]),(2,[1,2,3,6,16]),(3,[1,2,3,6]),(4,[1,2,3,6,7]),(5,[1,2,3,6,7,8]),(6,[1,2,3,6,7,8,32]),(7,[1,2,3,6,7,8,42]),(8,[1,2,3,6,7,8]),(9,[1,2,3,6,7,8,56]),(10,[1,2,3,6,7,8]),(11,[1,2,3,6,7,70]),(12,[1,2,3,6]),(13,[1,2,3,6]),(14,[1,2,3,9]),(15,[1,2,3,9,86]),(16,[1,2,3,9]),(17,[1,2,3,9,10]),(18,[1,2,3,9,10,97]),(19,[1,2,3,9,10]),(20,[1,2,3,9,10]),(21,[1,2,3,9,11]),(22,[1,2,3,9,11,121]),(23,[1,2,3,9,11]),(24,[1,2,3,9,11]),(25,[1,2,3,9,11,148]),(26,[1,2,3,9,11])]),
 (79,[(0,[0]),(1,[0])]),
 (80,[(0,[0]),(1,[3]),(2,[3,4]),(3,[3,4]),(4,[3,4]),(5,[3,4]),(6,[3,4]),(7,[3,4]),(8,[3,4]),(9,[3,4]),(10,[3,4]),(11,[3,4]),(12,[4]),(13,[2]),(14,[2])]),
 (84,[(0,[1,2]),(1,[1,2,3]),(2,[1,2,3]),(3,[2,3]),(4,[2])]),
 (85,[(0,[1,2]),(1,[1,2,3]),(2,[1,2,3,4]),(3,[1,2,3,4,15]),(4,[1,2,3,4]),(5,[1,2,3,4,5]),(6,[1,2,3,4,5]),(7,[1,2,3,4]),(8,[1,2,3,6]),(9,[1,2,3,6,38]),(10,[1,2,3,6]),(11,[1,2,3,6,7]),(12,[1,2,3,6,7]),(13,[1,2,3,6,7]),(14,[1,2,3,6]),(15,[2])]),
 (86,[(0,[0,1]),(1,[0,1,7,8]),(2,[0,1,7,8,9]),(3,[0,1,5,7,8]),(4,[0,1,5,7,8,16]),(5,[4]),(6,[0,1,7,8]),(7,[4])]),
 (87,[(0,[1]),(1,[2])]),
 (88,[(0,[1]),(1,[1,3,4]),(2,[1,3,4,5]),(3,[1,5,15]),(4,[2]),(5,[1,36]),(6,[2]),(7,[1,73]),(8,[2]),(9,[1,112]),(10,[2]),(11,[1,127]),(12,[2]),(13,[1,161]),(14,[2]),(15,[2])]),
 (89,[(0,[0]),(1,[2])]),
 (90,[(0,[0]),(1,[2])]),
 (91,[(0,[0]),(1,[2])]),
 (92,[(0,[1,2,3]),(1,[6])]),
 (93,[(0,[3,4,5,6]),(1,[3,4,5,6,28]),(2,[6]),(3,[3,4,5,6,7]),(4,[3,4,5,6,7,31,32,33]),(5,[3,4,5,6,7,31,32,33,34]),(6,[3,4,5,6,7,9,31,32,33]),(7,[3,4,5,6,7,9,31,32,33,57]),(8,[6]),(9,[3,4,5,6,7,9,10,31,32,33]),(10,[3,4,5,6,7,9,31,32,33,82]),(11,[6]),(12,[3,4,5,6,7,31,32,33]),(13,[3,4,5,6,7,31,32,33]),(14,[3,4,5,6,7,88,89,90]),(15,[3,4,5,6,7,88,89,90,91]),(16,[3,4,5,6,7,12,88,89,90]),(17,[3,4,5,6,7,88,89,90,107]),(18,[6]),(19,[3,4,5,6,7,88,89,90]),(20,[3,5,6,7,110]),(21,[3,5,6,7,13]),(22,[6,136]),(23,[6]),(24,[6])]),
 (94,[(0,[0,1]),(1,[0,1,7,8]),(2,[0,1,7,8,9]),(3,[0,1,5,7,8]),(4,[0,1,5,7,8,16]),(5,[4]),(6,[0,1,7,8]),(7,[4])]),
 (95,[(0,[0]),(1,[3]),(2,[3,4]),(3,[3,4]),(4,[3,4]),(5,[3,4]),(6,[3,4]),(7,[3,4]),(8,[3,4]),(9,[3,4]),(10,[2]),(11,[3,13]),(12,[3,13]),(13,[3,13]),(14,[3,13]),(15,[2]),(16,[18]),(17,[2]),(18,[2])]),
 (96,[(0,[0,1,12,13,14]),(1,[0,1,12,13,14,15]),(2,[0,1,4,12,13,14]),(3,[0,1,12,13,14,19,20,21]),(4,[0,1,12,13,14,19,20,21,22]),(5,[0,1,6,12,13,14,19,20,21]),(6,[0,1,12,13,14,19,20,21,28]),(7,[0,1,12,13,14,19,20,21]),(8,[0,1,12,13,14]),(9,[0,32,33,34]),(10,[0,32,33,34,35]),(11,[0,8,32,33,34]),(12,[0,32,33,34,39,40,41]),(13,[0,32,33,34,39,40,41,42]),(14,[0,10,32,33,34,39,40,41]),(15,[0,32,33,34,39,40,41,48]),(16,[0,32,33,34,39,40,41]),(17,[0,32,33,34])]),
 (98,[(0,[0]),(1,[2])]),
 (99,[(0,[2,3,4,5]),(1,[2,3,4,5,6]),(2,[2,3,4,5,6,18]),(3,[2,3,4,5,7,20]),(4,[2,3,4,5,7,8]),(5,[2,3,4,5,7,8,30]),(6,[3,4,5,7,8,9]),(7,[3,4,5,7,8,9,35]),(8,[4,5]),(9,[3,4,5,8,9,46]),(10,[4,5]),(11,[3,4,5,8,9,58]),(12,[4,5]),(13,[4,5,65]),(14,[4,5]),(15,[3,4,5,10]),(16,[4,5])]),
 (100,[(0,[2,3]),(1,[4])]),
 (101,[(0,[2,3]),(1,[4])]),
 (102,[(0,[0]),(1,[2])]),
 (103,[(0,[1,2]),(1,[1,2,5]),(2,[1,2,5,11]),(3,[1,2,5]),(4,[1,2,5,6]),(5,[1,2,5,6,32]),(6,[1,2,5,6,7]),(7,[1,2,5,47]),(8,[4]),(9,[4])]),
 (104,[(0,[0]),(1,[2])]),
 (105,[(0,[2,3]),(1,[4])]),
 (106,[(0,[2,3]),(1,[4])]),
 (107,[(0,[0]),(1,[2])]),
 (108,[(0,[0]),(1,[2])]),
 (109,[(0,[1,2,3,4]),(1,[1,2,3,4,16]),(2,[8]),(3,[1,2,3,4,9]),(4,[1,2,3,4,26]),(5,[8]),(6,[1,2,3,4,42]),(7,[8]),(8,[2,3,4,10,11]),(9,[10,11,12,13]),(10,[8])]),
 (110,[(0,[0]),(1,[2])]),
 (111,[(0,[1,2,3,4]),(1,[1,2,3,4,15]),(2,[8]),(3,[1,2,3,4,9]),(4,[1,2,3,4,9,10]),(5,[1,2,3,4,49]),(6,[8]),(7,[2,3,4,11]),(8,[4,11,12]),(9,[8])]),
 (112,[(0,[1]),(1,[1,3]),(2,[1,3,17]),(3,[1,3]),(4,[2])]),
 (113,[(0,[1]),(1,[1,3]),(2,[1,3]),(3,[1,3]),(4,[1,3]),(5,[1,3,4]),(6,[1,3,4,5]),(7,[1,3,4,5,21]),(8,[1,3,4,5,23]),(9,[1,3,4,5]),(10,[1,3,4,5,28]),(11,[1,3,4,5]),(12,[1,3,4,33]),(13,[1,3,4]),(14,[1,3,4]),(15,[1,3,4,41]),(16,[1,3,4,41,42]),(17,[1,3]),(18,[1,3,4]),(19,[1,3,4,41,55]),(20,[1,3]),(21,[1,3,4]),(22,[1,3,4,41,63]),(23,[1,3]),(24,[1,3,4]),(25,[1,3,4,41,71]),(26,[1,3]),(27,[1,3,4]),(28,[1,3,4,41,79]),(29,[1,3,4,41,79]),(30,[1,3]),(31,[1,3,4]),(32,[1,3,4,41,88]),(33,[1,3]),(34,[1,3,4]),(35,[1,3,4,41,96]),(36,[1,3]),(37,[1,3,4]),(38,[1,3,4,41,104]),(39,[1,3,4,41,104]),(40,[1,3,4,41,104]),(41,[1,3]),(42,[1,3]),(43,[1,3,6]),(44,[1,3,4]),(45,[1,3,4,41,123]),(46,[1,3]),(47,[1,3,4]),(48,[1,3,4,41,144]),(49,[1,3]),(50,[1,3,4]),(51,[1,3,4,152]),(52,[1,3]),(53,[1,3,4]),(54,[2])]),
 (114,[(0,[1,2,3]),(1,[6])]),
 (115,[(0,[0]),(1,[3]),(2,[3,4]),(3,[3,4]),(4,[2]),(5,[3,7]),(6,[3,7]),(7,[3,7]),(8,[3,7]),(9,[3,7]),(10,[3,7]),(11,[3,7]),(12,[7]),(13,[2]),(14,[2])]),
 (116,[(0,[2,3,4]),(1,[2,3,4,27]),(2,[6]),(3,[2,3,4,7]),(4,[2,3,4,7,8]),(5,[2,3,4,7,8,32]),(6,[2,3,4,7,8]),(7,[2,3,4,7,8,9]),(8,[2,3,4,7,8,9,53]),(9,[6]),(10,[2,3,4,7,8]),(11,[2,3,4,7,10]),(12,[2,3,4,7,10,62]),(13,[2,3,4,7,10]),(14,[2,3,4,7,10,11]),(15,[2,3,4,7,10,11,93]),(16,[6]),(17,[2,3,4,7,10,11,125]),(18,[6]),(19,[2,3,4,7,10]),(20,[2,3,4,7,12]),(21,[2,3,4,7,12,133]),(22,[2,3,4,7,12]),(23,[2,3,4,7,12,140]),(24,[2,3,4,7,12,169]),(25,[6]),(26,[6])]),
 (117,[(0,[0]),(1,[0,4]),(2,[2]),(3,[2])]),
 (118,[(0,[0]),(1,[0,4]),(2,[2]),(3,[2])]),
 (119,[(0,[0]),(1,[0,4]),(2,[2]),(3,[2])]),
 (120,[(0,[0]),(1,[0,4]),(2,[2]),(3,[2])]),
 (121,[(0,[0]),(1,[0,4]),(2,[2]),(3,[2])]),
 (122,[(0,[0]),(1,[0,4]),(2,[2]),(3,[2])]),
 (123,[(0,[1]),(1,[2])]),
 (124,[(0,[0]),(1,[2])]),
 (125,[(0,[3,4,5]),(1,[3,6]),(2,[3,6,7]),(3,[3,6,7,20,21]),(4,[3,6,7,20,21,22]),(5,[3,6,7,8,20,21]),(6,[3,6,7,9,20,21]),(7,[3,6,7,9,20,21]),(8,[3,6,7,20,21]),(9,[3,6,7,20,21]),(10,[6,7,54,55,56]),(11,[6,7,54,55,56,57]),(12,[6,7,11,54,55,56]),(13,[6,7,11,54,55,56,61,62,63]),(14,[6,7,11,54,55,56,61,62,63,64]),(15,[6,7,11,13,54,55,56,61,62,63]),(16,[6,7,11,54,55,56,61,62,63]),(17,[6,7,11,54,55,56,61,62,63]),(18,[6,7,11,54,55,56,73,74,75]),(19,[6,7,11,54,55,56,73,74,75,76]),(20,[6,7,11,14,15,54,55,56,73,74,75]),(21,[6,7,11,14,54,55,56,73,74,75]),(22,[6,7,11,54,55,56,73,74,75]),(23,[6,7,11,54,55,56,73,74,75]),(24,[6,7,54,55,56])]),
 (127,[(0,[1]),(1,[1,6]),(2,[1,3]),(3,[2]),(4,[1,18]),(5,[2]),(6,[1,20]),(7,[1,20,21]),(8,[1,20,21]),(9,[2]),(10,[1,20,27]),(11,[2]),(12,[1,20,37]),(13,[2]),(14,[1,20,47]),(15,[2]),(16,[1,57]),(17,[2]),(18,[2])]),
 (128,[(0,[0,1,2,6]),(1,[0,1,2,6,10]),(2,[0,1,2,6]),(3,[0,1,2,6,18]),(4,[0,1,2,6])]),
 (130,[(0,[0]),(1,[4]),(2,[4,5]),(3,[2,3]),(4,[4,7]),(5,[2,3]),(6,[4,9]),(7,[2,3]),(8,[4,11]),(9,[2,3]),(10,[4,13]),(11,[4,13]),(12,[2,3]),(13,[4,16]),(14,[2,3]),(15,[4,18]),(16,[2,3]),(17,[4,20]),(18,[4,20]),(19,[20]),(20,[2,3]),(21,[2,3])]),
 (131,[(0,[0]),(1,[0,5,6,7]),(2,[0,5,6,7,8]),(3,[0,3,4,5,6,7]),(4,[0,5,6,7,20]),(5,[2]),(6,[0,5,6,7]),(7,[2])]),
 (132,[(0,[0,2,4]),(1,[0,2,4,9]),(2,[0,2,4]),(3,[0,2,4,5]),(4,[0,2,4,26])]),
 (133,[(0,[1,2,3,6]),(1,[1,2,3,6,16]),(2,[6,7]),(3,[1,6,25,26,27]),(4,[1,6,25,26,27,28]),(5,[1,6,9,25,26,27]),(6,[1,6,9,25,26,27,44]),(7,[6,7]),(8,[1,6,25,26,27]),(9,[6,7])]),
 (134,[(0,[1,2,3]),(1,[1,2,3,14]),(2,[6]),(3,[1,2,3,7]),(4,[1,2,3,7,18]),(5,[1,2,3,7]),(6,[1,2,3,7,46]),(7,[6]),(8,[6])]),
 (135,[(0,[0,1,2]),(1,[6])]),
 (136,[(0,[0]),(1,[0,3]),(2,[0,3,7]),(3,[0,3]),(4,[0,3,24]),(5,[2]),(6,[2])]),
 (137,[(0,[1,2]),(1,[1,2,5]),(2,[1,2,5,10]),(3,[1,2,5]),(4,[1,2,5,20]),(5,[4]),(6,[4])]),
 (138,[(0,[1]),(1,[1,3,4]),(2,[1,3,4,7]),(3,[2]),(4,[1,3,4,7,8]),(5,[1,3,4,7,8]),(6,[1,3,7,11]),(7,[1,3,4]),(8,[1,3,7,13]),(9,[1,3,4]),(10,[1,3,7,15]),(11,[1,5]),(12,[2]),(13,[1,3,7,33]),(14,[1,3,4]),(15,[1,3,35]),(16,[1,3,4]),(17,[2])]),
 (139,[(0,[1,2,6,7,8]),(1,[1,2,6,7,8,9]),(2,[1,2,5,6,7,8]),(3,[1,2,5,6,7,8,16]),(4,[1,2,6,7,8]),(5,[1,2,6,7,8])]),
 (140,[(0,[0,1,5,6]),(1,[0,1,5,6,7]),(2,[0,1,3,5,6]),(3,[0,1,5,6]),(4,[0,1,5,6])]),
 (145,[(0,[0]),(1,[0,3]),(2,[0,3,7]),(3,[0,3]),(4,[0,3,19]),(5,[2]),(6,[2])]),
 (146,[(0,[0,1]),(1,[0,1,7,8]),(2,[0,1,7,8,9]),(3,[0,1,5,7,8]),(4,[0,1,5,7,8,16]),(5,[4]),(6,[0,1,7,8]),(7,[4])]),
 (147,[(0,[0,1]),(1,[0,1,5]),(2,[0,1,5,9]),(3,[0,1,5]),(4,[0,1,5,17]),(5,[4]),(6,[4])]),
 (148,[(0,[0,1]),(1,[4])]),
 (149,[(0,[0]),(1,[2])])
]
def fnL:List (Nat×Func):=[(8,Tryz.f8),(11,Tryz.f11),(17,Tryz.f17),(18,Tryz.f18),(21,Tryz.f21),(22,Tryz.f22),(23,Tryz.f23),(24,Tryz.f24),(25,Tryz.f25),(26,Tryz.f26),(27,Tryz.f27),(28,Tryz.f28),(32,Tryz.f32),(33,Tryz.f33),(34,Tryz.f34),(35,Tryz.f35),(36,Tryz.f36),(37,Tryz.f37),(40,Tryz.f40),(43,Tryz.f43),(44,Tryz.f44),(46,Tryz.f46),(47,Tryz.f47),(48,Tryz.f48),(49,Tryz.f49),(50,Tryz.f50),(51,Tryz.f51),(54,Tryz.f54),(55,Tryz.f55),(56,Tryz.f56),(59,Tryz.f59),(60,Tryz.f60),(61,Tryz.f61),(62,Tryz.f62),(63,Tryz.f63),(64,Tryz.f64),(65,Tryz.f65),(66,Tryz.f66),(67,Tryz.f67),(68,Tryz.f68),(72,Tryz.f72),(73,Tryz.f73),(74,Tryz.f74),(75,Tryz.f75),(76,Tryz.f76),(77,Tryz.f77),(78,Tryz.f78),(79,Tryz.f79),(80,Tryz.f80),(84,Tryz.f84),(85,Tryz.f85),(86,Tryz.f86),(87,Tryz.f87),(88,Tryz.f88),(89,Tryz.f89),(90,Tryz.f90),(91,Tryz.f91),(92,Tryz.f92),(93,Tryz.f93),(94,Tryz.f94),(95,Tryz.f95),(96,Tryz.f96),(98,Tryz.f98),(99,Tryz.f99),(100,Tryz.f100),(101,Tryz.f101),(102,Tryz.f102),(103,Tryz.f103),(104,Tryz.f104),(105,Tryz.f105),(106,Tryz.f106),(107,Tryz.f107),(108,Tryz.f108),(109,Tryz.f109),(110,Tryz.f110),(111,Tryz.f111),(112,Tryz.f112),(113,Tryz.f113),(114,Tryz.f114),(115,Tryz.f115),(116,Tryz.f116),(117,Tryz.f117),(118,Tryz.f118),(119,Tryz.f119),(120,Tryz.f120),(121,Tryz.f121),(122,Tryz.f122),(123,Tryz.f123),(124,Tryz.f124),(125,Tryz.f125),(127,Tryz.f127),(128,Tryz.f128),(130,Tryz.f130),(131,Tryz.f131),(132,Tryz.f132),(133,Tryz.f133),(134,Tryz.f134),(135,Tryz.f135),(136,Tryz.f136),(137,Tryz.f137),(138,Tryz.f138),(139,Tryz.f139),(140,Tryz.f140),(145,Tryz.f145),(146,Tryz.f146),(147,Tryz.f147),(148,Tryz.f148),(149,Tryz.f149)]
def fnF (f:FuncId):Option Func:=findF f fnL
def al2 (f:FuncId) (r:Nat):Option (List Tmp):=match findF f bh2 with
 | some l=>findF r l
 | none=>none
def aN4:List (Nat×Nat):=[(74,3),(33,4),(34,1),(35,1),(36,1),(37,4),(67,1),(50,1),(92,1),(93,1),(56,1),(96,1),(101,1),(132,1),(84,5),(85,5),(46,1),(75,1),(78,1),(128,1),(81,1),(125,1),(126,1),(139,1),(140,1),(76,1),(42,1),(117,2),(118,2),(119,2),(121,2),(122,2)]
def bb2:List Nat:=[45]
def hints:Hint:=⟨al2,λf=>match findF f aN4 with
 | some m=>m
 | none=>0,λt=>qj t bb2⟩
theorem fm {α:Type} {p:α->Prop} {a:α} {l:List α} (h:p a/\∀ x∈l,p x):∀ x∈a::l,p x:=List.forall_mem_cons.2 h
theorem tc {x:Nat×Ty} {l:List (Nat×Ty)} (k:∀ y∈l,cC Tryz.prog y.1 y.2) (a:wb Tryz.prog x.1=some x.2.kd:=by kernel_rfl) (b:(Tryz.prog.info? x.1).map (λi=>(i.size,i.bytes,i.zero))=some (x.2.size,x.2.bytes,some x.2.zero):=by kernel_rfl) (c:x.2.zero.cells.size=x.2.size:=by kernel_rfl):∀ y∈x::l,cC Tryz.prog y.1 y.2:=List.forall_mem_cons.2 ⟨⟨a,b,c⟩,k⟩
theorem fc {x:Nat×Func} {l:List (Nat×Func)} (k:∀ y∈l,Tryz.prog.funcs[y.1]?=some y.2/\(y.2.name == "runtime.NumGoroutine")=false) (a:Tryz.prog.funcs[x.1]?=some x.2:=by kernel_rfl) (b:(x.2.name == "runtime.NumGoroutine")=false:=by kernel_rfl):∀ y∈x::l,Tryz.prog.funcs[y.1]?=some y.2/\(y.2.name == "runtime.NumGoroutine")=false:=List.forall_mem_cons.2 ⟨⟨a,b⟩,k⟩
theorem ar5:∀ x∈tyL,cC Tryz.prog x.1 x.2:=
 (tc (tc (tc (tc (tc (tc (tc (tc (tc (tc (tc (tc (tc (tc (tc (tc (tc (tc (tc (tc (tc (tc (tc (tc (tc (tc (tc (tc (tc (tc (tc (tc (tc (tc (tc (tc (tc (tc (tc (tc (tc (tc (tc (tc (tc (tc (tc (tc (List.forall_mem_nil _)))))))))))))))))))))))))))))))))))))))))))))))))
theorem si:dU Tryz.prog nF:=⟨λt y h=>ar5 (t,y) (oc h),ay3⟩
theorem ar2:∀ x∈fnL,Tryz.prog.funcs[x.1]?=some x.2/\(x.2.name == "runtime.NumGoroutine")=false:=
 (fc (fc (fc (fc (fc (fc (fc (fc (fc (fc (fc (fc (fc (fc (fc (fc (fc (fc (fc (fc (fc (fc (fc (fc (fc (fc (fc (fc (fc (fc (fc (fc (fc (fc (fc (fc (fc (fc (fc (fc (fc (fc (fc (fc (fc (fc (fc (fc (fc (fc (fc (fc (fc (fc (fc (fc (fc (fc (fc (fc (fc (fc (fc (fc (fc (fc (fc (fc (fc (fc (fc (fc (fc (fc (fc (fc (fc (fc (fc (fc (fc (fc (fc (fc (fc (fc (fc (fc (fc (fc (fc (fc (fc (fc (fc (fc (fc (fc (fc (fc (fc (fc (fc (fc (fc (fc (fc (fc (List.forall_mem_nil _)))))))))))))))))))))))))))))))))))))))))))))))))))))))))))))))))))))))))))))))))))))))))))))))))))))))))))))
theorem CF:M2 Tryz.prog fnF:=λf fn h=>ar2 (f,fn) (oc h)
theorem mixed:Tryz.prog.follows .mixedOrders=true:=by kernel_rfl
end
end Go.Proofs.YtgbbdaegmfjahaaGreat
namespace Go.V
noncomputable section
structure Sq (α:Type) where
 n:Nat
 get:Nat->α
structure KZ where
 fn:Int
 line:Int
structure jd where
 kind:Int
 n:Int
 s:ByteArray
structure au where
 op:Int
 a:Int
 b:Int
 c:Int
 n:Int
 args:Sq Int
 k:jd
 names:Sq ByteArray
 place:KZ
 exit:Int
 once:Bool
structure cK where
 fn:Int
 line:Int
 vars:Sq Int
structure cZ where
 value:Int
 cls:Int
 names:Sq ByteArray
 items:Sq Int
structure aq where
 frames:Sq cK
 az:Sq cZ
 back:Int
structure ak where
 place:KZ
 ins:Sq au
 aa:Sq aq
section
variable (s:ByteArray) {α:Type} (t:ak) (v:jd) (op:Int) (g:Nat->I) (ds:List D) (x:I) (sz:Nat) (a:Int) (k:Nat) (n b c:Int)
def iI:I:=.v (.int .i64 n)
def iS:I:=.v (.string s)
def iB (b:Bool):I:=.v (.bool b)
def ixI (l:List I):Nat->I:=List.rec (λ_=>.v (.bool false)) (λx _ ih k=>Nat.rec x (λm _=>ih m) k) l
def xT (e:α->Nat->I) (s:Sq α):I:=.sl sz s.n λi=>e (s.get i)
def bn:Nat->I:=λ_=>iI n
def cA:Nat->I:=λ_=>iS s
def bW (x:au):List I:=[iI x.op,iI x.a,iI x.b,iI x.c,iI x.n,xT 1 bn x.args,iI x.k.kind,iI x.k.n,iS x.k.s,xT 1 cA x.names,iI x.place.fn,iI x.place.line,iI x.exit,iB x.once]
def gw (x:au):Nat->I:=ixI (bW x)
def mS (x:cK):List I:=[iI x.fn,iI x.line,xT 1 bn x.vars]
def dD (x:cK):Nat->I:=ixI (mS x)
def xm (x:cZ):List I:=[iI x.value,iI x.cls,xT 1 cA x.names,xT 1 bn x.items]
def ff (x:cZ):Nat->I:=ixI (xm x)
def bJ (x:aq):List I:=[xT 3 dD x.frames,xT 4 ff x.az,iI x.back]
def dQ (x:aq):Nat->I:=ixI (bJ x)
def aT:List I:=[iI t.place.fn,iI t.place.line,xT 14 gw t.ins,xT 3 dQ t.aa]
def OX:List I:=[iI v.kind,iI v.n,iS v.s]
def fk (x:au):D:=.a (lift (bW x))
def qd (x:aq):D:=.a (lift (bJ x))
def aO:D:=.a (lift (aT t))
def Lh:D:=.a (lift (OX v))
def fM (e:α->Nat->I) (s:Sq α):D:=.c (.im (xT sz e s))
def ag4:D:=.c (.im (iS s))
def ew (n e:Int):au:=⟨op,a,b,c,n,⟨0,λ_=>0⟩,⟨0,0,⟨⟨[]⟩⟩⟩,⟨0,λ_=>⟨⟨[]⟩⟩⟩,⟨0,0⟩,e,false⟩
def fO (n e:Int):List C:=lift [iI op,iI a,iI b,iI c,iI n,.v (.slice none 0 0),iI 0,iI 0,iS ⟨⟨[]⟩⟩,.v (.slice none 0 0),iI 0,iI 0,iI e,iB false]
def cV:Int:=match x with
 | .v (.int .i64 n)=>n
 | _=>0
def ac1:ByteArray:=match x with
 | .v (.string s)=>s
 | _=>⟨⟨[]⟩⟩
def aq0:Bool:=match x with
 | .v (.bool b)=>b
 | _=>false
def Qz (r:(Nat->I)->α) (x:I):Sq α:=match x with
 | .sl _ n get=>⟨n,λi=>r (get i)⟩
 | _=>⟨0,λ_=>r λ_=>.v (.bool false)⟩
def rI:Int:=cV (g 0)
def rS:ByteArray:=ac1 (g 0)
def kL:au:=⟨cV (g 0),cV (g 1),cV (g 2),cV (g 3),cV (g 4),Qz rI (g 5),⟨cV (g 6),cV (g 7),ac1 (g 8)⟩,Qz rS (g 9),⟨cV (g 10),cV (g 11)⟩,cV (g 12),aq0 (g 13)⟩
def aB9:cK:=⟨cV (g 0),cV (g 1),Qz rI (g 2)⟩
def aR9:cZ:=⟨cV (g 0),cV (g 1),Qz rS (g 2),Qz rI (g 3)⟩
def qx:aq:=⟨Qz aB9 (g 0),Qz aR9 (g 1),cV (g 2)⟩
def aA9:ak:=⟨⟨cV (g 0),cV (g 1)⟩,Qz kL (g 2),Qz qx (g 3)⟩
def bs8:jd:=⟨cV (g 0),cV (g 1),ac1 (g 2)⟩
def cI (c:C):I:=match c with
 | .im x=>x
 | _=>.v (.bool false)
def nC (l:List C) (k:Nat):I:=match bh l k with
 | some c=>cI c
 | none=>.v (.bool false)
def gD (d:D):Nat->I:=match d with
 | .a l=>nC l
 | .c x=>λ_=>cI x
 | _=>λ_=>.v (.bool false)
def aD:D:=match bh ds k with
 | some d=>d
 | none=>.t []
def aI:Int:=rI (gD (aD ds k))
def aS:ByteArray:=rS (gD (aD ds k))
def qA:au:=kL (gD (aD ds k))
def IJ:aq:=qx (gD (aD ds k))
def dO:ak:=aA9 (gD (aD ds k))
def ad9:jd:=bs8 (gD (aD ds k))
def SW:Sq Int:=Qz rI (gD (aD ds k) 0)
def B7:Sq ByteArray:=Qz rS (gD (aD ds k) 0)
end
end
section
variable {T:ec} {P:Program} {f:FuncId} {ds ds':List D} {rs aV:List ah} {d d':D}
theorem aF.le {E:Env} {av:Nat->Prop} {w:World}:∀ {ds ds':List D} {vs:List Value},aF aX ds ds'->aF (bj E av w) ds vs->aF (bj E av w) ds' vs
 | _,_,_,.nil,.nil=>.nil
 | _,_,_,.cons q k,.cons q' k'=>.cons (q _ _ _ _ q') (aF.le k k')
theorem bt.pre (h:bt T P f ds' rs d aV) (hd:aF aX ds ds'):bt T P f ds rs d aV:=
 ⟨h.out.1,λN aA w0 sp sl df a w E vs hR hv=>h.out.2 N aA w0 sp sl df a w E vs hR (aF.le hd hv)⟩
theorem bt.post (h:bt T P f ds rs d aV) (hd:aX d d'):bt T P f ds rs d' aV:=
 ⟨h.out.1,λN aA w0 sp sl df a w E vs hR hv=>(h.out.2 N aA w0 sp sl df a w E vs hR hv).mono λe w' ⟨v,E',h1,h2,h3,h4⟩=>⟨v,E',h1,h2,h3,hd _ _ _ _ h4⟩⟩
end
theorem fg:(∀ b:Bool,(true||b)=true)/\(∀ b:Bool,(false||b)=b)/\(∀ b:Bool,(true&&b)=b)/\(∀ b:Bool,(false&&b)=false)/\((!true)=false)/\((!false)=true)/\(∀ b:Bool,(b||true)=true)/\(∀ b:Bool,(b||false)=b)/\(∀ b:Bool,(b&&true)=b)/\(∀ b:Bool,(b&&false)=false)/\(∀ (α:Type) (a b:α),cond true a b=a)/\(∀ (α:Type) (a b:α),cond false a b=b)/\(∀ b:Bool,(!(!b))=b):=by simp
theorem rc {x:ah} {l l':List ah} (h:aF aY l l'):aF aY (x::l) (x::l'):=.cons (aY.refl _) h
theorem wk1 {sl l:a8} {t:Tmp} {d:D} (h:eT sl t=some d) (k:Xb sl l):Xb sl ((t,d,[])::l):=⟨⟨rfl,d,h,aX.refl _⟩,k⟩
theorem aQ {m n:Nat} (h:Nat.ble m n=true):m<=n:=Nat.le_of_ble_eq_true h
def ci (n:Int):C:=.im (.v (.int .i64 n))
end Go.V
namespace Go.Proofs.YtgbbdaegmfjahaaGreat
open Go Go.V
abbrev LC:=bt nF Tryz.prog
abbrev WC:=zC nF Tryz.prog
noncomputable section
def yK (f:FuncId):Func:=match fnF f with
 | some fn=>fn
 | none=>default
def pM (f:FuncId):Code:=match (yK f).body with
 | some c=>c
 | none=>.skip
def sN (id:Nat) (c:Code):List Item->Option (List Item):=match c with
 | .region i ops d=>λk=>Bool.rec none (some (.code (.region i ops d)::k)) (Nat.beq i id)
 | .seq a b=>λk=>match sN id a (.code b::k) with
   | some l=>some l
   | none=>sN id b k
 | .cond x a b=>λk=>match sN id a k with
   | some l=>some l
   | none=>sN id b k
 | .block i a=>λk=>sN id a (.inBlock i::k)
 | .loop a=>λk=>sN id a (.inLoop a::k)
 | _=>λ_=>none
def af (f:FuncId) (id:Nat):List Item:=match sN id (pM f) [] with
 | some l=>l
 | none=>[]
abbrev LP:=List Item->VS->Prop
section
variable (X:eU) (f:FuncId) (stop:Nat->Bool) (L:LP) (Q:D->List ah->Prop)
def ep (ds:List D) (rs:List ah):Prop:=
 wS nF Tryz.prog X hints (yK f).ntmps f none stop L (uJ nF (yK f).results.toList Q) 10000 false [.code (pM f)] ⟨dF 0 ds,rs,[]⟩
def b5 (id:Nat) (s:VS):Prop:=
 wS nF Tryz.prog X hints (yK f).ntmps f none stop L (uJ nF (yK f).results.toList Q) 10000 true (af f id) s
def X0:eU:={ F:=λ_ _ _=>(.t [],[],[]) }
end
def bH:Nat->Bool:=λ_=>false
end
open Go Go.V
def ae (f:FuncId) (n0:Nat) (Q:D->List ah->Prop) (todo:List Item) (s:VS):Prop:=
 ∀ (b:Frame) (cs:List Frame),b.fn=f->Goal Tryz.prog nF (yK f).ntmps b cs none n0 (uJ nF (yK f).results.toList Q) todo s
theorem reach {X:eU} {f:FuncId} {stop:Nat->Bool} {n0:Nat} {Q:D->List ah->Prop} {todo:List Item} {s:VS} {go:Bool} {n:Nat}
  (h:wS nF Tryz.prog X hints (yK f).ntmps f none stop (ae f n0 Q) (uJ nF (yK f).results.toList Q) n go todo s):ae f n0 Q todo s:=
 λb cs hb=>yN si mixed hb (λ_ _ q=>q b cs hb) (λ_ _ q=>q) n h
structure Fn (f:FuncId):Prop where
 nF:fnF f=some (yK f):=by kernel_rfl
 body:(yK f).body=some (pM f):=by kernel_rfl
theorem km {a b:Prop} (h:a) (e:a=b:=by kernel_rfl):b:=Eq.mp e h
section
variable {X:eU} {f:FuncId} {stop:Nat->Bool} {ds:List D} {d:D}
theorem VL (hf:Fn f) (hl:ds.length<=(yK f).ntmps) (h:ae f 0 (a7 d) [.code (pM f)] ⟨dF 0 ds,[],[]⟩):LC f ds [] d []:=by
 obtain ⟨h1,h2⟩:=CF f _ hf.nF
 exact Ug si h1 h2 hf.body hl h
theorem iW (hf:Fn f) {rs:List ah} {aV:List ah} (hl:ds.length<=(yK f).ntmps) (h:ae f rs.length (Go.V.Ends rs d aV) [.code (pM f)] ⟨dF 0 ds,rs,[]⟩):LC f ds rs d aV:=by
 obtain ⟨h1,h2⟩:=CF f _ hf.nF
 exact ab8 si h1 h2 hf.body hl h
noncomputable def bf (QD:D->Prop) (d1:D) (fB:List ah):Prop:=gR (dZ fB d1) QD
theorem rP (hf:Fn f) (hl:ds.length<=(yK f).ntmps) (h:ep X f stop (ae f 0 (a7 d)) (a7 d) ds []):LC f ds [] d []:=
 VL hf hl (reach h)
theorem pv (hf:Fn f) (h:ep X f stop (ae f 0 (a7 d)) (a7 d) ds []) (hl:ds.length<=(yK f).ntmps:=by exact aQ (by kernel_rfl)):LC f ds [] d []:=
 rP hf hl h
theorem nG {k:Nat} (h:k<9223372036854775808):IntKind.i64.wrap (k:Int)=k:=by
 have e1:(2 ^ IntKind.i64.bits:Int)=18446744073709551616:=by rfl
 have e2:(2 ^ (IntKind.i64.bits-1):Int)=9223372036854775808:=by rfl
 grind [IntKind.wrap]
end
theorem iT {k:Int} (h0:0<=k) (h:k<9223372036854775808):IntKind.i64.wrap k=k:=by
 grind [Int.eq_ofNat_of_zero_le,nG]
end Go.Proofs.YtgbbdaegmfjahaaGreat
set_option linter.unusedSimpArgs false
namespace Go.Proofs.YtgbbdaegmfjahaaGreat
open Go Go.V
noncomputable section
def xw:eU:={ F:=X0.F }
section
variable (L:LP) (op n a:Int) (x:au) (QD:D->Prop) (low m high:Int)
def gL:Int:=
 bif op==3 then
  1
 else
  bif op==5 then
   1
  else
   bif op==6 then
    1
   else
    bif op==7 then
     1
    else
     bif op==8 then
      1
     else
      bif op==10 then
       1
      else
       bif op==14 then
        1
       else
        bif op==19 then
         1
        else
         bif op==4 then
          2
         else
          bif op==9 then
           2
          else
           bif op==12 then
            2
           else
            bif op==11 then
             2
            else
             bif op==13 then
              3
             else
              0
theorem bD0 (op:Int) (h:br (op==3) (QD (int 1)) (br (op==5) (QD (int 1)) (br (op==6) (QD (int 1)) (br (op==7) (QD (int 1)) (br (op==8) (QD (int 1)) (br (op==10) (QD (int 1)) (br (op==14) (QD (int 1)) (br (op==19) (QD (int 1)) (br (op==4) (QD (int 2)) (br (op==9) (QD (int 2)) (br (op==12) (QD (int 2)) (br (op==11) (QD (int 2)) (br (op==13) (QD (int 3)) (QD (int 0))))))))))))))):ep xw 95 bH L (bf QD) [int op] []:=km h
theorem bo6:Fn 95:={}
theorem CH  : LC 95 [int op] [] (int (gL op)) []:=by
 refine pv (X:=xw) (stop:=bH) bo6 (bD0 _ _ op ?_)
 refine ag (λh=>?_) (λh=>?_)
 .simp only [gL, *,cond_true,cond_false]; exact aX.refl _
 .refine ag (λh=>?_) (λh=>?_)
  .simp only [gL, *,cond_true,cond_false]; exact aX.refl _
  .refine ag (λh=>?_) (λh=>?_)
   .simp only [gL, *,cond_true,cond_false]; exact aX.refl _
   .refine ag (λh=>?_) (λh=>?_)
    all_goals grind [gL,aX.refl,ag]
def xU:Bool:=
 bif op==1 then
  true
 else
  bif op==2 then
   true
  else
   bif op==3 then
    true
   else
    bif op==4 then
     true
    else
     bif op==10 then
      true
     else
      bif op==12 then
       true
      else
       bif op==14 then
        true
       else
        bif op==16 then
         true
        else
         bif op==17 then
          true
         else
          false
theorem bw6 (op:Int) (h:br (op==1) (QD (bool true)) (br (op==2) (QD (bool true)) (br (op==3) (QD (bool true)) (br (op==4) (QD (bool true)) (br (op==10) (QD (bool true)) (br (op==12) (QD (bool true)) (br (op==14) (QD (bool true)) (br (op==16) (QD (bool true)) (br (op==17) (QD (bool true)) (QD (bool false))))))))))):ep xw 68 bH L (bf QD) [int op] []:=km h
theorem bv9:Fn 68:={}
theorem I7  : LC 68 [int op] [] (bool (xU op)) []:=by
 refine pv (X:=xw) (stop:=bH) bv9 (bw6 _ _ op ?_)
 grind [ag,xU,aX.refl]
def wh:Int:=
 bif op==3 then
  1
 else
  bif op==4 then
   1
  else
   bif op==5 then
    2
   else
    bif op==6 then
     2
    else
     bif op==7 then
      2
     else
      bif op==8 then
       2
      else
       bif op==9 then
        2
       else
        bif op==15 then
         2
        else
         bif op==18 then
          2
         else
          bif op==21 then
           2
          else
           0
theorem aS9 (op:Int) (h:br (op==3) (QD (int 1)) (br (op==4) (QD (int 1)) (br (op==5) (QD (int 2)) (br (op==6) (QD (int 2)) (br (op==7) (QD (int 2)) (br (op==8) (QD (int 2)) (br (op==9) (QD (int 2)) (br (op==15) (QD (int 2)) (br (op==18) (QD (int 2)) (br (op==21) (QD (int 2)) (QD (int 0)))))))))))):ep xw 115 bH L (bf QD) [int op] []:=km h
theorem bh1:Fn 115:={}
theorem ar7  : LC 115 [int op] [] (int (wh op)) []:=by
 refine pv (X:=xw) (stop:=bH) bh1 (aS9 _ _ op ?_)
 refine ag (λh=>?_) (λh=>?_)
 all_goals grind [wh,aX.refl,ag]
def Ns:Bool:=
 bif op==2 then
  true
 else
  bif op==3 then
   true
  else
   bif op==4 then
    true
   else
    bif op==5 then
     true
    else
     bif op==6 then
      true
     else
      bif op==7 then
       true
      else
       bif op==8 then
        true
       else
        bif op==9 then
         true
        else
         bif op==10 then
          true
         else
          bif op==12 then
           true
          else
           bif op==14 then
            true
           else
            false
theorem bx0 (op:Int) (h:br (op==2) (QD (bool true)) (br (op==3) (QD (bool true)) (br (op==4) (QD (bool true)) (br (op==5) (QD (bool true)) (br (op==6) (QD (bool true)) (br (op==7) (QD (bool true)) (br (op==8) (QD (bool true)) (br (op==9) (QD (bool true)) (br (op==10) (QD (bool true)) (br (op==12) (QD (bool true)) (br (op==14) (QD (bool true)) (QD (bool false))))))))))))):ep xw 80 bH L (bf QD) [int op] []:=km h
theorem bs9:Fn 80:={}
theorem al3  : LC 80 [int op] [] (bool (Ns op)) []:=by
 refine pv (X:=xw) (stop:=bH) bs9 (bx0 _ _ op ?_)
 refine ag (λh=>?_) (λh=>?_)
 .simp only [Ns, *,cond_true,cond_false]; exact aX.refl _
 .refine ag (λh=>?_) (λh=>?_)
  all_goals grind [Ns,aX.refl,ag]
def ij:Bool:=
 bif op==10 then
  true
 else
  (op==12)
theorem bw9 (op:Int) (h:br (op==10) (QD (bool true)) (QD (bool (op==12)))):ep xw 98 bH L (bf QD) [int op] []:=km h
theorem bp0:Fn 98:={}
theorem Ar  : LC 98 [int op] [] (bool (ij op)) []:=by
 refine pv (X:=xw) (stop:=bH) bp0 (bw9 _ _ op ?_)
 grind [ag,ij,aX.refl]
def et:Bool:=
 bif op==11 then
  true
 else
  (op==13)
theorem aV6 (op:Int) (h:br (op==11) (QD (bool true)) (QD (bool (op==13)))):ep xw 102 bH L (bf QD) [int op] []:=km h
theorem aP1:Fn 102:={}
theorem vF  : LC 102 [int op] [] (bool (et op)) []:=by
 refine pv (X:=xw) (stop:=bH) aP1 (aV6 _ _ op ?_)
 grind [ag,et,aX.refl]
def jP:Bool:=
 bif op==10 then
  true
 else
  (op==11)
theorem aU9 (op:Int) (h:br (op==10) (QD (bool true)) (QD (bool (op==11)))):ep xw 108 bH L (bf QD) [int op] []:=km h
theorem aQ4:Fn 108:={}
theorem Gj  : LC 108 [int op] [] (bool (jP op)) []:=by
 refine pv (X:=xw) (stop:=bH) aQ4 (aU9 _ _ op ?_)
 grind [ag,jP,aX.refl]
def kx:Bool:=
 bif op==10 then
  true
 else
  (op==12)
theorem be7 (op:Int) (h:br (op==10) (QD (bool true)) (QD (bool (op==12)))):ep xw 104 bH L (bf QD) [int op] []:=km h
theorem aU7:Fn 104:={}
theorem AE  : LC 104 [int op] [] (bool (kx op)) []:=by
 refine pv (X:=xw) (stop:=bH) aU7 (be7 _ _ op ?_)
 grind [ag,kx,aX.refl]
def zw:Bool:=
 bif op==11 then
  true
 else
  (op==13)
theorem bp2 (op:Int) (h:br (op==11) (QD (bool true)) (QD (bool (op==13)))):ep xw 63 bH L (bf QD) [int op] []:=km h
theorem bn2:Fn 63:={}
theorem uP  : LC 63 [int op] [] (bool (zw op)) []:=by
 refine pv (X:=xw) (stop:=bH) bn2 (bp2 _ _ op ?_)
 grind [ag,zw,aX.refl]
def pw:Bool:=
 bif op==10 then
  true
 else
  (op==11)
theorem aR6 (op:Int) (h:br (op==10) (QD (bool true)) (QD (bool (op==11)))):ep xw 110 bH L (bf QD) [int op] []:=km h
theorem aY8:Fn 110:={}
theorem S4  : LC 110 [int op] [] (bool (pw op)) []:=by
 refine pv (X:=xw) (stop:=bH) aY8 (aR6 _ _ op ?_)
 grind [ag,pw,aX.refl]
def ek:Bool:=
 bif decide (n≥low) then
  (decide (n<=high))
 else
  false
theorem aX1 (n low high:Int) (h:br (decide (n≥low)) (QD (bool (decide (n<=high)))) (QD (bool false))):ep xw 135 bH L (bf QD) [int n,int low,int high] []:=km h
theorem aP4:Fn 135:={}
theorem oV  : LC 135 [int n,int low,int high] [] (bool (ek n low high)) []:=by
 refine pv (X:=xw) (stop:=bH) aP4 (aX1 _ _ n low high ?_)
 grind [ag,ek,aX.refl]
def ed:Int:=
 bif decide (a.tmod m<0) then
  (IntKind.i64.wrap (a.tmod m+m))
 else
  (a.tmod m)
theorem bq4 (a m:Int) (h:nd (!m==0) (br (decide (a.tmod m<0)) (QD (int (IntKind.i64.wrap (a.tmod m+m)))) (QD (int (a.tmod m))))):ep xw 47 bH L (bf QD) [int a,int m] []:=km h
theorem bs0:Fn 47:={}
theorem jB (hm:m≠0):LC 47 [int a,int m] [] (int (ed a m)) []:=by
 refine pv (X:=xw) (stop:=bH) bs0 (bq4 _ _ a m ?_)
 grind [ai,ag,ed,aX.refl]
def P6:Bool:=
 (x.1 != 1)
theorem bn4 (x:au) (h:QD (bool (x.1 != 1))):ep xw 87 bH L (bf QD) [fk x] []:=km h
theorem bv7:Fn 87:={}
theorem aY1  : LC 87 [fk x] [] (bool (P6 x)) []:=by
 refine pv (X:=xw) (stop:=bH) bv7 (bn4 _ _ x ?_)
 simp only [P6, *,cond_true,cond_false]; exact aX.refl _
def F1L:List (Nat×(List D->List ah->Out)):=[
 (95,λds rs=>(int (gL (aI ds 0)),[],[])),
 (68,λds rs=>(bool (xU (aI ds 0)),[],[])),
 (115,λds rs=>(int (wh (aI ds 0)),[],[])),
 (80,λds rs=>(bool (Ns (aI ds 0)),[],[])),
 (98,λds rs=>(bool (ij (aI ds 0)),[],[])),
 (102,λds rs=>(bool (et (aI ds 0)),[],[])),
 (108,λds rs=>(bool (jP (aI ds 0)),[],[])),
 (104,λds rs=>(bool (kx (aI ds 0)),[],[])),
 (63,λds rs=>(bool (zw (aI ds 0)),[],[])),
 (110,λds rs=>(bool (pw (aI ds 0)),[],[])),
 (135,λds rs=>(bool (ek (aI ds 0) (aI ds 1) (aI ds 2)),[],[])),
 (47,λds rs=>(int (ed (aI ds 0) (aI ds 1)),[],[])),
 (87,λds rs=>(bool (P6 (qA ds 0)),[],[]))]
def F1:FuncId->List D->List ah->Out:=λf ds rs=>match findF f F1L with
 | some g=>g ds rs
 | none=>X0.F f ds rs
end
open Go Go.V
section
variable {X:eU} {α:Type} {p:Nat->Bool} (a:ByteArray) {f:FuncId} {n m:Nat} (b:ByteArray) {k:Nat} {stop:Nat->Bool} {n0:Nat} {Q:D->List ah->Prop} {todo:List Item} {ds:List D} {rs:List ah} {d:D} {id:Nat} {s:VS} (s':VS)
theorem aG (h:b5 X f stop (ae f n0 Q) Q id s):ae f n0 Q (af f id) s:=reach h
theorem cY (h:ep X f stop (ae f n0 Q) Q ds rs):ae f n0 Q [.code (pM f)] ⟨dF 0 ds,rs,[]⟩:=reach h
theorem aK (h:b5 X f stop (ae f n0 (a7 d)) (bf λd2=>aX d2 d) id s):ae f n0 (a7 d) (af f id) s:=reach h
theorem Fn.enters (hf:Fn f):V.Enters Tryz.prog f:=by
 obtain ⟨h1,h2⟩:=CF f _ hf.nF
 exact ⟨_,h1,h2,by simp [hf.body]⟩
theorem bt.with (hf:Fn f) {aV:List ah} {p:Prop} (hp:∀ (E:Env) (av:Nat->Prop) (w:World) (vs:List Value),aF (bj E av w) ds vs->p) (h:p->LC f ds rs d aV):LC f ds rs d aV:=
 ⟨hf.enters,λN aA w0 sp sl df a w E vs hR hv=>(h (hp _ _ _ _ hv)).out.2 N aA w0 sp sl df a w E vs hR hv⟩
theorem oJ {E:Env} {av:Nat->Prop} {w:World} {sz:Nat} {e:α->Nat->I} {x:Sq α} {v:Value} (h:bj E av w (fM sz e x) v):x.n<=maxLen:=by
 obtain ⟨_,_,_,_,h,_⟩:=h
 exact h
theorem ae.le {f:FuncId} {n0:Nat} {Q:D->List ah->Prop} {todo:List Item} {s:VS} (s':VS) (h1:Xb s.sl s'.sl) (h2:aF aY s.rs s'.rs) (h3:s'.df=s.df) (g:ae f n0 Q todo s'):ae f n0 Q todo s:=
 λb cs hb=>Goal.le h1 h2 h3 (g b cs hb)
theorem ae.Cj {f:FuncId} {n0:Nat} {Q:D->List ah->Prop} {todo:List Item} {s:VS} (t el sz:Nat) (ht:eT s.sl t=some (.c (.im (.v (.slice none 0 0))))) (g:ae f n0 Q todo (JO t el sz s)):ae f n0 Q todo s:=
 λb cs hb=>Goal.Cj ht (g b cs hb)
theorem ae.iQ {f:FuncId} {n0:Nat} {Q:D->List ah->Prop} {todo:List Item} {s:VS} (r j el sz:Nat) (l:List C) (hr:bh s.rs r=some (.box l)) (hj:bh l j=some (.im (.v (.slice none 0 0)))) (g:ae f n0 Q todo (RN r j el sz l s)):ae f n0 Q todo s:=
 λb cs hb=>Goal.iQ hr hj (g b cs hb)
theorem ae.freeze {f:FuncId} {n0:Nat} {Q:D->List ah->Prop} {todo:List Item} {s s':VS} (r:Nat) (h:Go.V.freeze r s=some s') (g:ae f n0 Q todo s'):ae f n0 Q todo s:=
 λb cs hb=>Goal.freeze h (g b cs hb)
theorem ae.lf (h2:aF aY s.rs s'.rs) (g:ae f n0 Q todo s') (h1:Xb s.sl s'.sl:=by repeat' (first|exact trivial|refine wk1 rfl ?_)) (h3:s'.df=s.df:=by rfl):ae f n0 Q todo s:=ae.le s' h1 h2 h3 g
theorem rr:∀ l:List ah,aF aY l l
 | []=>.nil
 | x::l=>rc (rr l)
theorem ae.lr (g:ae f n0 Q todo s') (h1:Xb s.sl s'.sl:=by repeat' (first|exact trivial|refine wk1 rfl ?_)) (h2:aF aY s.rs s'.rs:=by exact rr _) (h3:s'.df=s.df:=by rfl):ae f n0 Q todo s:=ae.le s' h1 h2 h3 g
theorem ae.rename {f:FuncId} {n0:Nat} {Q:D->List ah->Prop} {todo:List Item} {s s':VS} (π:List Nat) (h:TZ n0 π s=some s') (g:ae f n0 Q todo s'):ae f n0 Q todo s:=
 λb cs hb=>Goal.rename π h (g b cs hb)
theorem aN {G:Nat->Prop} (step:∀ k,k<n->G (k+1)->G k) (last:G n):∀ k,k<=n->G k:=by
 intro k hk
 obtain ⟨m,rfl⟩:=Nat.exists_eq_add_of_le hk
 clear hk
 induction m generalizing k with
 | zero=>exact last
 | succ m ih=>
   grind
theorem b6 (h:k<n) (hn:n<=maxLen):IntKind.i64.wrap ((k:Int)+1)=((k+1:Nat):Int):=by
 have:((k:Int)+1)=((k+1:Nat):Int):=by omega
 rw [this]
 unfold maxLen at hn
 exact nG (by omega)
theorem aC (h:k<n):bQ (k:Int) n=true:=by
 show Nat.blt k n=true
 simp_all
theorem dec_lt {a b:Nat} (h:decide ((a:Int)<(b:Int))=false):¬ a<b:=by
 grind
def ir (p:Nat->Bool):Nat->Nat->Int
 | 0,_ => -1
 | m+1,k=>bif p k then (k:Int) else ir p m (k+1)
def ku (p:Nat->Bool) (n:Nat):Int:=ir p n 0
def pK (p:Nat->Bool):Nat->Nat->Nat
 | 0,k=>k
 | m+1,k=>bif p k then k else pK p m (k+1)
theorem OI (h:p k=true):pK p (m+1) k=k:=by simp [pK,h]
theorem L8 (h:p k=false):pK p (m+1) k=pK p m (k+1):=by simp [pK,h]
theorem Oa {p:Nat->Bool}:∀ {m k:Nat},(bif decide (ir p m k<0) then ((k+m:Nat):Int) else ir p m k)=(pK p m k:Int)
 | 0,k=>by simp [ir,pK]
 | m+1,k=>by
   cases hp:p k with
   | true=>
     grind [ir,pK]
   | false=>
     have:=Oa (p:=p) (m:=m) (k:=k+1)
     grind [ir,pK]
def cB (p:Nat->Bool):Nat->Nat->Bool
 | 0,_=>true
 | m+1,k=>bif p k then cB p m (k+1) else false
def eh (p:Nat->Bool) (n:Nat):Bool:=cB p n 0
theorem AL {p:Nat->Bool}:∀ {m k:Nat},(ir p m k = -1/\∀ i,k<=i->i<k+m->p i=false)∨∃ i:Nat,ir p m k=(i:Int)/\k<=i/\i<k+m/\p i=true/\∀ j,k<=j->j<i->p j=false
 | 0,k=>.inl ⟨rfl,λi h1 h2=>by omega⟩
 | m+1,k=>by
   unfold ir
   cases hp:p k with
   | true=>grind
   | false=>
     simp only [cond_false]
     rcases AL (p:=p) (m:=m) (k:=k+1) with ⟨h1,h2⟩|⟨i,h1,h2,h3,h4,h5⟩
     all_goals grind
theorem rO (p:Nat->Bool) (n:Nat):(ku p n = -1/\∀ i,i<n->p i=false)∨∃ i:Nat,ku p n=(i:Int)/\i<n/\p i=true/\∀ j,j<i->p j=false:=by
 rcases AL (p:=p) (m:=n) (k:=0) with ⟨h1,h2⟩|⟨i,h1,h2,h3,h4,h5⟩
 .exact .inl ⟨h1,λi hi=>h2 i (bk _) (by omega)⟩
 .exact .inr ⟨i,h1,by omega,h4,λj hj=>h5 j (bk _) hj⟩
theorem Cu {p:Nat->Bool}:∀ {m k:Nat},cB p m k=true↔∀ i,k<=i->i<k+m->p i=true
 | 0,k=>⟨λ_ i h1 h2=>by omega,λ_=>rfl⟩
 | m+1,k=>by
   unfold cB
   cases hp:p k with
   | false=>
     grind
   | true=>
     simp only [cond_true]
     rw [Cu]
     grind
theorem kE:eh p n=true↔∀ i,i<n->p i=true:=by
 grind [eh,Cu]
theorem j8 (h:p k=true):ir p (m+1) k=(k:Int):=by simp [ir,h]
theorem jg (h:p k=false):ir p (m+1) k=ir p m (k+1):=by simp [ir,h]
theorem cR (h:p k=false):cB p (m+1) k=false:=by simp [cB,h]
theorem dR (h:p k=true):cB p (m+1) k=cB p m (k+1):=by simp [cB,h]
theorem int_ne (m n:Nat):((m:Int)!=(n:Int)) = !(m==n):=by
 grind
theorem int_eq (m n:Nat):((m:Int)==(n:Int))=(m==n):=by
 grind
theorem bq {C:Prop} (h:decide ((n:Int)<(n:Int))=true):C:=by simp at h
def lg:Bool:=a.toList==b.toList
theorem GN:lg a b=lg b a:=by
 grind [lg]
def cz (e:α->α->Bool) (x y:Sq α):Bool:=(x.n==y.n)&&eh (λi=>e (x.get i) (y.get i)) x.n
end
open Go Go.V
def RG:eU:={ F:=F1 }
def Tw:Nat->Bool:=λi=>Nat.beq i 2
section
variable (aj:Sq Int) (L:LP) (QD:D->Prop) (x:Sq Int) (v:Int) (k:Nat)
theorem aV5:Fn 94:={}
abbrev eQ:=Tmp×D×fj
abbrev j7:D:=.c (.im (.sl 1 aj.1 (λi=>bn (aj.2 i))))
abbrev dC (aj:Int):eQ:=(1,((int aj),[]))
abbrev sZ:D:=int (↑aj.1:Int)
abbrev wj:eQ:=(8,((int 0),[]))
theorem bo5 (h:L (af 94 2) ⟨[(0,((j7 x),[])),(dC v),(7,((sZ x),[])),wj],[],[]⟩):ep RG 94 Tw L (bf QD) [fM 1 bn x,int v] []:=km h
def UR:VS:=⟨[(0,(j7 x),[]),(1,(int v),[]),(7,(sZ x),[]),(8,int k,[])],[],[]⟩
theorem Tt (h:br (decide ((↑k:Int)<(↑x.n:Int))) (nd (bQ (↑k:Int) x.1) (br (v==x.2 k) (QD (int (↑k:Int))) (L (af 94 2) ⟨[(0,((j7 x),[])),(dC v),(7,((sZ x),[])),(8,((int (IntKind.i64.wrap ((↑k:Int)+1))),[]))],[],[]⟩))) (QD (int (-1)))):b5 RG 94 Tw L (bf QD) 2 (UR x v k):=km h
theorem br7 (a:Int) (hx:x.n<=maxLen)  : ∀ k,k<=x.n->ir (λi=>v==x.get i) (x.n-k) k=a->ae 94 0 (a7 (int a)) (af 94 2) (UR x v k):=by
 refine aN (λk hk ih ha=>?_) (λha=>?_)
 .have e:x.n-k=(x.n-(k+1))+1:=by omega
  rw [e] at ha
  refine aK (X:=RG) (stop:=Tw) (Tt _ _ x v k ?_)
  refine ag (λh=>?_) (λh=>(dec_lt h hk).elim)
  refine ai (aC (by omega)) ?_
  refine ag (λh1=>?_) (λh1=>?_)
  .grind [j8,aX.refl]
  .rw [jg (p:=(λi=>v==x.get i)) (by simpa using h1)] at ha
   rw [b6 hk hx]
   exact ih ha
 .rw [Nat.sub_self] at ha
  refine aK (X:=RG) (stop:=Tw) (Tt _ _ x v _ ?_)
  refine ag (λh=>?_) (λh=>?_)
  .exact bq h
  .subst ha
   exact aX.refl _
end
theorem aN9 (x:Sq Int) (v:Int):LC 94 [fM 1 bn x,int v] [] (int (ku (λi=>v==x.get i) x.n)) []:=
 bt.with aV5 (p:=x.n<=maxLen) (λE av w vs h=>by cases h with|cons q _=>exact oJ q) λhx=>
  pv (X:=RG) (stop:=Tw) aV5 (bo5 _ _ x v (br7 x v _ hx 0 (bk _) rfl))
def Iw:eU:={ F:=F1 }
def HR:Nat->Bool:=λi=>Nat.beq i 2
theorem ah6:Fn 146:={}
section
variable (aj:Sq ByteArray) (L:LP) (QD:D->Prop) (x:Sq ByteArray) (v:ByteArray) (k:Nat)
abbrev jX:D:=.c (.im (.sl 1 aj.1 (λi=>cA (aj.2 i))))
abbrev j9:eQ:=(0,((jX aj),[]))
abbrev vT (aj:ByteArray):D:=.c (.im (.v (.string aj)))
abbrev o0:D:=int (↑aj.1:Int)
theorem aT6 (h:L (af 146 2) ⟨[(j9 x),(1,((vT v),[])),(7,((o0 x),[])),wj],[],[]⟩):ep Iw 146 HR L (bf QD) [fM 1 cA x,ag4 v] []:=km h
def Na:VS:=⟨[(0,(jX x),[]),(1,(vT v),[]),(7,(o0 x),[]),(8,int k,[])],[],[]⟩
theorem Ni (h:br (decide ((↑k:Int)<(↑x.n:Int))) (nd (bQ (↑k:Int) x.1) (br (v.toList==(x.2 k).toList) (QD (int (↑k:Int))) (L (af 146 2) ⟨[(j9 x),(1,((vT v),[])),(7,((o0 x),[])),(8,((int (IntKind.i64.wrap ((↑k:Int)+1))),[]))],[],[]⟩))) (QD (int (-1)))):b5 Iw 146 HR L (bf QD) 2 (Na x v k):=km h
theorem aS7 (a:Int) (hx:x.n<=maxLen)  : ∀ k,k<=x.n->ir (λi=>v.toList==(x.get i).toList) (x.n-k) k=a->ae 146 0 (a7 (int a)) (af 146 2) (Na x v k):=by
 refine aN (λk hk ih ha=>?_) (λha=>?_)
 .have e:x.n-k=(x.n-(k+1))+1:=by omega
  rw [e] at ha
  refine aK (X:=Iw) (stop:=HR) (Ni _ _ x v k ?_)
  refine ag (λh=>?_) (λh=>(dec_lt h hk).elim)
  refine ai (aC (by omega)) ?_
  refine ag (λh1=>?_) (λh1=>?_)
  .grind [j8,aX.refl]
  .rw [jg (p:=(λi=>v.toList==(x.get i).toList)) (by simpa using h1)] at ha
   rw [b6 hk hx]
   exact ih ha
 .rw [Nat.sub_self] at ha
  refine aK (X:=Iw) (stop:=HR) (Ni _ _ x v _ ?_)
  refine ag (λh=>?_) (λh=>?_)
  .exact bq h
  .subst ha
   exact aX.refl _
theorem aD7:LC 146 [fM 1 cA x,ag4 v] [] (int (ku (λi=>v.toList==(x.get i).toList) x.n)) []:=
 bt.with ah6 (p:=x.n<=maxLen) (λE av w vs h=>by cases h with|cons q _=>exact oJ q) λhx=>
  pv (X:=Iw) (stop:=HR) ah6 (aT6 _ _ x v (aS7 x v _ hx 0 (bk _) rfl))
def IE:eU:={ F:=F1 }
def GL:Nat->Bool:=λi=>Nat.beq i 2
theorem ao1:Fn 147:={}
abbrev tr:eQ:=(5,((int 0),[]))
theorem aV4 (h:L (af 147 2) ⟨[(j9 x),(1,((vT v),[])),tr],[],[]⟩):ep IE 147 GL L (bf QD) [fM 1 cA x,ag4 v] []:=km h
def MW:VS:=⟨[(0,(jX x),[]),(1,(vT v),[]),(5,int k,[])],[],[]⟩
theorem MG (h:br (decide ((↑k:Int)<(↑x.n:Int))) (nd (bQ (↑k:Int) x.1) (br ((x.2 k).toList==v.toList) (QD (int (↑k:Int))) (L (af 147 2) ⟨[(j9 x),(1,((vT v),[])),(5,((int (IntKind.i64.wrap ((↑k:Int)+1))),[]))],[],[]⟩))) (QD (int (-1)))):b5 IE 147 GL L (bf QD) 2 (MW x v k):=km h
end
section
variable (L:LP) (x:Sq ByteArray) (v:ByteArray) (QD:D->Prop) (y:Sq ByteArray) (a:Bool) (k:Nat)
theorem bb6 (a:Int) (hx:x.n<=maxLen)  : ∀ k,k<=x.n->ir (λi=>(x.get i).toList==v.toList) (x.n-k) k=a->ae 147 0 (a7 (int a)) (af 147 2) (MW x v k):=by
 refine aN (λk hk ih ha=>?_) (λha=>?_)
 .have e:x.n-k=(x.n-(k+1))+1:=by omega
  rw [e] at ha
  refine aK (X:=IE) (stop:=GL) (MG _ _ x v k ?_)
  refine ag (λh=>?_) (λh=>(dec_lt h hk).elim)
  refine ai (aC (by omega)) ?_
  refine ag (λh1=>?_) (λh1=>?_)
  .grind [j8,aX.refl]
  .rw [jg (p:=(λi=>(x.get i).toList==v.toList)) (by simpa using h1)] at ha
   rw [b6 hk hx]
   exact ih ha
 .rw [Nat.sub_self] at ha
  refine aK (X:=IE) (stop:=GL) (MG _ _ x v _ ?_)
  refine ag (λh=>?_) (λh=>?_)
  .exact bq h
  .subst ha
   exact aX.refl _
theorem aJ9:LC 147 [fM 1 cA x,ag4 v] [] (int (ku (λi=>(x.get i).toList==v.toList) x.n)) []:=
 bt.with ao1 (p:=x.n<=maxLen) (λE av w vs h=>by cases h with|cons q _=>exact oJ q) λhx=>
  pv (X:=IE) (stop:=GL) ao1 (aV4 _ _ x v (bb6 x v _ hx 0 (bk _) rfl))
def Q5:eU:={ F:=F1 }
def Uu:Nat->Bool:=λi=>Nat.beq i 4
theorem aS2:Fn 72:={}
theorem bv4 (x y:Sq ByteArray) (h:br ((↑x.1:Int)!=(↑y.1:Int)) (QD (bool false)) (L (af 72 4) ⟨[(j9 x),(1,((jX y),[])),(12,((o0 x),[])),(13,((int 0),[]))],[],[]⟩)):ep Q5 72 Uu L (bf QD) [fM 1 cA x,fM 1 cA y] []:=km h
def Wr:VS:=⟨[(0,(jX x),[]),(1,(jX y),[]),(12,(o0 x),[]),(13,int k,[])],[],[]⟩
theorem TI (x y:Sq ByteArray) (k:Nat) (h:br (decide ((↑k:Int)<(↑x.n:Int))) (nd (bQ (↑k:Int) x.1) (nd (bQ (↑k:Int) y.1) (br (!(x.2 k).toList==(y.2 k).toList) (QD (bool false)) (L (af 72 4) ⟨[(j9 x),(1,((jX y),[])),(12,((o0 x),[])),(13,((int (IntKind.i64.wrap ((↑k:Int)+1))),[]))],[],[]⟩)))) (QD (bool true))):b5 Q5 72 Uu L (bf QD) 4 (Wr x y k):=km h
theorem bA9 (hx:x.n<=maxLen) (hxy:x.n=y.n):∀ k,k<=x.n->cB (λi=>lg (x.get i) (y.get i)) (x.n-k) k=a->ae 72 0 (a7 (bool a)) (af 72 4) (Wr x y k):=by
 refine aN (λk hk ih ha=>?_) (λha=>?_)
 .have e:x.n-k=(x.n-(k+1))+1:=by omega
  rw [e] at ha
  refine aK (X:=Q5) (stop:=Uu) (TI _ _ x y k ?_)
  refine ag (λh=>?_) (λh=>(dec_lt h hk).elim)
  refine ai (aC (by omega)) ?_
  refine ai (aC (by omega)) ?_
  refine ag (λh1=>?_) (λh1=>?_)
  .grind [cR,lg,aX.refl]
  .rw [dR (p:=(λi=>lg (x.get i) (y.get i))) (by simpa [lg] using h1)] at ha
   rw [b6 hk hx]
   exact ih ha
 .rw [Nat.sub_self] at ha
  refine aK (X:=Q5) (stop:=Uu) (TI _ _ x y _ ?_)
  refine ag (λh=>?_) (λh=>?_)
  .exact bq h
  .subst ha
   exact aX.refl _
theorem ao0:LC 72 [fM 1 cA x,fM 1 cA y] [] (bool (cz lg x y)) []:=
 bt.with aS2 (p:=x.n<=maxLen) (λE av w vs h=>by cases h with|cons q _=>exact oJ q) λhx=>
  pv (X:=Q5) (stop:=Uu) aS2 (bv4 _ _ x y (by
   refine ag (λh=>?_) (λh=>?_)
   .grind [cz,aX.refl]
   .rw [int_ne] at h
    simp only [Bool.not_eq_false'] at h
    have e:cz lg x y=eh (λi=>lg (x.get i) (y.get i)) x.n:=by simp only [cz,h,Bool.true_and]
    rw [e]
    exact bA9 x y _ hx (eq_of_beq h) 0 (bk _) rfl))
def TT:eU:={ F:=F1 }
def S3:Nat->Bool:=λi=>Nat.beq i 4
theorem aZ6:Fn 22:={}
theorem bC5 (x y:Sq ByteArray) (h:br ((↑x.1:Int)!=(↑y.1:Int)) (QD (bool false)) (L (af 22 4) ⟨[(j9 x),(1,((jX y),[])),tr],[],[]⟩)):ep TT 22 S3 L (bf QD) [fM 1 cA x,fM 1 cA y] []:=km h
def VR:VS:=⟨[(0,(jX x),[]),(1,(jX y),[]),(5,int k,[])],[],[]⟩
theorem Sn (x y:Sq ByteArray) (k:Nat) (h:br (decide ((↑k:Int)<(↑x.n:Int))) (nd (bQ (↑k:Int) x.1) (nd (bQ (↑k:Int) y.1) (br (!(x.2 k).toList==(y.2 k).toList) (QD (bool false)) (L (af 22 4) ⟨[(j9 x),(1,((jX y),[])),(5,((int (IntKind.i64.wrap ((↑k:Int)+1))),[]))],[],[]⟩)))) (QD (bool true))):b5 TT 22 S3 L (bf QD) 4 (VR x y k):=km h
theorem bw8 (hx:x.n<=maxLen) (hxy:x.n=y.n):∀ k,k<=x.n->cB (λi=>lg (x.get i) (y.get i)) (x.n-k) k=a->ae 22 0 (a7 (bool a)) (af 22 4) (VR x y k):=by
 refine aN (λk hk ih ha=>?_) (λha=>?_)
 .have e:x.n-k=(x.n-(k+1))+1:=by omega
  rw [e] at ha
  refine aK (X:=TT) (stop:=S3) (Sn _ _ x y k ?_)
  refine ag (λh=>?_) (λh=>(dec_lt h hk).elim)
  refine ai (aC (by omega)) ?_
  refine ai (aC (by omega)) ?_
  refine ag (λh1=>?_) (λh1=>?_)
  .grind [cR,lg,aX.refl]
  .rw [dR (p:=(λi=>lg (x.get i) (y.get i))) (by simpa [lg] using h1)] at ha
   rw [b6 hk hx]
   exact ih ha
 .rw [Nat.sub_self] at ha
  refine aK (X:=TT) (stop:=S3) (Sn _ _ x y _ ?_)
  refine ag (λh=>?_) (λh=>?_)
  .exact bq h
  .subst ha
   exact aX.refl _
theorem Uw:LC 22 [fM 1 cA x,fM 1 cA y] [] (bool (cz lg x y)) []:=
 bt.with aZ6 (p:=x.n<=maxLen) (λE av w vs h=>by cases h with|cons q _=>exact oJ q) λhx=>
  pv (X:=TT) (stop:=S3) aZ6 (bC5 _ _ x y (by
   refine ag (λh=>?_) (λh=>?_)
   .grind [cz,aX.refl]
   .rw [int_ne] at h
    simp only [Bool.not_eq_false'] at h
    have e:cz lg x y=eh (λi=>lg (x.get i) (y.get i)) x.n:=by simp only [cz,h,Bool.true_and]
    rw [e]
    exact bw8 x y _ hx (eq_of_beq h) 0 (bk _) rfl))
def Rk:eU:={ F:=F1 }
def TL:Nat->Bool:=λi=>Nat.beq i 4
theorem bd0:Fn 32:={}
theorem bn7 (x y:Sq Int) (h:br ((↑x.1:Int)!=(↑y.1:Int)) (QD (bool false)) (L (af 32 4) ⟨[(0,((j7 x),[])),(1,((j7 y),[])),tr],[],[]⟩)):ep Rk 32 TL L (bf QD) [fM 1 bn x,fM 1 bn y] []:=km h
def Vu (x y:Sq Int) (k:Nat):VS:=⟨[(0,(j7 x),[]),(1,(j7 y),[]),(5,int k,[])],[],[]⟩
theorem Wg (x y:Sq Int) (k:Nat) (h:br (decide ((↑k:Int)<(↑x.n:Int))) (nd (bQ (↑k:Int) x.1) (nd (bQ (↑k:Int) y.1) (br (x.2 k != y.2 k) (QD (bool false)) (L (af 32 4) ⟨[(0,((j7 x),[])),(1,((j7 y),[])),(5,((int (IntKind.i64.wrap ((↑k:Int)+1))),[]))],[],[]⟩)))) (QD (bool true))):b5 Rk 32 TL L (bf QD) 4 (Vu x y k):=km h
theorem bC7 (x y:Sq Int) (a:Bool) (hx:x.n<=maxLen) (hxy:x.n=y.n):∀ k,k<=x.n->cB (λi=>(λa b:Int=>a==b) (x.get i) (y.get i)) (x.n-k) k=a->ae 32 0 (a7 (bool a)) (af 32 4) (Vu x y k):=by
 refine aN (λk hk ih ha=>?_) (λha=>?_)
 .have e:x.n-k=(x.n-(k+1))+1:=by omega
  rw [e] at ha
  refine aK (X:=Rk) (stop:=TL) (Wg _ _ x y k ?_)
  refine ag (λh=>?_) (λh=>(dec_lt h hk).elim)
  refine ai (aC (by omega)) ?_
  refine ai (aC (by omega)) ?_
  refine ag (λh1=>?_) (λh1=>?_)
  .grind [cR,aX.refl]
  .rw [dR (p:=(λi=>(λa b:Int=>a==b) (x.get i) (y.get i))) (by simpa [lg] using h1)] at ha
   rw [b6 hk hx]
   exact ih ha
 .rw [Nat.sub_self] at ha
  refine aK (X:=Rk) (stop:=TL) (Wg _ _ x y _ ?_)
  refine ag (λh=>?_) (λh=>?_)
  .exact bq h
  .subst ha
   exact aX.refl _
theorem bg5 (x y:Sq Int):LC 32 [fM 1 bn x,fM 1 bn y] [] (bool (cz (λa b:Int=>a==b) x y)) []:=
 bt.with bd0 (p:=x.n<=maxLen) (λE av w vs h=>by cases h with|cons q _=>exact oJ q) λhx=>
  pv (X:=Rk) (stop:=TL) bd0 (bn7 _ _ x y (by
   refine ag (λh=>?_) (λh=>?_)
   .grind [cz,aX.refl]
   .rw [int_ne] at h
    simp only [Bool.not_eq_false'] at h
    have e:cz (λa b:Int=>a==b) x y=eh (λi=>(λa b:Int=>a==b) (x.get i) (y.get i)) x.n:=by simp only [cz,h,Bool.true_and]
    rw [e]
    exact bC7 x y _ hx (eq_of_beq h) 0 (bk _) rfl))
end
end
end Go.Proofs.YtgbbdaegmfjahaaGreat
namespace Go.Proofs
open Go.Shelf
open Go.RowKit Go.Lib in
open Go.RowKit Go.Lib in
def Tryz.FA:Go.Shelf.Ren:=⟨λ|17=>148|15=>151|20=>154|n=>n,λ|9=>9|23=>159|4=>4|3=>3|0=>0|21=>21|n=>n,λ|n=>n⟩
theorem Tryz.RA:Go.Proofs.LaysGw.n17 Tryz.prog Tryz.FA:={
 mixed:=by kernel_rfl
 f15:=Tryz.func151.trans (congrArg some (by kernel_rfl))
 f17:=Tryz.func148.trans (congrArg some (by kernel_rfl))
 f20:=Tryz.func154.trans (congrArg some (by kernel_rfl))
 t0:=Tryz.underlying0
 a0:=Tryz.isAgg0
 z0:=Tryz.sizeOf0
 v0:=Tryz.zeroValue0
 i0:=by kernel_rfl
 t3:=Tryz.underlying3
 a3:=Tryz.isAgg3
 z3:=Tryz.sizeOf3
 v3:=Tryz.zeroValue3
 i3:=by kernel_rfl
 t4:=Tryz.underlying4
 a4:=Tryz.isAgg4
 z4:=Tryz.sizeOf4
 v4:=Tryz.zeroValue4
 i4:=by kernel_rfl
 t9:=Tryz.underlying9
 a9:=Tryz.isAgg9
 z9:=Tryz.sizeOf9
 v9:=Tryz.zeroValue9
 i9:=by kernel_rfl
 t21:=Tryz.underlying21
 a21:=Tryz.isAgg21
 z21:=Tryz.sizeOf21
 v21:=Tryz.zeroValue21
 i21:=by kernel_rfl
 t23:=Tryz.underlying159
 a23:=Tryz.isAgg159
 z23:=Tryz.sizeOf159
 v23:=Tryz.zeroValue159
 i23:=by kernel_rfl }
open Go.RowKit Go.Lib in
theorem Tryz.strings_ContainsFunc (g:Nat) (lb:Array Value) (eg:∀ args w,(callFunc g args).run Tryz.prog w=.ok (.enter g args) w) (p:Nat->Bool) (s:ByteArray) (w:World) (hp:PredAt Tryz.prog g lb encR p w) :
  Calls Tryz.prog 148 #[.string s,.func (.func g) #[] lb] w λe w'=>e=.returned (.bool (decide (0<=Lib.idxFunc p true s)))/\Below w.heap.size w w':=Any.strings_ContainsFunc Tryz.RA g lb eg p s w hp
end Go.Proofs
namespace Go.Proofs.YtgbbdaegmfjahaaGreat
open Go Go.RowKit
noncomputable section
def kl (r:Nat):Bool:=decide ((r:Int)<32)||decide ((r:Int)>126)
theorem aB7 (w:World):PredAt Tryz.prog 149 #[] encR kl w:=λW r _=>by
 unfold FnGives
 unfold kl
 by_cases h1:(r:Int)<32<;>by_cases h2:(r:Int)>126
 all_goals
  go_enter Tryz.func149,Tryz.ntmps149
  go_wp2
  all_goals first|(exfalso; omega)|(go_ret; exact ⟨by simp [h1,h2],0,rfl⟩)
def xY (s:ByteArray) (k:Nat):Prop:=∀ i (h:i<s.size),i<k->32<=s[i].toNat/\s[i].toNat<=126
theorem Da {s:ByteArray} (h:xY s s.size):∀ f pos,Lib.idxFuncFrom kl true s f pos = -1
 | 0,pos=>rfl
 | f+1,pos=>by
   unfold Lib.idxFuncFrom
   split
   .rename_i hp
    obtain ⟨h1,h2⟩:=h pos hp hp
    rw [decode_ascii s pos hp (by omega)]
    have:kl s[pos].toNat=false:=by simp [kl]; omega
    rw [if_neg (by simp [this])]
    exact Da h f _
   .rfl
theorem MB {s:ByteArray} {i:Nat} (hi:i<s.size) (hb:¬ (32<=s[i].toNat/\s[i].toNat<=126)):∀ f pos,s.size<=pos+f->pos<=i->0<=Lib.idxFuncFrom kl true s f pos
 | 0,pos,h1,h2=>by omega
 | f+1,pos,h1,h2=>by
   have hp:pos<s.size:=by omega
   unfold Lib.idxFuncFrom
   rw [if_pos hp]
   split
   .omega
   .rename_i hodd
    rcases Nat.lt_or_ge s[pos].toNat 128 with eW|hge
    .rw [decode_ascii s pos hp eW] at hodd ⊢
     have hfine:32<=s[pos].toNat/\s[pos].toNat<=126:=by simp [kl] at hodd; omega
     have qG:pos≠i:=λe=>by subst e; exact hb hfine
     exact MB hi hb f _ (by simp only; omega) (by simp only; omega)
    grind [decode_high,kl]
section
variable (kind n:Int) (s:ByteArray) (w:World)
def UK:Bool:=decide (0<=Lib.idxFunc kl true s)
theorem Qk {s:ByteArray} (h:xY s s.size):UK s=false:=by
 unfold UK Lib.idxFunc
 rw [Da h]; rfl
theorem H8 {s:ByteArray} {i:Nat} (hi:i<s.size) (hb:¬ (32<=s[i].toNat/\s[i].toNat<=126)):UK s=true:=by
 grind [UK,Lib.idxFunc,MB]
theorem bu {a b:Bool} (h:a=b):Ending.returned (.bool a)=.returned (.bool b):=by rw [h]
theorem PI (hs:s.size<=maxLen):Calls Tryz.prog 145 #[.string s] w λe w'=>e=.returned (.bool (!UK s&&decide (s.size<=200)))/\w'=w:=by
 unfold maxLen at hs
 go_enter Tryz.func145,Tryz.ntmps145
 go_wp2
 go_loop [3] (λi=>∃ k:Nat,k<=s.size/\i=.int .i64 k/\xY s k) (λi=>s.size-(intOf i).toNat)
 case atStart=>exact ⟨0,bk _,rfl,λi _ h=>by omega⟩
 case round=>
  obtain ⟨k,hk,rfl,JA⟩:=hrel
  by_cases eW:k<s.size
  .by_cases h1:(s[k].toNat:Int)<32<;>by_cases h2:(s[k].toNat:Int)>126
   .grind
   .have hod:=H8 eW (by omega)
    go_wp2
    go_ret
    simp_all
   .have hod:=H8 eW (by omega)
    go_wp2
    go_ret
    simp_all
   .have mz:xY s (k+1):=λi h hi=>by
     rcases Nat.lt_or_ge i k with hik|hik
     .exact JA i h hik
     grind
    go_wp2
    grind [intOf]
  .have hof:UK s=false:=Qk λi h _=>JA i h (by omega)
   by_cases h200:(s.size:Int)<=200
   .have hd:decide (s.size<=200)=true:=by simp; omega
    go_wp2
    go_ret
    simp_all
   .have hd:decide (s.size<=200)=false:=by simp; omega
    go_wp2
    go_ret
    simp_all
def mh:Bool:=if kind=0∨kind=1 then decide (n=0) else if kind=2 then decide (0<=n/\n<=1) else if kind=3 then decide (-1000000000000000<=n/\n<=1000000000000000)
 else if kind=5 then decide (0<=n/\n<=1000000000) else if kind=6 then decide (0<=n/\n<=23) else false
def bU:Bool:=if kind=4 then (decide (n=0)&&(decide (s.size<=200) && !UK s)) else (decide (s.toList=[])&&mh kind n)
set_option maxHeartbeats 4000000 in
theorem Um:Calls Tryz.prog 138 #[.agg #[.int .i64 kind,.int .i64 n,.string s]] w λe w'=>e=.returned (.bool (bU kind n s))/\Below w.heap.size w w':=by
 have hC:∀ W,Calls Tryz.prog 148 #[.string s,.func (.func 149) #[] #[]] W λe w'=>e=.returned (.bool (UK s))/\Below W.heap.size W w':=λW=>Tryz.strings_ContainsFunc 149 #[] (enters_of Tryz.func149 (by kernel_rfl) rfl) kl s W (aB7 W)
 by_cases k4:kind=4
 .subst k4
  obtain ⟨o,ho⟩:∃ o,UK s=o:=⟨_,rfl⟩
  have hv:bU 4 n s=(decide (n=0)&&(decide (s.size<=200) && !o)):=by simp [bU,ho]
  rw [hv]
  simp only [ho] at hC
  clear hv
  by_cases hn:n=0
  .subst hn
   by_cases h2:(s.size:Int)<=200
   .have hd:decide (s.size<=200)=true:=by simp; omega
    rw [hd]
    clear hd ho
    cases o
    all_goals
     go_enter Tryz.func138,Tryz.ntmps138
     go_wp2_with (go_at_call 148; refine (hC _).mono ?_; rintro e w' ⟨rfl,hb⟩; have hb1:w'.cell? ⟨w.heap.size,1,none⟩=some (.int .i64 0):=(hb.cell (p:=⟨w.heap.size,1,none⟩) (by simp)).trans (by simp); have hb2:w'.cell? ⟨w.heap.size,2,none⟩=some (.string s):=(hb.cell (p:=⟨w.heap.size,2,none⟩) (by simp)).trans (by simp))
     go_ret
     exact ⟨rfl,((Below.refl _ w).alloc (bF _) _).trans (hb.mono (by simp))⟩
   .have hd:decide (s.size<=200)=false:=by simp; omega
    rw [hd]
    clear hd ho
    go_enter Tryz.func138,Tryz.ntmps138
    go_wp2_with (go_at_call 148; refine (hC _).mono ?_; rintro e w' ⟨rfl,hb⟩; have hb1:w'.cell? ⟨w.heap.size,1,none⟩=some (.int .i64 0):=(hb.cell (p:=⟨w.heap.size,1,none⟩) (by simp)).trans (by simp); have hb2:w'.cell? ⟨w.heap.size,2,none⟩=some (.string s):=(hb.cell (p:=⟨w.heap.size,2,none⟩) (by simp)).trans (by simp))
    go_ret
    exact ⟨rfl,((Below.refl _ w).alloc (bF _) _).trans (hb.mono (by simp))⟩
  .have hd:decide (n=0)=false:=by simpa using hn
   rw [hd]
   clear hd ho
   go_enter Tryz.func138,Tryz.ntmps138
   go_wp2_with (go_at_call 148; refine (hC _).mono ?_; rintro e w' ⟨rfl,hb⟩; have hb1:w'.cell? ⟨w.heap.size,1,none⟩=some (.int .i64 n):=(hb.cell (p:=⟨w.heap.size,1,none⟩) (by simp)).trans (by simp); have hb2:w'.cell? ⟨w.heap.size,2,none⟩=some (.string s):=(hb.cell (p:=⟨w.heap.size,2,none⟩) (by simp)).trans (by simp))
   go_ret
   exact ⟨rfl,((Below.refl _ w).alloc (bF _) _).trans (hb.mono (by simp))⟩
 clear hC
 by_cases k0:kind=0
 .subst k0
  by_cases hs:s.toList=[]<;>by_cases h1:0<=n<;>by_cases h2:n<=0
  all_goals first
  | (exfalso; omega)
  | (go_enter Tryz.func138,Tryz.ntmps138
     go_wp2
     go_ret
     exact ⟨by first|(refine bu ?_; simp [bU,mh,hs]; done)|(refine bu ?_; simp [bU,mh,hs]; omega),(Below.refl _ w).alloc (bF _) _⟩)
 by_cases k1:kind=1
 .subst k1
  by_cases hs:s.toList=[]<;>by_cases h1:0<=n<;>by_cases h2:n<=0
  all_goals first
  | (exfalso; omega)
  | (go_enter Tryz.func138,Tryz.ntmps138
     go_wp2
     go_ret
     exact ⟨by first|(refine bu ?_; simp [bU,mh,hs]; done)|(refine bu ?_; simp [bU,mh,hs]; omega),(Below.refl _ w).alloc (bF _) _⟩)
 by_cases k2:kind=2
 .subst k2
  by_cases hs:s.toList=[]<;>by_cases h1:0<=n<;>by_cases h2:n<=1
  all_goals first
  | (exfalso; omega)
  | (go_enter Tryz.func138,Tryz.ntmps138
     go_wp2
     go_ret
     exact ⟨by first|(refine bu ?_; simp [bU,mh,hs]; done)|(refine bu ?_; simp [bU,mh,hs]; omega),(Below.refl _ w).alloc (bF _) _⟩)
 by_cases k3:kind=3
 .subst k3
  by_cases hs:s.toList=[]<;>by_cases h1 : -1000000000000000<=n<;>by_cases h2:n<=1000000000000000
  all_goals first
  | (exfalso; omega)
  | (go_enter Tryz.func138,Tryz.ntmps138
     go_wp2
     go_ret
     exact ⟨by first|(refine bu ?_; simp [bU,mh,hs]; done)|(refine bu ?_; simp [bU,mh,hs]; omega),(Below.refl _ w).alloc (bF _) _⟩)
 by_cases k5:kind=5
 .subst k5
  by_cases hs:s.toList=[]<;>by_cases h1:0<=n<;>by_cases h2:n<=1000000000
  all_goals first
  | (exfalso; omega)
  | (go_enter Tryz.func138,Tryz.ntmps138
     go_wp2
     go_ret
     exact ⟨by first|(refine bu ?_; simp [bU,mh,hs]; done)|(refine bu ?_; simp [bU,mh,hs]; omega),(Below.refl _ w).alloc (bF _) _⟩)
 by_cases k6:kind=6
 .subst k6
  by_cases hs:s.toList=[]<;>by_cases h1:0<=n<;>by_cases h2:n<=23
  all_goals first
  | (exfalso; omega)
  | (go_enter Tryz.func138,Tryz.ntmps138
     go_wp2
     go_ret
     exact ⟨by first|(refine bu ?_; simp [bU,mh,hs]; done)|(refine bu ?_; simp [bU,mh,hs]; omega),(Below.refl _ w).alloc (bF _) _⟩)
 go_enter Tryz.func138,Tryz.ntmps138
 go_wp2
 go_ret
 exact ⟨by refine bu ?_; simp [bU,mh,k0,k1,k2,k3,k4,k5,k6],(Below.refl _ w).alloc (bF _) _⟩
set_option maxHeartbeats 4000000 in
theorem U5 (ik:s.size<=maxLen):Calls Tryz.prog 127 #[.agg #[.int .i64 kind,.int .i64 n,.string s]] w λe w'=>e=.returned (.bool (bU kind n s))/\Below w.heap.size w w':=by
 have hC:∀ W,Calls Tryz.prog 145 #[.string s] W λe w'=>e=.returned (.bool (!UK s&&decide (s.size<=200)))/\w'=W:=λW=>PI s W ik
 by_cases k4:kind=4
 .subst k4
  obtain ⟨o,ho⟩:∃ o,(!UK s&&decide (s.size<=200))=o:=⟨_,rfl⟩
  have hv:bU 4 n s=(decide (n=0)&&o):=by
   grind [bU]
  rw [hv]
  simp only [ho] at hC
  clear hv ho
  by_cases hn:n=0
  .subst hn
   cases o
   all_goals
    go_enter Tryz.func127,Tryz.ntmps127
    go_wp2_with (go_at_call 145; refine (hC _).mono ?_; rintro e w' ⟨rfl,rfl⟩)
    go_ret
    exact ⟨rfl,(Below.refl _ w).alloc (bF _) _⟩
  .have hd:decide (n=0)=false:=by simpa using hn
   rw [hd]
   clear hd
   cases o
   all_goals
    go_enter Tryz.func127,Tryz.ntmps127
    go_wp2_with (go_at_call 145; refine (hC _).mono ?_; rintro e w' ⟨rfl,rfl⟩)
    go_ret
    exact ⟨by simp_all,(Below.refl _ w).alloc (bF _) _⟩
 clear hC
 have hse:s.toList.isEmpty=decide (s.toList=[]):=by cases s.toList<;>rfl
 by_cases hs:s.toList=[]
 .have he:s.toList.isEmpty=true:=by rw [hse]; simpa using hs
  clear hse
  by_cases k0:kind=0
  .subst k0
   by_cases h1:n=0
   .subst h1
    go_enter Tryz.func127,Tryz.ntmps127
    go_wp2
    go_ret
    exact ⟨by first|rfl|(refine bu ?_; simp [bU,mh,hs]; done)|(refine bu ?_; simp [bU,mh,hs]; omega)|(refine bu ?_; simp [bU,mh,hs, *]; done),(Below.refl _ w).alloc (bF _) _⟩
   .go_enter Tryz.func127,Tryz.ntmps127
    go_wp2
    go_ret
    exact ⟨by first|rfl|(refine bu ?_; simp [bU,mh,hs]; done)|(refine bu ?_; simp [bU,mh,hs]; omega)|(refine bu ?_; simp [bU,mh,hs, *]; done),(Below.refl _ w).alloc (bF _) _⟩
  by_cases k1:kind=1
  .subst k1
   by_cases h1:n=0
   .subst h1
    go_enter Tryz.func127,Tryz.ntmps127
    go_wp2
    go_ret
    exact ⟨by first|rfl|(refine bu ?_; simp [bU,mh,hs]; done)|(refine bu ?_; simp [bU,mh,hs]; omega)|(refine bu ?_; simp [bU,mh,hs, *]; done),(Below.refl _ w).alloc (bF _) _⟩
   .go_enter Tryz.func127,Tryz.ntmps127
    go_wp2
    go_ret
    exact ⟨by first|rfl|(refine bu ?_; simp [bU,mh,hs]; done)|(refine bu ?_; simp [bU,mh,hs]; omega)|(refine bu ?_; simp [bU,mh,hs, *]; done),(Below.refl _ w).alloc (bF _) _⟩
  by_cases k2:kind=2
  .subst k2
   by_cases h1:n=0
   .subst h1
    go_enter Tryz.func127,Tryz.ntmps127
    go_wp2
    go_ret
    exact ⟨by first|rfl|(refine bu ?_; simp [bU,mh,hs]; done)|(refine bu ?_; simp [bU,mh,hs]; omega)|(refine bu ?_; simp [bU,mh,hs, *]; done),(Below.refl _ w).alloc (bF _) _⟩
   .by_cases h2:n=1
    .subst h2
     go_enter Tryz.func127,Tryz.ntmps127
     go_wp2
     go_ret
     exact ⟨by first|rfl|(refine bu ?_; simp [bU,mh,hs]; done)|(refine bu ?_; simp [bU,mh,hs]; omega)|(refine bu ?_; simp [bU,mh,hs, *]; done),(Below.refl _ w).alloc (bF _) _⟩
    .have h3:¬ (0<=n/\n<=1):=by omega
     go_enter Tryz.func127,Tryz.ntmps127
     go_wp2
     go_ret
     exact ⟨by first|rfl|(refine bu ?_; simp [bU,mh,hs]; done)|(refine bu ?_; simp [bU,mh,hs]; omega)|(refine bu ?_; simp [bU,mh,hs, *]; done),(Below.refl _ w).alloc (bF _) _⟩
  by_cases k3:kind=3
  .subst k3
   by_cases h1 : -1000000000000000<=n<;>by_cases h2:n<=1000000000000000
   all_goals first
   | (exfalso; omega)
   | (go_enter Tryz.func127,Tryz.ntmps127
      go_wp2
      go_ret
      exact ⟨by first|rfl|(refine bu ?_; simp [bU,mh,hs]; done)|(refine bu ?_; simp [bU,mh,hs]; omega),(Below.refl _ w).alloc (bF _) _⟩)
  by_cases k5:kind=5
  .subst k5
   by_cases h1:0<=n<;>by_cases h2:n<=1000000000
   all_goals first
   | (exfalso; omega)
   | (go_enter Tryz.func127,Tryz.ntmps127
      go_wp2
      go_ret
      exact ⟨by first|rfl|(refine bu ?_; simp [bU,mh,hs]; done)|(refine bu ?_; simp [bU,mh,hs]; omega),(Below.refl _ w).alloc (bF _) _⟩)
  by_cases k6:kind=6
  .subst k6
   by_cases h1:0<=n<;>by_cases h2:n<24
   all_goals first
   | (exfalso; omega)
   | (go_enter Tryz.func127,Tryz.ntmps127
      go_wp2
      go_ret
      exact ⟨by first|rfl|(refine bu ?_; simp [bU,mh,hs]; done)|(refine bu ?_; simp [bU,mh,hs]; omega),(Below.refl _ w).alloc (bF _) _⟩)
  go_enter Tryz.func127,Tryz.ntmps127
  go_wp2
  go_ret
  exact ⟨by first|rfl|(refine bu ?_; simp [bU,mh,hs]; done)|(refine bu ?_; simp [bU,mh,hs]; omega)|(refine bu ?_; simp [bU,mh,hs,k0,k1,k2,k3,k4,k5,k6]; done),(Below.refl _ w).alloc (bF _) _⟩
 .have he:s.toList.isEmpty=false:=by rw [hse]; simpa using hs
  clear hse
  go_enter Tryz.func127,Tryz.ntmps127
  go_wp2
  go_ret
  exact ⟨by first|rfl|(refine bu ?_; simp [bU,mh,hs]; done)|(refine bu ?_; simp [bU,mh,hs]; omega)|(refine bu ?_; simp [bU,hs,k4]; done),(Below.refl _ w).alloc (bF _) _⟩
end
open Go Go.V
theorem Nq {E:Env} {av:Nat->Prop} {w:World} {v:jd} {x:Value} (h:bj E av w (Lh v) x):x=.agg #[.int .i64 v.kind,.int .i64 v.n,.string v.s]:=by
 obtain ⟨⟨l⟩,rfl,h⟩:=h
 cases h with
 | cons h1 h=>cases h with
   | cons h2 h=>cases h with
     | cons h3 h=>cases h with
       | nil=>rw [h1.1,h2.1,h3.1]
theorem aP9:Fn 138:={}
theorem aT7:Fn 127:={}
section
variable (v:jd)
def oX:Bool:=bU v.kind v.n v.s
theorem aw4:LC 138 [Lh v] [] (bool (oX v)) []:=
 ⟨aP9.enters,λN aA w0 sp sl df a w E vs hR hv=>by
  cases hv with
  | cons q k=>
    cases k
    rw [Nq q]
    refine (Um v.kind v.n v.s w).mono ?_
    rintro en w' ⟨rfl,hb⟩
    exact ⟨_,E,rfl,Kept.refl E,hR.grown hb,rfl,rfl⟩⟩
theorem aB6 (hs:v.s.size<=maxLen):LC 127 [Lh v] [] (bool (oX v)) []:=
 ⟨aT7.enters,λN aA w0 sp sl df a w E vs hR hv=>by
  cases hv with
  | cons q k=>
    cases k
    rw [Nq q]
    refine (U5 v.kind v.n v.s w hs).mono ?_
    rintro en w' ⟨rfl,hb⟩
    exact ⟨_,E,rfl,Kept.refl E,hR.grown hb,rfl,rfl⟩⟩
end
def F2L:List (Nat×(List D->List ah->Out)):=[
 (94,λds rs=>(int (ku (λi=>aI ds 1==(SW ds 0).get i) (SW ds 0).n),[],[])),
 (146,λds rs=>(int (ku (λi=>(aS ds 1).toList==((B7 ds 0).get i).toList) (B7 ds 0).n),[],[])),
 (147,λds rs=>(int (ku (λi=>((B7 ds 0).get i).toList==(aS ds 1).toList) (B7 ds 0).n),[],[])),
 (72,λds rs=>(bool (cz lg (B7 ds 0) (B7 ds 1)),[],[])),
 (22,λds rs=>(bool (cz lg (B7 ds 0) (B7 ds 1)),[],[])),
 (32,λds rs=>(bool (cz (λa b:Int=>a==b) (SW ds 0) (SW ds 1)),[],[])),
 (138,λds rs=>(bool (oX (ad9 ds 0)),[],[])),
 (127,λds rs=>(bool (oX (ad9 ds 0)),[],[]))]
def F2:FuncId->List D->List ah->Out:=λf ds rs=>match findF f F2L with
 | some g=>g ds rs
 | none=>F1 f ds rs
abbrev Ao:=List (Nat×(List D->List ah->Out))
def ext (F:FuncId->List D->List ah->Out) (l:Ao):FuncId->List D->List ah->Out:=λf ds rs=>match findF f l with
 | some g=>g ds rs
 | none=>F f ds rs
section
variable (v:Int) {n:Nat} {x:Sq Int} (l:List Int) {sz:Nat} {get:Nat->Nat->I}
def jh (x:Sq Int):Bool:=decide (ku (λi=>v==x.get i) x.n≥0)
def fy (v:Int):List Int->Bool
 | []=>false
 | y::l=>(v==y)||fy v l
theorem Jm {v:Int}:∀ {l:List Int},fy v l=true↔v∈l
 | []=>by simp [fy]
 | y::l=>by simp [fy,Jm]
theorem Jl {v:Int}:jh v x=true↔∃ i,i<x.n/\v=x.get i:=by
 grind [jh,rO]
theorem VN {v:Int} (hn:x.n=l.length) (h:∀ i,i<l.length->x.get i=l.getD i 0):jh v x=fy v l:=by
 grind [Jl,Jm,List.getElem_of_mem]
theorem NQ {get':Nat->Nat->I} (h:∀ i,i<n->∀ j,j<sz->cD (get i j) (get' i j)):aX (.c (.im (.sl sz n get))) (.c (.im (.sl sz n get'))):=by
 rintro E av w v ⟨a,cap,rfl,h1,h2,h3⟩
 refine ⟨a,cap,rfl,h1,h2,λh0=>?_⟩
 obtain ⟨ad,h4,h5,h6,h7,h8⟩:=h3 h0
 refine ⟨ad,h4,h5,h6,h7,λi hi j hj=>?_⟩
 obtain ⟨x,h9,BH⟩:=h8 i hi j hj
 exact ⟨x,h9,h i hi j hj _ _ _ BH⟩
theorem aq6 (h:∀ i,i<n->∃ m,get i 0=iI m):aX (.c (.im (.sl 1 n get))) (fM 1 bn ⟨n,λi=>rI (get i)⟩):=
 NQ λi hi j hj=>by
  obtain ⟨m,e⟩:=h i hi
  have hj0:j=0:=by omega
  subst hj0
  show cD (get i 0) (iI (cV (get i 0)))
  rw [e]
  exact cD.refl _
theorem qz {q:Nat}:∀ {l:List Int},q<l.length->iR (l.map iI) q=iI (l.getD q 0)
 | [],h=>by simp at h
 | y::l,h=>by
   cases q with
   | zero=>rfl
   | succ q=>exact qz (q:=q) (l:=l) (by simpa using h)
theorem L0:aX (.c (.im (.sl 1 l.length (flat 1 (l.map iI))))) (fM 1 bn ⟨l.length,λi=>rI (flat 1 (l.map iI) i)⟩):=
 aq6 λi hi=>⟨_,by show iR (l.map iI) (i*1+0)=_; rw [Nat.mul_one]; exact qz hi⟩
theorem Dg:jh v ⟨l.length,λi=>rI (flat 1 (l.map iI) i)⟩=fy v l:=
 VN l rfl λi hi=>by
  show cV (iR (l.map iI) (i*1+0))=_
  rw [Nat.mul_one,Nat.add_zero,qz hi]; rfl
theorem nil_le {α:Type} {e:α->Nat->I} {g:Nat->α}:aX (.c (.im (.v (.slice none 0 0)))) (fM sz e ⟨0,g⟩):=λE av w v h=>cD.nil sz _ av w v h
end
theorem aD9 {f:FuncId} {a a':D} {l:List D} {rs aV:List ah} {d:D} (h:aX a a') (k:LC f (a'::l) rs d aV):LC f (a::l) rs d aV:=
 bt.pre k (.cons h (allRefl l))
where allRefl:∀ l:List D,aF aX l l
 | []=>.nil
 | _::l=>.cons (aX.refl _) (allRefl l)
open Go Go.V
def aW (x:au):Sq Int:=bif x.op==20 then x.args else ⟨(gL x.op).toNat,λi=>[x.a,x.b,x.c].getD i 0⟩
def Qh (x:Sq au):Int:=ku (λi=>P6 (x.get i)) x.n
theorem SP (x:au):P6 x=(x.op != 1):=rfl
def kN (x:Sq au):Nat:=pK (λi=>P6 (x.get i)) x.n 0
section
variable (op:Int) (x:Sq ByteArray)
def Jq:Bool:=fy op [5,6,7,8,9,15,18,21]||(op==3||op==4)
def jz (v:jd):Bool:=oX v&&(v.kind != 0 && v.kind != 5)
def zF:ByteArray:=ByteArray.mk #[]
def qC (k:Nat):Bool := !lg (x.get k) zF&&(ku (λi=>lg (x.get i) (x.get k)) x.n==(k:Int))
def lV:Bool:=eh (qC x) x.n&&decide ((x.n:Int)<=64)
def gS:Int×Int:=
 bif op==3 then (3,4) else bif op==4 then (5,14) else bif op==5 then (0,1) else bif op==6 then (1,6) else bif op==10 then (0,63) else bif op==11 then (0,63) else bif op==15 then (0,600) else bif op==18 then (1,200)
 else bif op==7 then (0,9223372036854775807) else bif op==16 then (0,9223372036854775807) else bif op==17 then (0,9223372036854775807) else (0,0)
end
def ak6 (x:Int×Int):D:=.t [(false,[.im (iI x.1)]),(false,[.im (iI x.2)])]
def F3L:Ao:=[
 (54,λds rs=>(bool (jh (aI ds 1) (SW ds 0)),[],[])),
 (124,λds rs=>(bool (fy (aI ds 0) [1,2,3,4,10,12,14,16,17]),[],[])),
 (91,λds rs=>(bool (fy (aI ds 0) [5,6,7,8,9,15,18,21]),[],[])),
 (89,λds rs=>(bool (fy (aI ds 0) [2,3,4,5,6,7,8,9,10,12,14]),[],[])),
 (86,λds rs=>(int (Qh (Qz kL (gD (aD ds 0) 0))),[],[])),
 (90,λds rs=>(bool (Jq (aI ds 0)),[],[])),
 (49,λds rs=>(int (kN (dO ds 0).ins),[],[])),
 (112,λds rs=>(int (kN (dO ds 0).ins),[],[])),
 (123,λds rs=>(bool (jz (ad9 ds 0)),[],[])),
 (77,λds rs=>(bool (jz (ad9 ds 0)),[],[])),
 (130,λds rs=>(ak6 (gS (aI ds 0)),[],[])),
 (131,λds rs=>(bool (lV (B7 ds 0)),[],[])),
 (136,λds rs=>(bool (lV (B7 ds 0)),[],[])),
 (55,λds rs=>(fM 1 bn (aW (qA ds 0)),[],[])),
 (74,λds rs=>(fM 1 bn (aW (qA ds 0)),[],[]))]
def F3:=ext F2 F3L
def X95 (j:Int):eU:={ F:=ext F2 [(95,λds rs=>(int j,[],[]))] }
def aR8:eU:={ F:=F3 }
def aW9:Nat->Bool:=bH
theorem bs2:Fn 54:={}
section
variable (L:LP) (aj:Int) (QD:D->Prop) (x:Sq Int) (op v:Int)
theorem bB8 (h:(LC 94 [(j7 x),(int v)] [] (int (ku (λi=>v==x.2 i) x.1)) []/\QD (bool (decide (ku (λi=>v==x.2 i) x.1≥0))))):ep aR8 54 aW9 L (bf QD) [fM 1 bn x,int v] []:=km h
theorem Iy:LC 54 [fM 1 bn x,int v] [] (bool (jh v x)) []:=
 pv (X:=aR8) (stop:=aW9) bs2 (bB8 _ _ x v ⟨aN9 _ _,aX.refl _⟩)
def ah7:eU:={ F:=F3 }
def an5:Nat->Bool:=bH
theorem aR5:Fn 124:={}
abbrev Tk:D:=bool (jh aj { n:=9,get:=λi=>rI (flat 1 [I.v (Value.int IntKind.i64 1),I.v (Value.int IntKind.i64 2),I.v (Value.int IntKind.i64 3),I.v (Value.int IntKind.i64 4),I.v (Value.int IntKind.i64 10),I.v (Value.int IntKind.i64 12),I.v (Value.int IntKind.i64 14),I.v (Value.int IntKind.i64 16),I.v (Value.int IntKind.i64 17)] i) })
theorem bi2 (h:(LC 54 [(.c (.im (.sl 1 9 (flat 1 [I.v (Value.int IntKind.i64 1),I.v (Value.int IntKind.i64 2),I.v (Value.int IntKind.i64 3),I.v (Value.int IntKind.i64 4),I.v (Value.int IntKind.i64 10),I.v (Value.int IntKind.i64 12),I.v (Value.int IntKind.i64 14),I.v (Value.int IntKind.i64 16),I.v (Value.int IntKind.i64 17)])))),(int op)] [] (Tk op) []/\QD (Tk op))):ep ah7 124 an5 L (bf QD) [int op] []:=km h
theorem wT:LC 124 [int op] [] (bool (fy op [1,2,3,4,10,12,14,16,17])) []:=by
 refine pv (X:=ah7) (stop:=an5) aR5 (bi2 _ _ op ⟨aD9 (L0 [1,2,3,4,10,12,14,16,17]) (Iy _ _),?_⟩)
 have e:=Dg op [1,2,3,4,10,12,14,16,17]
 rw [<- e]
 exact aX.refl _
def aO5:eU:={ F:=F3 }
def aY9:Nat->Bool:=bH
theorem bo2:Fn 91:={}
abbrev Ue:D:=bool (jh aj { n:=8,get:=λi=>rI (flat 1 [I.v (Value.int IntKind.i64 5),I.v (Value.int IntKind.i64 6),I.v (Value.int IntKind.i64 7),I.v (Value.int IntKind.i64 8),I.v (Value.int IntKind.i64 9),I.v (Value.int IntKind.i64 15),I.v (Value.int IntKind.i64 18),I.v (Value.int IntKind.i64 21)] i) })
theorem bx6 (h:(LC 54 [(.c (.im (.sl 1 8 (flat 1 [I.v (Value.int IntKind.i64 5),I.v (Value.int IntKind.i64 6),I.v (Value.int IntKind.i64 7),I.v (Value.int IntKind.i64 8),I.v (Value.int IntKind.i64 9),I.v (Value.int IntKind.i64 15),I.v (Value.int IntKind.i64 18),I.v (Value.int IntKind.i64 21)])))),(int op)] [] (Ue op) []/\QD (Ue op))):ep aO5 91 aY9 L (bf QD) [int op] []:=km h
theorem an2:LC 91 [int op] [] (bool (fy op [5,6,7,8,9,15,18,21])) []:=by
 refine pv (X:=aO5) (stop:=aY9) bo2 (bx6 _ _ op ⟨aD9 (L0 [5,6,7,8,9,15,18,21]) (Iy _ _),?_⟩)
 have e:=Dg op [5,6,7,8,9,15,18,21]
 rw [<- e]
 exact aX.refl _
def aW4:eU:={ F:=F3 }
def bh8:Nat->Bool:=bH
theorem br4:Fn 89:={}
abbrev Vi:D:=bool (jh aj { n:=11,get:=λi=>rI (flat 1 [I.v (Value.int IntKind.i64 2),I.v (Value.int IntKind.i64 3),I.v (Value.int IntKind.i64 4),I.v (Value.int IntKind.i64 5),I.v (Value.int IntKind.i64 6),I.v (Value.int IntKind.i64 7),I.v (Value.int IntKind.i64 8),I.v (Value.int IntKind.i64 9),I.v (Value.int IntKind.i64 10),I.v (Value.int IntKind.i64 12),I.v (Value.int IntKind.i64 14)] i) })
theorem bz1 (h:(LC 54 [(.c (.im (.sl 1 11 (flat 1 [I.v (Value.int IntKind.i64 2),I.v (Value.int IntKind.i64 3),I.v (Value.int IntKind.i64 4),I.v (Value.int IntKind.i64 5),I.v (Value.int IntKind.i64 6),I.v (Value.int IntKind.i64 7),I.v (Value.int IntKind.i64 8),I.v (Value.int IntKind.i64 9),I.v (Value.int IntKind.i64 10),I.v (Value.int IntKind.i64 12),I.v (Value.int IntKind.i64 14)])))),(int op)] [] (Vi op) []/\QD (Vi op))):ep aW4 89 bh8 L (bf QD) [int op] []:=km h
theorem aj1:LC 89 [int op] [] (bool (fy op [2,3,4,5,6,7,8,9,10,12,14])) []:=by
 refine pv (X:=aW4) (stop:=bh8) br4 (bz1 _ _ op ⟨aD9 (L0 [2,3,4,5,6,7,8,9,10,12,14]) (Iy _ _),?_⟩)
 have e:=Dg op [2,3,4,5,6,7,8,9,10,12,14]
 rw [<- e]
 exact aX.refl _
def aQ0:eU:={ F:=F3 }
def aM9:Nat->Bool:=bH
theorem bn5:Fn 90:={}
theorem bu2 (h:(LC 91 [(int op)] [] (bool (fy op [5,6,7,8,9,15,18,21])) []/\br (fy op [5,6,7,8,9,15,18,21]) (QD (bool true)) (br (op==3) (QD (bool true)) (QD (bool (op==4)))))):ep aQ0 90 aM9 L (bf QD) [int op] []:=km h
theorem aT1:LC 90 [int op] [] (bool (Jq op)) []:=by
 refine pv (X:=aQ0) (stop:=aM9) bn5 (bu2 _ _ op ⟨an2 _,?_⟩)
 grind [ag,Jq,aX.refl]
def SX:eU:={ F:=F3 }
end
section
variable (aj:Sq au) (L:LP) (x:Sq au) (QD:D->Prop) (t:ak) (k:Nat)
def Vj:Nat->Bool:=λi=>Nat.beq i 2
theorem aW3:Fn 86:={}
abbrev Ex:D:=.c (.im (.sl 14 aj.1 (λi=>gw (aj.2 i))))
abbrev dL:D:=int (↑aj.1:Int)
theorem bx3 (x:Sq au) (h:L (af 86 2) ⟨[(0,((Ex x),[])),(1,((.c (.im (.fn 87 0 (λx=>I.v (Value.bool false))))),[])),(7,((dL x),[])),wj],[],[]⟩):ep SX 86 Vj L (bf QD) [fM 14 gw x,.c (.im (.fn 87 0 λ_=>.v (.bool false)))] []:=km h
def RY:VS:=⟨[(0,(Ex x),[]),(1,(.c (.im (.fn 87 0 (λx=>I.v (Value.bool false))))),[]),(7,(dL x),[]),(8,int k,[])],[],[]⟩
theorem UI (x:Sq au) (k:Nat) (h:br (decide ((↑k:Int)<(↑x.1:Int))) (nd (bQ (↑k:Int) x.1) ((LC 87 [(.a (lift (bW (x.2 k))))] [] (bool (P6 (x.2 k))) []/\br (P6 (x.2 k)) (QD (int (↑k:Int))) (L (af 86 2) ⟨[(0,((Ex x),[])),(1,((.c (.im (.fn 87 0 (λx=>I.v (Value.bool false))))),[])),(7,((dL x),[])),(8,((int (IntKind.i64.wrap ((↑k:Int)+1))),[]))],[],[]⟩)))) (QD (int (-1)))):b5 SX 86 Vj L (bf QD) 2 (RY x k):=km h
theorem br9 (a:Int) (hx:x.n<=maxLen):∀ k,k<=x.n->ir (λi=>P6 (x.get i)) (x.n-k) k=a->ae 86 0 (a7 (int a)) (af 86 2) (RY x k):=by
 refine aN (λk hk ih ha=>?_) (λha=>?_)
 .have e:x.n-k=(x.n-(k+1))+1:=by omega
  rw [e] at ha
  refine aK (X:=SX) (stop:=Vj) (UI _ _ x k ?_)
  refine ag (λh=>?_) (λh=>(dec_lt h hk).elim)
  refine ai (aC hk) ⟨aY1 _,?_⟩
  refine ag (λh1=>?_) (λh1=>?_)
  .grind [j8,aX.refl]
  .rw [jg (p:=λi=>P6 (x.get i)) h1] at ha
   rw [b6 hk hx]
   exact ih ha
 .rw [Nat.sub_self] at ha
  refine aK (X:=SX) (stop:=Vj) (UI _ _ x _ ?_)
  refine ag (λh=>bq h) (λh=>?_)
  subst ha; exact aX.refl _
theorem ba2:LC 86 [fM 14 gw x,.c (.im (.fn 87 0 λ_=>.v (.bool false)))] [] (int (Qh x)) []:=
 bt.with aW3 (p:=x.n<=maxLen) (λE av w vs h=>by cases h with|cons q _=>exact oJ q) λhx=>
  pv (X:=SX) (stop:=Vj) aW3 (bx3 _ _ x (br9 x _ hx 0 (bk _) rfl))
def aY4:eU:={ F:=F3 }
def aN7:Nat->Bool:=bH
theorem br0:Fn 49:={}
abbrev gY (aj:ak):D:=int (↑aj.2.1:Int)
theorem bv8 (h:(LC 86 [(.c (.im (.sl 14 t.2.1 (λi=>gw (t.ins.2 i))))),(.c (.im (.fn 87 0 (λx=>I.v (Value.bool false)))))] [] (int (Qh t.2)) []/\br (decide (Qh t.2<0)) (QD (gY t)) (QD (int (Qh t.2))))):ep aY4 49 aN7 L (bf QD) [aO t] []:=km h
theorem aW5:LC 49 [aO t] [] (int (kN t.ins)) []:=by
 have key:=Oa (p:=λi=>P6 (t.ins.get i)) (m:=t.ins.n) (k:=0)
 rw [Nat.zero_add] at key
 refine pv (X:=aY4) (stop:=aN7) br0 (bv8 _ _ t ⟨ba2 _,?_⟩)
 refine ag (λh=>?_) (λh=>?_)
 .have e:(kN t.ins:Int)=(t.ins.n:Int):=by unfold kN; rw [<- key]; exact (congrArg (λb=>bif b then _ else _) h)
  rw [e]; exact aX.refl _
 .have e:(kN t.ins:Int)=Qh t.ins:=by unfold kN; rw [<- key]; exact (congrArg (λb=>bif b then _ else _) h)
  rw [e]; exact aX.refl _
def Hu:eU:={ F:=F3 }
def IB:Nat->Bool:=λi=>Nat.beq i 2
theorem ai7:Fn 112:={}
abbrev bM:eQ:=(1,((.c (.rt 0 0 0)),[]))
abbrev aU (aj:ak):ah:=.box (lift (aT (aj)))
theorem aZ0 (h:L (af 112 2) ⟨[bM,(3,((int 0),[]))],[(aU t)],[]⟩):ep Hu 112 IB L (bf QD) [aO t] []:=km h
abbrev kG:eQ:=(1,(.c (.rt 0 0 0)),[])
def Nf:VS:=⟨[kG,(3,int k,[])],[(aU t)],[]⟩
theorem NH (h:br (decide ((↑k:Int)<(↑t.2.1:Int))) (nd (bQ (↑k:Int) t.2.1) (br ((t.ins.2 k).1==1) (L (af 112 2) ⟨[bM,(3,((int (IntKind.i64.wrap ((↑k:Int)+1))),[]))],[(aU t)],[]⟩) (QD (int (↑k:Int))))) (QD (int (↑k:Int)))):b5 Hu 112 IB L (bf QD) 2 (Nf t k):=km h
theorem aW2 (a:Nat) (hx:t.ins.n<=maxLen):∀ k,k<=t.ins.n->pK (λi=>P6 (t.ins.get i)) (t.ins.n-k) k=a->ae 112 0 (a7 (int a)) (af 112 2) (Nf t k):=by
 refine aN (λk hk ih ha=>?_) (λha=>?_)
 .have e:t.ins.n-k=(t.ins.n-(k+1))+1:=by omega
  rw [e] at ha
  refine aK (X:=Hu) (stop:=IB) (NH _ _ t k ?_)
  refine ag (λh=>?_) (λh=>(dec_lt h hk).elim)
  refine ai (aC hk) ?_
  refine ag (λh1=>?_) (λh1=>?_)
  .rw [L8 (p:=λi=>P6 (t.ins.get i)) (by grind [SP])] at ha
   rw [b6 hk hx]
   exact ih ha
  grind [OI,SP,aX.refl]
 .rw [Nat.sub_self] at ha
  refine aK (X:=Hu) (stop:=IB) (NH _ _ t _ ?_)
  refine ag (λh=>bq h) (λh=>?_)
  subst ha; exact aX.refl _
theorem OL {t:ak} {E:Env} {av:Nat->Prop} {w:World} {v:Value} (h:bj E av w (aO t) v):t.ins.n<=maxLen/\t.aa.n<=maxLen:=by
 obtain ⟨⟨cs⟩,rfl,h⟩:=h
 cases h with|cons _ h=>cases h with|cons _ h=>cases h with|cons h1 h=>cases h with|cons h2 h=>
  obtain ⟨_,_,_,_,h1,_⟩:=h1
  obtain ⟨_,_,_,_,h2,_⟩:=h2
  exact ⟨h1,h2⟩
end
section
variable (aj:au) (L:LP) (QD:D->Prop) (x:Sq ByteArray) (v:jd) (op:Int) (k:Nat)
theorem av8 (t:ak):LC 112 [aO t] [] (int (kN t.ins)) []:=
 bt.with ai7 (p:=t.ins.n<=maxLen) (λE av w vs h=>by cases h with|cons q _=>exact (OL q).1) λhx=>
  pv (X:=Hu) (stop:=IB) ai7 (aZ0 _ _ t (aW2 t _ hx 0 (bk _) rfl))
def bg0:eU:={ F:=F3 }
def aN2:Nat->Bool:=bH
theorem aQ7:Fn 74:={}
abbrev oT:D:=.c (.im (.sl 1 1 (flat 1 [iI aj.2])))
abbrev AY:D:=.c (.im (.sl 1 2 (flat 1 [iI aj.2,iI aj.3])))
abbrev rf:C:=.im (.sl 1 aj.6.1 (λi=>bn (aj.args.2 i)))
abbrev bS:C:=.im (.v (.slice .none 0 0))
theorem by5 (x:au) (h:br (x.1==3) (QD (oT x)) (br (x.1==5) (QD (oT x)) (br (x.1==6) (QD (oT x)) (br (x.1==7) (QD (oT x)) (br (x.1==8) (QD (oT x)) (br (x.1==10) (QD (oT x)) (br (x.1==14) (QD (oT x)) (br (x.1==19) (QD (oT x)) (br (x.1==4) (QD (AY x)) (br (x.1==9) (QD (AY x)) (br (x.1==12) (QD (AY x)) (br (x.1==11) (QD (AY x)) (br (x.1==13) (QD (.c (.im (.sl 1 3 (flat 1 [iI x.2,iI x.3,iI x.4]))))) (br (x.1==20) (QD (.c (rf x))) (QD (.c bS)))))))))))))))):ep bg0 74 aN2 L (bf QD) [fk x] []:=km h
theorem NI (x:au):LC 74 [fk x] [] (fM 1 bn (aW x)) []:=by
 have one:∀ (l:List Int) (n:Nat),n<=l.length->aX (.c (.im (.sl 1 n (flat 1 (l.map iI))))) (fM 1 bn ⟨n,λi=>l.getD i 0⟩):=λl n hn=>NQ λi hi j hj=>by
  have:j=0:=by omega
  subst this
  show cD (iR (l.map iI) (i*1+0)) _
  rw [Nat.mul_one,Nat.add_zero,qz (by omega)]
  exact cD.refl _
 have sub:∀ (l m:List Int) (n:Nat),n<=l.length->(∀ i,i<n->l.getD i 0=m.getD i 0)->aX (.c (.im (.sl 1 n (flat 1 (l.map iI))))) (fM 1 bn ⟨n,λi=>m.getD i 0⟩):=λl m n hn hm E av w v h=>by
  refine NQ (λi hi j hj=>?_) E av w v (one l n hn E av w v h)
  grind [cD.refl]
 have c1:∀ op:Int,gL op=1->(op==20)=false->x.op=op->aX (.c (.im (.sl 1 1 (flat 1 [iI x.a])))) (fM 1 bn (aW x)):=λop h1 h2 h3=>by
  have e:aW x=⟨1,λi=>[x.a,x.b,x.c].getD i 0⟩:=by unfold aW; rw [h3,h1,h2]; rfl
  rw [e]
  exact sub [x.a] [x.a,x.b,x.c] 1 (bF _) λi hi=>by grind
 have c2:∀ op:Int,gL op=2->(op==20)=false->x.op=op->aX (.c (.im (.sl 1 2 (flat 1 [iI x.a,iI x.b])))) (fM 1 bn (aW x)):=λop h1 h2 h3=>by
  have e:aW x=⟨2,λi=>[x.a,x.b,x.c].getD i 0⟩:=by unfold aW; rw [h3,h1,h2]; rfl
  rw [e]
  exact sub [x.a,x.b] [x.a,x.b,x.c] 2 (bF _) λi hi=>by
   grind
 refine pv (X:=bg0) (stop:=aN2) aQ7 (by5 _ _ x ?_)
 refine ag (λh=>c1 3 rfl rfl (eq_of_beq h)) (λh3=>?_)
 refine ag (λh=>c1 5 rfl rfl (eq_of_beq h)) (λh5=>?_)
 refine ag (λh=>c1 6 rfl rfl (eq_of_beq h)) (λh6=>?_)
 refine ag (λh=>c1 7 rfl rfl (eq_of_beq h)) (λh7=>?_)
 refine ag (λh=>c1 8 rfl rfl (eq_of_beq h)) (λh8=>?_)
 refine ag (λh=>c1 10 rfl rfl (eq_of_beq h)) (λBH=>?_)
 refine ag (λh=>c1 14 rfl rfl (eq_of_beq h)) (λh14=>?_)
 refine ag (λh=>c1 19 rfl rfl (eq_of_beq h)) (λh19=>?_)
 refine ag (λh=>c2 4 rfl rfl (eq_of_beq h)) (λh4=>?_)
 refine ag (λh=>c2 9 rfl rfl (eq_of_beq h)) (λh9=>?_)
 refine ag (λh=>c2 12 rfl rfl (eq_of_beq h)) (λW9=>?_)
 refine ag (λh=>c2 11 rfl rfl (eq_of_beq h)) (λUL=>?_)
 refine ag (λh=>?_) (λh13=>ag (λh=>?_) (λh20=>?_))
 .have e:aW x=⟨3,λi=>[x.a,x.b,x.c].getD i 0⟩:=by unfold aW; rw [show x.op=13 from eq_of_beq h]; rfl
  rw [e]
  exact one [x.a,x.b,x.c] 3 (bF _)
 .have e:aW x=x.args:=by unfold aW; grind
  rw [e]; exact aX.refl _
 .have e:aW x=⟨0,λi=>[x.a,x.b,x.c].getD i 0⟩:=by
   grind [gL,aW]
  rw [e]; exact nil_le
def ah5:eU:={ F:=F3 }
def ap5:Nat->Bool:=bH
theorem aM5:Fn 123:={}
theorem bf9 (h:(LC 138 [(.a (lift (OX (v))))] [] (bool (oX v)) []/\br (oX v) (br (v.1 != 0) (QD (bool (v.1 != 5))) (QD (bool false))) (QD (bool false)))):ep ah5 123 ap5 L (bf QD) [Lh v] []:=km h
theorem vQ:LC 123 [Lh v] [] (bool (jz v)) []:=by
 refine pv (X:=ah5) (stop:=ap5) aM5 (bf9 _ _ v ⟨aw4 _,?_⟩)
 grind [ag,jz,aX.refl]
def bg6:eU:={ F:=F3 }
def aS5:Nat->Bool:=bH
theorem bq6:Fn 77:={}
theorem bA4 (h:(LC 127 [(.a (lift (OX (v))))] [] (bool (oX v)) []/\br (oX v) (br (v.1 != 0) (QD (bool (v.1 != 5))) (QD (bool false))) (QD (bool false)))):ep bg6 77 aS5 L (bf QD) [Lh v] []:=km h
theorem am5 (hs:v.s.size<=maxLen):LC 77 [Lh v] [] (bool (jz v)) []:=by
 refine pv (X:=bg6) (stop:=aS5) bq6 (bA4 _ _ v ⟨aB6 _ hs,?_⟩)
 grind [ag,jz,aX.refl]
def al7:eU:={ F:=F3 }
def am2:Nat->Bool:=bH
theorem aO9:Fn 130:={}
abbrev Lw:D:=.t [(.false,[(ci 0)]),(.false,[(ci 9223372036854775807)])]
theorem be5 (h:br (op==3) (QD (.t [(.false,[(ci 3)]),(.false,[(ci 4)])])) (br (op==4) (QD (.t [(.false,[(ci 5)]),(.false,[(ci 14)])])) (br (op==5) (QD (.t [(.false,[(ci 0)]),(.false,[(ci 1)])])) (br (op==6) (QD (.t [(.false,[(ci 1)]),(.false,[(ci 6)])])) (br (op==10) (QD (.t [(.false,[(ci 0)]),(.false,[(ci 63)])])) (br (op==11) (QD (.t [(.false,[(ci 0)]),(.false,[(ci 63)])])) (br (op==15) (QD (.t [(.false,[(ci 0)]),(.false,[(ci 600)])])) (br (op==18) (QD (.t [(.false,[(ci 1)]),(.false,[(ci 200)])])) (br (op==7) (QD Lw) (br (op==16) (QD Lw) (br (op==17) (QD Lw) (QD (.t [(.false,[(ci 0)]),(.false,[(ci 0)])]))))))))))))):ep al7 130 am2 L (bf QD) [int op] []:=km h
theorem aC8:LC 130 [int op] [] (ak6 (gS op)) []:=by
 refine pv (X:=al7) (stop:=am2) aO9 (be5 _ _ op ?_)
 repeat' (refine ag (λh=>?_) (λh=>?_))
 all_goals (simp only [gS, *,cond_true,cond_false]; exact aX.refl _)
def Hs:eU:={ F:=F3 }
def G8:Nat->Bool:=λi=>Nat.beq i 2
theorem aj3:Fn 131:={}
theorem aN3 (h:L (af 131 2) ⟨[(j9 x),(5,((jX x),[])),(6,((o0 x),[])),(7,((int 0),[]))],[],[]⟩):ep Hs 131 G8 L (bf QD) [fM 1 cA x] []:=km h
def M8:VS:=⟨[(0,(jX x),[]),(5,(jX x),[]),(6,(o0 x),[]),(7,int k,[])],[],[]⟩
theorem Oj (h:br (decide ((↑k:Int)<(↑x.1:Int))) (nd (bQ (↑k:Int) x.1) (br ((x.2 k).toList==(ByteArray.mk #[]).toList) (QD (bool false)) ((LC 146 [(jX x),(.c (.im (.v (.string (x.2 k)))))] [] (int (ku (λi=>(x.2 k).toList==(x.2 i).toList) x.1)) []/\br (ku (λi=>(x.2 k).toList==(x.2 i).toList) x.1 != (↑k:Int)) (QD (bool false)) (L (af 131 2) ⟨[(j9 x),(5,((jX x),[])),(6,((o0 x),[])),(7,((int (IntKind.i64.wrap ((↑k:Int)+1))),[]))],[],[]⟩))))) (QD (bool (decide ((↑x.1:Int)<=64))))):b5 Hs 131 G8 L (bf QD) 2 (M8 x k):=km h
theorem aP0 (a:Bool) (hx:x.n<=maxLen):∀ k,k<=x.n->(cB (qC x) (x.n-k) k&&decide ((x.n:Int)<=64))=a->ae 131 0 (a7 (bool a)) (af 131 2) (M8 x k):=by
 refine aN (λk hk ih ha=>?_) (λha=>?_)
 .have e:x.n-k=(x.n-(k+1))+1:=by omega
  rw [e] at ha
  refine aK (X:=Hs) (stop:=G8) (Oj _ _ x k ?_)
  refine ag (λh=>?_) (λh=>(dec_lt h hk).elim)
  refine ai (aC hk) (ag (λh1=>?_) (λh1=>?_))
  .grind [cR,qC,lg,zF,aX.refl]
  .refine ⟨aD7 _ _,?_⟩
   have ee:ku (λi=>(x.get k).toList==(x.get i).toList) x.n=ku (λi=>lg (x.get i) (x.get k)) x.n:=congrArg (λp=>ku p x.n) (funext λi=>GN _ _)
   refine ag (λh2=>?_) (λh2=>?_)
   .grind [cR,qC,aX.refl]
   .rw [dR (p:=qC x) (by grind [qC,lg,zF])] at ha
    rw [b6 hk hx]
    exact ih ha
 .rw [Nat.sub_self] at ha
  refine aK (X:=Hs) (stop:=G8) (Oj _ _ x _ ?_)
  refine ag (λh=>bq h) (λh=>?_)
  subst ha; exact aX.refl _
theorem LF:LC 131 [fM 1 cA x] [] (bool (lV x)) []:=
 bt.with aj3 (p:=x.n<=maxLen) (λE av w vs h=>by cases h with|cons q _=>exact oJ q) λhx=>
  pv (X:=Hs) (stop:=G8) aj3 (aN3 _ _ x (aP0 x _ hx 0 (bk _) rfl))
def Hx:eU:={ F:=F3 }
def Io:Nat->Bool:=λi=>Nat.beq i 2
theorem ai6:Fn 136:={}
theorem bh6 (h:L (af 136 2) ⟨[(j9 x),(3,((int 0),[]))],[],[]⟩):ep Hx 136 Io L (bf QD) [fM 1 cA x] []:=km h
def N4:VS:=⟨[(0,(jX x),[]),(3,int k,[])],[],[]⟩
theorem Oo (h:br (decide ((↑k:Int)<(↑x.1:Int))) (nd (bQ (↑k:Int) x.1) (br ((x.2 k).toList==(ByteArray.mk #[]).toList) (QD (bool false)) (nd (bQ (↑k:Int) x.1) ((LC 147 [(jX x),(.c (.im (.v (.string (x.2 k)))))] [] (int (ku (λi=>(x.2 i).toList==(x.2 k).toList) x.1)) []/\br (ku (λi=>(x.2 i).toList==(x.2 k).toList) x.1 != (↑k:Int)) (QD (bool false)) (L (af 136 2) ⟨[(j9 x),(3,((int (IntKind.i64.wrap ((↑k:Int)+1))),[]))],[],[]⟩)))))) (QD (bool (decide ((↑x.1:Int)<=64))))):b5 Hx 136 Io L (bf QD) 2 (N4 x k):=km h
end
theorem ba5 (x:Sq ByteArray) (a:Bool) (hx:x.n<=maxLen):∀ k,k<=x.n->(cB (qC x) (x.n-k) k&&decide ((x.n:Int)<=64))=a->ae 136 0 (a7 (bool a)) (af 136 2) (N4 x k):=by
 refine aN (λk hk ih ha=>?_) (λha=>?_)
 .have e:x.n-k=(x.n-(k+1))+1:=by omega
  rw [e] at ha
  refine aK (X:=Hx) (stop:=Io) (Oo _ _ x k ?_)
  refine ag (λh=>?_) (λh=>(dec_lt h hk).elim)
  refine ai (aC hk) (ag (λh1=>?_) (λh1=>?_))
  .grind [cR,qC,lg,zF,aX.refl]
  .refine ai (aC hk) ⟨aJ9 _ _,?_⟩
   have ee:ku (λi=>(x.get i).toList==(x.get k).toList) x.n=ku (λi=>lg (x.get i) (x.get k)) x.n:=rfl
   refine ag (λh2=>?_) (λh2=>?_)
   .grind [cR,qC,aX.refl]
   .rw [dR (p:=qC x) (by grind [qC,lg,zF])] at ha
    rw [b6 hk hx]
    exact ih ha
 .rw [Nat.sub_self] at ha
  refine aK (X:=Hx) (stop:=Io) (Oo _ _ x _ ?_)
  refine ag (λh=>bq h) (λh=>?_)
  subst ha; exact aX.refl _
theorem JC (x:Sq ByteArray):LC 136 [fM 1 cA x] [] (bool (lV x)) []:=
 bt.with ai6 (p:=x.n<=maxLen) (λE av w vs h=>by cases h with|cons q _=>exact oJ q) λhx=>
  pv (X:=Hx) (stop:=Io) ai6 (bh6 _ _ x (ba5 x _ hx 0 (bk _) rfl))
open Go Go.V
section
variable (x:au)
def dr (y:au):Bool:=x.op==y.op&&(x.a==y.a&&(x.b==y.b&&(x.c==y.c&&(x.n==y.n&&((x.k.kind==y.k.kind&&(x.k.n==y.k.n&&(x.k.s==y.k.s&&true)))&&((x.place.fn==y.place.fn&&(x.place.line==y.place.line&&true))&&(x.exit==y.exit&&((x.once==y.once)&&(cz (λa b=>a==b) x.args y.args&&cz lg x.names y.names)))))))))
def tI:Bool := !(decide (x.op<0)||(decide (x.op>21)||(decide (x.n<(gS x.op).1)||decide (x.n>(gS x.op).2))))
def rN:Bool := !((decide (gL x.op<1)&&x.a != 0)||((decide (gL x.op<2)&&x.b != 0)||((decide (gL x.op<3)&&x.c != 0)||(x.op != 20&&decide ((x.args.n:Int)>0)))))
def pX:Bool := !((x.op==1&&(x.k.kind != 3 || (decide (x.k.n<0)||(decide (x.k.n≥24) || !(x.k.s.toList==(ByteArray.mk #[]).toList)))))||(x.op==2 && !jz x.k))
def zeroV (v:jd):Bool:=v.kind==0&&(v.n==0&&(v.s==(ByteArray.mk ⟨[]⟩)&&true))
def ft (p:KZ):Bool:=p.fn==0&&(p.line==0&&true)
def pe:Bool := !(x.op != 1 && (x.op != 2 && !zeroV x.k))
def fF:Bool := !(decide (x.place.fn<0)||(decide (x.place.line<0)||(x.op != 19 && !ft x.place)))
def fz:Bool:=bif x.op==7||(x.op==16||x.op==17) then lV x.names else ((x.names.n:Int)==0)
def bC:Bool:=tI x&&(rN x&&(pX x&&(pe x&&(fF x&&fz x))))
end
def vY (x:Sq cZ) (v:Int):Int:=ku (λi=>(x.get i).value==v) x.n
def eF (t:ak) (n before:Int):Bool:=decide (n≥0)&&(decide (n<before)&&xU (t.ins.get n.toNat).op)
def F4L:Ao:=[
 (51,λds rs=>(bool (dr (qA ds 0) (qA ds 1)),[],[])),
 (88,λds rs=>(bool (bC (qA ds 0)),[],[])),
 (114,λds rs=>(bool (eF (dO ds 0) (aI ds 1) (aI ds 2)),[],[])),
 (137,λds rs=>(int (vY (IJ ds 0).az (aI ds 1)),[],[]))]
section
variable (L:LP) (aj:au) (QD ax:D->Prop) (x y:au) (aJ:LP)
def F4:=ext F3 F4L
def G4:Nat->Bool:=bH
theorem Zz:Fn 55:={}
theorem au1 (h:br (x.1==20) (QD (.c (rf x))) ((LC 95 [(int x.1)] [] (int 0) []/\(LC 95 [(int x.1)] [] (int 0) []/\QD (.c (.im (.sl 1 0 (flat 1 [])))))))):ep (X95 0) 55 G4 L (bf QD) [fk x] []:=km h
theorem aC9 (h:br (x.1==20) (QD (.c (rf x))) ((LC 95 [(int x.1)] [] (int 1) []/\(LC 95 [(int x.1)] [] (int 1) []/\QD (oT x))))):ep (X95 1) 55 G4 L (bf QD) [fk x] []:=km h
theorem at3 (h:br (x.1==20) (QD (.c (rf x))) ((LC 95 [(int x.1)] [] (int 2) []/\(LC 95 [(int x.1)] [] (int 2) []/\QD (AY x))))):ep (X95 2) 55 G4 L (bf QD) [fk x] []:=km h
theorem aq7 (h:br (x.1==20) (QD (.c (rf x))) ((LC 95 [(int x.1)] [] (int 3) []/\(LC 95 [(int x.1)] [] (int 3) []/\QD (.c (.im (.sl 1 3 (flat 1 [iI x.2,iI x.3,iI x.4])))))))):ep (X95 3) 55 G4 L (bf QD) [fk x] []:=km h
theorem aP3 {b:Bool} {x y:Int} (hx:x=0∨x=1∨x=2∨x=3) (hy:y=0∨y=1∨y=2∨y=3):(bif b then x else y)=0∨(bif b then x else y)=1∨(bif b then x else y)=2∨(bif b then x else y)=3:=by
 grind
theorem nO (op:Int):gL op=0∨gL op=1∨gL op=2∨gL op=3:=by
 unfold gL
 iterate 13 (refine aP3 (by omega) ?_)
 omega
theorem Ek (l m:List Int) (n:Nat) (hn:n<=l.length) (hm:∀ i,i<n->l.getD i 0=m.getD i 0):aX (.c (.im (.sl 1 n (flat 1 (l.map iI))))) (fM 1 bn ⟨n,λi=>m.getD i 0⟩):=NQ λi hi j hj=>by
 have:j=0:=by omega
 subst this
 show cD (iR (l.map iI) (i*1+0)) (iI (m.getD i 0))
 grind [qz,cD.refl]
theorem aZ9:LC 55 [fk x] [] (fM 1 bn (aW x)) []:=by
 have key:∀ n:Nat,gL x.op=n->(x.op==20)=false->aW x=⟨n,λi=>[x.a,x.b,x.c].getD i 0⟩:=λn h1 h2=>by
  unfold aW; rw [h1,h2]; rfl
 have lp:(x.op==20)=true->aW x=x.args:=λh=>by unfold aW; rw [h]; rfl
 have c95:∀ n:Nat,gL x.op=n->LC 95 [int x.op] [] (int (n:Int)) []:=λn h=>h▸CH x.op
 have hl:[fk x].length<=(yK 55).ntmps:=aQ (by kernel_rfl)
 rcases nO x.op with h|h|h|h
 .refine rP (X:=X95 0) (stop:=G4) Zz hl (au1 _ _ x (ag (λh1=>?_) (λh1=>⟨c95 0 h,c95 0 h,?_⟩)))
  .rw [lp h1]; exact aX.refl _
  .rw [key 0 h h1]; exact Ek [] [x.a,x.b,x.c] 0 (bF _) λi hi=>by omega
 .refine rP (X:=X95 1) (stop:=G4) Zz hl (aC9 _ _ x (ag (λh1=>?_) (λh1=>⟨c95 1 h,c95 1 h,?_⟩)))
  .rw [lp h1]; exact aX.refl _
  .rw [key 1 h h1]; exact Ek [x.a] [x.a,x.b,x.c] 1 (bF _) λi hi=>by
    grind
 .refine rP (X:=X95 2) (stop:=G4) Zz hl (at3 _ _ x (ag (λh1=>?_) (λh1=>⟨c95 2 h,c95 2 h,?_⟩)))
  .rw [lp h1]; exact aX.refl _
  .rw [key 2 h h1]; exact Ek [x.a,x.b] [x.a,x.b,x.c] 2 (bF _) λi hi=>by
    grind
 .refine rP (X:=X95 3) (stop:=G4) Zz hl (aq7 _ _ x (ag (λh1=>?_) (λh1=>⟨c95 3 h,c95 3 h,?_⟩)))
  .rw [lp h1]; exact aX.refl _
  .rw [key 3 h h1]; exact Ek [x.a,x.b,x.c] [x.a,x.b,x.c] 3 (bF _) λi hi=>rfl
def aS6:eU:={ F:=F4 }
def bc4:Nat->Bool:=bH
theorem bz0:Fn 51:={}
abbrev qX:D:=.c (.im (.sl 1 aj.8.1 (λi=>cA (aj.names.2 i))))
theorem bv2 (h:br (x.1==y.1) (br (x.2==y.2) (br (x.3==y.3) (br (x.4==y.4) (br (x.5==y.5) (br (x.7.1==y.7.1&&(x.7.2==y.7.2&&(x.7.3==y.7.3&&true))) (br (x.9.1==y.9.1&&(x.9.2==y.9.2&&true)) (br (x.10==y.10) (br (x.11==y.11) ((LC 32 [(.c (rf x)),(.c (rf y))] [] (bool (cz (λa b=>a==b) x.6 y.6)) []/\br (cz (λa b=>a==b) x.6 y.6) ((LC 22 [(qX x),(qX y)] [] (bool (cz lg x.8 y.8)) []/\QD (bool (cz lg x.8 y.8)))) (QD (bool false)))) (QD (bool false))) (QD (bool false))) (QD (bool false))) (QD (bool false))) (QD (bool false))) (QD (bool false))) (QD (bool false))) (QD (bool false))) (QD (bool false))):ep aS6 51 bc4 L (bf QD) [fk x,fk y] []:=km h
theorem bg7:LC 51 [fk x,fk y] [] (bool (dr x y)) []:=by
 refine pv (X:=aS6) (stop:=bc4) bz0 (bv2 _ _ x y ?_)
 repeat' (first|refine ag (λh=>?_) (λh=>?_)|refine ⟨bg5 _ _,?_⟩|refine ⟨Uw _ _,?_⟩|done)
 all_goals (try simp only [Bool.and_true] at *)
 all_goals grind [dr,aX.refl]
def tS:eU:={ F:=F4 }
def um:Nat->Bool:=λi=>Nat.beq i 3||Nat.beq i 5||Nat.beq i 7||Nat.beq i 9||Nat.beq i 11||Nat.beq i 13
theorem bC9:Fn 88:={}
abbrev cG:ah:=.box (lift (bW (aj)))
theorem br5 (h:(LC 130 [(int x.1)] [] (.t [(.false,[(ci ((gS x.1).1))]),(.false,[(ci ((gS x.1).2))])]) []/\(LC 95 [(int x.1)] [] (int (gL x.1)) []/\L (af 88 3) ⟨[bM,(3,((int ((gS x.1).1)),[])),(4,((int ((gS x.1).2)),[])),(5,((int (gL x.1)),[]))],[(cG x)],[]⟩))):ep tS 88 um L (bf QD) [fk x] []:=km h
def Ul  : VS:=⟨[kG,(3,(int ((gS x.1).1)),[]),(4,(int ((gS x.1).2)),[]),(5,(int (gL x.1)),[])],[(cG x)],[]⟩
theorem aI1 (h:br (decide (x.1<0)) (QD (bool false)) (br (decide (x.1>21)) (QD (bool false)) (br (decide (x.5<(gS x.1).1)) (QD (bool false)) (br (decide (x.5>(gS x.1).2)) (QD (bool false)) (L (af 88 5) ⟨[bM,(5,((int (gL x.1)),[])),(15,((bool false),[]))],[(cG x)],[]⟩))))):b5 tS 88 um L (bf QD) 3 (Ul x ):=km h
def KO  : VS:=⟨[kG,(5,(int (gL x.1)),[]),(15,(bool false),[])],[(cG x)],[]⟩
abbrev Ua:Prop:=br (aj.1 != 20) (br (decide ((↑aj.6.1:Int)>0)) (ax (bool false)) (aJ (af 88 7) ⟨[bM,(36,((bool false),[]))],[(cG aj)],[]⟩)) (aJ (af 88 7) ⟨[bM,(36,((bool false),[]))],[(cG aj)],[]⟩)
abbrev NB:Prop:=br (decide (gL aj.1<3)) (br (aj.4 != 0) (ax (bool false)) (Ua aj ax aJ)) (Ua aj ax aJ)
theorem aE7 (h:br (decide (gL x.1<1)) (br (x.2 != 0) (QD (bool false)) (br (decide (gL x.1<2)) (br (x.3 != 0) (QD (bool false)) (NB x QD L)) (NB x QD L))) (br (decide (gL x.1<2)) (br (x.3 != 0) (QD (bool false)) (NB x QD L)) (NB x QD L))):b5 tS 88 um L (bf QD) 5 (KO x ):=km h
def Li  : VS:=⟨[kG,(36,(bool false),[])],[(cG x)],[]⟩
abbrev Wa:Prop:=br (aj.1==2) ((LC 123 [(.a (lift (OX (aj.7))))] [] (bool (jz aj.7)) []/\br (!jz aj.7) (ax (bool false)) (aJ (af 88 9) ⟨[bM,(73,((bool false),[]))],[(cG aj)],[]⟩))) (aJ (af 88 9) ⟨[bM,(73,((bool false),[]))],[(cG aj)],[]⟩)
theorem aB2 (h:br (x.1==1) (br (x.7.1 != 3) (QD (bool false)) (br (decide (x.7.2<0)) (QD (bool false)) (br (decide (x.7.2≥24)) (QD (bool false)) (br (!x.7.3.toList==(ByteArray.mk #[]).toList) (QD (bool false)) (Wa x QD L))))) (Wa x QD L)):b5 tS 88 um L (bf QD) 7 (Li x ):=km h
def Kl  : VS:=⟨[kG,(73,(bool false),[])],[(cG x)],[]⟩
abbrev Mn (aj:LP) (ax:au):Prop:=aj (af 88 11) ⟨[bM,(112,((bool false),[]))],[(cG ax)],[]⟩
theorem aG2  (h:br (x.1 != 1) (br (x.1 != 2) (br (!(x.7.1==0&&(x.7.2==0&&(x.7.3=={ data:={ toList:=[] } }&&true)))) (QD (bool false)) (Mn L x)) (Mn L x)) (Mn L x)):b5 tS 88 um L (bf QD) 9 (Kl x ):=km h
def FC  : VS:=⟨[kG,(112,(bool false),[])],[(cG x)],[]⟩
theorem XT (h:br (decide (x.9.1<0)) (QD (bool false)) (br (decide (x.9.2<0)) (QD (bool false)) (br (x.1 != 19) (br (!(x.9.1==0&&(x.9.2==0&&true))) (QD (bool false)) (L (af 88 13) ⟨[bM,(127,((bool false),[]))],[(cG x)],[]⟩)) (L (af 88 13) ⟨[bM,(127,((bool false),[]))],[(cG x)],[]⟩)))):b5 tS 88 um L (bf QD) 11 (FC x ):=km h
def Gn  : VS:=⟨[kG,(127,(bool false),[])],[(cG x)],[]⟩
abbrev LO:Prop:=(LC 131 [(qX aj)] [] (bool (lV aj.8)) []/\ax (bool (lV aj.8)))
theorem ab4 (h:br (x.1==7) (LO x QD) (br (x.1==16) (LO x QD) (br (x.1==17) (LO x QD) (QD (bool ((↑x.8.1:Int)==0)))))):b5 tS 88 um L (bf QD) 13 (Gn x ):=km h
theorem Y5:ae 88 0 (a7 (bool (fz x))) (af 88 13) (Gn x):=by
 refine aK (X:=tS) (stop:=um) (ab4 _ _ x ?_)
 refine ag (λh=>?_) (λh=>ag (λh2=>?_) (λh2=>ag (λh3=>?_) (λh3=>?_)))
 .refine ⟨LF _,?_⟩
  grind [fz,aX.refl]
 .refine ⟨LF _,?_⟩
  grind [fz,aX.refl]
 .refine ⟨LF _,?_⟩
  grind [fz,aX.refl]
 grind [fz,aX.refl]
end
section
variable (x:au)
theorem Zu:ae 88 0 (a7 (bool (fF x&&(fz x)))) (af 88 11) (FC x):=by
 refine aK (X:=tS) (stop:=um) (XT _ _ x ?_)
 have no:fF x=false->aX (bool false) (bool (fF x&&(fz x))):=λe=>by rw [e]; exact aX.refl _
 have go:fF x=true->ae 88 0 (a7 (bool (fF x&&(fz x)))) (af 88 13) (Gn x):=λe=>by rw [e]; exact Y5 x
 repeat' (first|refine ag (λh=>?_) (λh=>?_)|refine ⟨vQ _,?_⟩|done)
 all_goals (try simp only [Bool.and_true,Bool.not_eq_true',Bool.not_eq_false'] at *)
 all_goals first
  | exact no (by simp only [fF,zeroV,ft,Bool.and_true, *,fg])
  | exact go (by grind [fF,ft])
theorem at2:ae 88 0 (a7 (bool (pe x&&(fF x&&(fz x))))) (af 88 9) (Kl x):=by
 refine aK (X:=tS) (stop:=um) (aG2 _ _ x ?_)
 have no:pe x=false->aX (bool false) (bool (pe x&&(fF x&&(fz x)))):=λe=>by rw [e]; exact aX.refl _
 have go:pe x=true->ae 88 0 (a7 (bool (pe x&&(fF x&&(fz x))))) (af 88 11) (FC x):=λe=>by rw [e]; exact Zu x
 repeat' (first|refine ag (λh=>?_) (λh=>?_)|refine ⟨vQ _,?_⟩|done)
 all_goals (try simp only [Bool.and_true,Bool.not_eq_true',Bool.not_eq_false'] at *)
 all_goals first
  | exact no (by simp only [pe,zeroV,ft,Bool.and_true, *,fg])
  | exact go (by grind [pe,zeroV])
theorem as6:ae 88 0 (a7 (bool (pX x&&(pe x&&(fF x&&(fz x)))))) (af 88 7) (Li x):=by
 refine aK (X:=tS) (stop:=um) (aB2 _ _ x ?_)
 have no:pX x=false->aX (bool false) (bool (pX x&&(pe x&&(fF x&&(fz x))))):=λe=>by rw [e]; exact aX.refl _
 have go:pX x=true->ae 88 0 (a7 (bool (pX x&&(pe x&&(fF x&&(fz x)))))) (af 88 9) (Kl x):=λe=>by rw [e]; exact at2 x
 repeat' (first|refine ag (λh=>?_) (λh=>?_)|refine ⟨vQ _,?_⟩|done)
 all_goals (try simp only [Bool.and_true,Bool.not_eq_true',Bool.not_eq_false'] at *)
 all_goals first
  | exact no (by simp only [pX,zeroV,ft,Bool.and_true, *,fg])
  | exact go (by grind [pX])
theorem ay2:ae 88 0 (a7 (bool (rN x&&(pX x&&(pe x&&(fF x&&(fz x))))))) (af 88 5) (KO x):=by
 refine aK (X:=tS) (stop:=um) (aE7 _ _ x ?_)
 have no:rN x=false->aX (bool false) (bool (rN x&&(pX x&&(pe x&&(fF x&&(fz x)))))):=λe=>by rw [e]; exact aX.refl _
 have go:rN x=true->ae 88 0 (a7 (bool (rN x&&(pX x&&(pe x&&(fF x&&(fz x))))))) (af 88 7) (Li x):=λe=>by rw [e]; exact as6 x
 repeat' (first|refine ag (λh=>?_) (λh=>?_)|refine ⟨vQ _,?_⟩|done)
 all_goals (try simp only [Bool.and_true,Bool.not_eq_true',Bool.not_eq_false'] at *)
 all_goals first
  | exact no (by simp only [rN,zeroV,ft,Bool.and_true, *,fg])
  | exact go (by grind [rN])
theorem au9:ae 88 0 (a7 (bool (tI x&&(rN x&&(pX x&&(pe x&&(fF x&&(fz x)))))))) (af 88 3) (Ul x):=by
 refine aK (X:=tS) (stop:=um) (aI1 _ _ x ?_)
 have no:tI x=false->aX (bool false) (bool (tI x&&(rN x&&(pX x&&(pe x&&(fF x&&(fz x))))))):=λe=>by rw [e]; exact aX.refl _
 have go:tI x=true->ae 88 0 (a7 (bool (tI x&&(rN x&&(pX x&&(pe x&&(fF x&&(fz x)))))))) (af 88 5) (KO x):=λe=>by rw [e]; exact ay2 x
 repeat' (first|refine ag (λh=>?_) (λh=>?_)|refine ⟨vQ _,?_⟩|done)
 all_goals (try simp only [Bool.and_true,Bool.not_eq_true',Bool.not_eq_false'] at *)
 all_goals first
  | exact no (by simp only [tI,zeroV,ft,Bool.and_true, *,fg])
  | exact go (by grind [tI])
theorem ai0:LC 88 [fk x] [] (bool (bC x)) []:=
 pv (X:=tS) (stop:=um) bC9 (br5 _ _ x ⟨aC8 _,CH _,au9 x⟩)
end
section
variable (L:LP) (QD:D->Prop) (t:ak) (e:aq) (n before:Int) (k:Nat)
def an6:eU:={ F:=F4 }
def ak5:Nat->Bool:=bH
theorem bh7:Fn 114:={}
theorem ba6 (h:br (decide (n≥0)) (br (decide (n<before)) (nd (bQ n t.2.1) ((LC 68 [(int ((t.ins.2 n.toNat).1))] [] (bool (xU (t.ins.2 n.toNat).1)) []/\QD (bool (xU (t.ins.2 n.toNat).1))))) (QD (bool false))) (QD (bool false))):ep an6 114 ak5 L (bf QD) [aO t,int n,int before] []:=km h
theorem oN {n:Int} {m:Nat} (h0:0<=n) (h1:n<(m:Int)):bQ n m=true:=by
 grind [Int.eq_ofNat_of_zero_le,aC]
theorem KP (hb:before<=t.ins.n):LC 114 [aO t,int n,int before] [] (bool (eF t n before)) []:=by
 refine pv (X:=an6) (stop:=ak5) bh7 (ba6 _ _ t n before ?_)
 grind [ag,ai,oN,I7,eF,aX.refl]
def HE:eU:={ F:=F4 }
def I9:Nat->Bool:=λi=>Nat.beq i 2
theorem ah9:Fn 137:={}
abbrev b4:eQ:=(2,((.c (.rt 0 0 0)),[]))
abbrev dm (aj:aq):ah:=.box (lift (bJ (aj)))
theorem aS0 (h:L (af 137 2) ⟨[(dC n),b4,tr],[(dm e)],[]⟩):ep HE 137 I9 L (bf QD) [qd e,int n] []:=km h
def MY:VS:=⟨[(1,(int n),[]),(2,(.c (.rt 0 0 0)),[]),(5,int k,[])],[(dm e)],[]⟩
theorem N3 (h:br (decide ((↑k:Int)<(↑e.2.1:Int))) (nd (bQ (↑k:Int) e.2.1) (br ((e.az.2 k).1==n) (QD (int (↑k:Int))) (L (af 137 2) ⟨[(dC n),b4,(5,((int (IntKind.i64.wrap ((↑k:Int)+1))),[]))],[(dm e)],[]⟩))) (QD (int (-1)))):b5 HE 137 I9 L (bf QD) 2 (MY e n k):=km h
theorem QC {e:aq} {E:Env} {av:Nat->Prop} {w:World} {v:Value} (h:bj E av w (qd e) v):e.frames.n<=maxLen/\e.az.n<=maxLen:=by
 obtain ⟨⟨cs⟩,rfl,h⟩:=h
 cases h with|cons h1 h=>cases h with|cons h2 h=>
  obtain ⟨_,_,_,_,h1,_⟩:=h1
  obtain ⟨_,_,_,_,h2,_⟩:=h2
  exact ⟨h1,h2⟩
theorem aP7 (a:Int) (hx:e.az.n<=maxLen):∀ k,k<=e.az.n->ir (λi=>(e.az.get i).value==n) (e.az.n-k) k=a->ae 137 0 (a7 (int a)) (af 137 2) (MY e n k):=by
 refine aN (λk hk ih ha=>?_) (λha=>?_)
 .have q:e.az.n-k=(e.az.n-(k+1))+1:=by omega
  rw [q] at ha
  refine aK (X:=HE) (stop:=I9) (N3 _ _ e n k ?_)
  refine ag (λh=>?_) (λh=>(dec_lt h hk).elim)
  refine ai (aC hk) ?_
  refine ag (λh1=>?_) (λh1=>?_)
  .grind [j8,aX.refl]
  .rw [jg (p:=λi=>(e.az.get i).value==n) h1] at ha
   rw [b6 hk hx]
   exact ih ha
 .rw [Nat.sub_self] at ha
  refine aK (X:=HE) (stop:=I9) (N3 _ _ e n _ ?_)
  refine ag (λh=>bq h) (λh=>?_)
  subst ha; exact aX.refl _
end
theorem UB (e:aq) (n:Int):LC 137 [qd e,int n] [] (int (vY e.az n)) []:=
 bt.with ah9 (p:=e.az.n<=maxLen) (λE av w vs h=>by cases h with|cons q _=>exact (QC q).2) λhx=>
  pv (X:=HE) (stop:=I9) ah9 (aS0 _ _ e n (aP7 e n _ hx 0 (bk _) rfl))
open Go Go.V
def F5L:Ao:=[]
def F5:=ext F4 F5L
def C3:eU:={ F:=F5 }
def C1:Nat->Bool:=λi=>Nat.beq i 15||Nat.beq i 54
theorem aW8:Fn 113:={}
abbrev wi (aj:au):D:=.a (lift (bW (aj)))
abbrev fV:eQ:=(3,((.c (.rt 1 0 0)),[]))
abbrev LB:eQ:=(4,((bool true),[]))
abbrev v7:a8:=[bM,fV,LB]
section
variable (aj:au) (L:LP) (QD:D->Prop) (x ax y:au) (Lp:Bool)
abbrev dH:C:=.im (.v (.string ⟨⟨[]⟩⟩))
abbrev gG:C:=.im (.v (.bool aj.11))
abbrev EN:a8:=[bM,fV,LB,(33,((bool false),[]))]
theorem bc1 (h:(LC 74 [(wi x)] [] (.c (.im (.sl 1 ((aW x).1) (λi=>bn ((aW (qA [D.a (lift [iI x.op,iI x.a,iI x.b,iI x.c,iI x.n,xT 1 bn x.args,iI x.k.kind,iI x.k.n,iS x.k.s,xT 1 cA x.names,iI x.place.fn,iI x.place.line,iI x.exit,iB x.once])] 0)).2 i))))) []/\br (x.1 != 20) (br (decide ((↑(aW x).1:Int)>0)) (br (decide ((↑(aW x).1:Int)>1)) (br (decide ((↑(aW x).1:Int)>2)) (L (af 113 15) ⟨v7,[(cG x),(.box [(ci x.1),(ci x.2),(ci x.3),(ci x.4),(ci 0),bS,(ci 0),(ci 0),dH,bS,(ci 0),(ci 0),(ci x.10),(gG x)])],[]⟩) (L (af 113 15) ⟨EN,[(cG x),(.box [(ci x.1),(ci x.2),(ci x.3),(ci 0),(ci 0),bS,(ci 0),(ci 0),dH,bS,(ci 0),(ci 0),(ci x.10),(gG x)])],[]⟩)) (br (decide ((↑(aW x).1:Int)>2)) (L (af 113 15) ⟨v7,[(cG x),(.box [(ci x.1),(ci x.2),(ci 0),(ci x.4),(ci 0),bS,(ci 0),(ci 0),dH,bS,(ci 0),(ci 0),(ci x.10),(gG x)])],[]⟩) (L (af 113 15) ⟨EN,[(cG x),(.box [(ci x.1),(ci x.2),(ci 0),(ci 0),(ci 0),bS,(ci 0),(ci 0),dH,bS,(ci 0),(ci 0),(ci x.10),(gG x)])],[]⟩))) (br (decide ((↑(aW x).1:Int)>1)) (br (decide ((↑(aW x).1:Int)>2)) (L (af 113 15) ⟨v7,[(cG x),(.box [(ci x.1),(ci 0),(ci x.3),(ci x.4),(ci 0),bS,(ci 0),(ci 0),dH,bS,(ci 0),(ci 0),(ci x.10),(gG x)])],[]⟩) (L (af 113 15) ⟨EN,[(cG x),(.box [(ci x.1),(ci 0),(ci x.3),(ci 0),(ci 0),bS,(ci 0),(ci 0),dH,bS,(ci 0),(ci 0),(ci x.10),(gG x)])],[]⟩)) (br (decide ((↑(aW x).1:Int)>2)) (L (af 113 15) ⟨v7,[(cG x),(.box [(ci x.1),(ci 0),(ci 0),(ci x.4),(ci 0),bS,(ci 0),(ci 0),dH,bS,(ci 0),(ci 0),(ci x.10),(gG x)])],[]⟩) (L (af 113 15) ⟨EN,[(cG x),(.box [(ci x.1),(ci 0),(ci 0),(ci 0),(ci 0),bS,(ci 0),(ci 0),dH,bS,(ci 0),(ci 0),(ci x.10),(gG x)])],[]⟩)))) (L (af 113 15) ⟨v7,[(cG x),(.box [(ci x.1),(ci 0),(ci 0),(ci 0),(ci 0),(rf x),(ci 0),(ci 0),dH,bS,(ci 0),(ci 0),(ci x.10),(gG x)])],[]⟩))):ep C3 113 C1 L (bf QD) [fk x] []:=km h
def kC:VS:=⟨[kG,(3,(.c (.rt 1 0 0)),[]),(4,(bool true),[])],[(cG x),.box (lift (bW y))],[]⟩
abbrev ah2:ah:=.box (lift (bW ({ op:=aj.1,a:=aj.2,b:=aj.3,c:=aj.4,n:=ax.5,args:=aj.6,k:=aj.7,names:=aj.8,place:=aj.9,exit:=aj.10,once:=aj.11 })))
abbrev th:List ah:=[(cG aj),(ah2 ax aj)]
abbrev W1 (ax:LP) (aJ:au):Prop:=(LC 135 [(int aj.5),(int 0),(int 63)] [] (bool (ek aj.5 0 63)) []/\ax (af 113 54) ⟨[bM,fV,(4,((bool (ek aj.5 0 63)),[]))],[(cG aj),(ah2 aJ aj)],[]⟩)
abbrev Ws (ax:LP) (aJ:au):Prop:=(LC 136 [(qX aj)] [] (bool (lV aj.8)) []/\br (decide (aj.5≥0)) (ax (af 113 54) ⟨[bM,fV,(4,((bool (lV aj.8)),[]))],[(cG aj),(.box (lift (bW ({ op:=aJ.1,a:=aJ.2,b:=aJ.3,c:=aJ.4,n:=aj.5,args:=aJ.6,k:=aJ.7,names:=aj.8,place:=aJ.9,exit:=aJ.10,once:=aJ.11 }))))],[]⟩) (ax (af 113 54) ⟨[bM,fV,(4,((bool false),[]))],[(cG aj),(.box (lift (bW ({ op:=aJ.1,a:=aJ.2,b:=aJ.3,c:=aJ.4,n:=aj.5,args:=aJ.6,k:=aJ.7,names:=aj.8,place:=aJ.9,exit:=aJ.10,once:=aJ.11 }))))],[]⟩))
abbrev FL:List ah:=[(cG aj),(.box (lift (bW ({ op:=ax.1,a:=ax.2,b:=ax.3,c:=ax.4,n:=ax.5,args:=ax.6,k:=aj.7,names:=ax.8,place:=ax.9,exit:=ax.10,once:=ax.11 }))))]
abbrev mK:eQ:=(4,((bool false),[]))
abbrev VO:List ah:=[(cG aj),(.box (lift (bW ({ op:=ax.1,a:=ax.2,b:=ax.3,c:=ax.4,n:=ax.5,args:=ax.6,k:=ax.7,names:=ax.8,place:=aj.9,exit:=ax.10,once:=ax.11 }))))]
theorem Rc (h:br (x.1==3) (br (x.5==3) (L (af 113 54) ⟨v7,(th x y),[]⟩) (L (af 113 54) ⟨[bM,fV,(4,((bool (x.5==4)),[]))],(th x y),[]⟩)) (br (x.1==4) ((LC 135 [(int x.5),(int 5),(int 14)] [] (bool (ek x.5 5 14)) []/\L (af 113 54) ⟨[bM,fV,(4,((bool (ek x.5 5 14)),[]))],(th x y),[]⟩)) (br (x.1==5) ((LC 135 [(int x.5),(int 0),(int 1)] [] (bool (ek x.5 0 1)) []/\L (af 113 54) ⟨[bM,fV,(4,((bool (ek x.5 0 1)),[]))],(th x y),[]⟩)) (br (x.1==6) ((LC 135 [(int x.5),(int 1),(int 6)] [] (bool (ek x.5 1 6)) []/\L (af 113 54) ⟨[bM,fV,(4,((bool (ek x.5 1 6)),[]))],(th x y),[]⟩)) (br (x.1==10) (W1 x L y) (br (x.1==11) (W1 x L y) (br (x.1==15) ((LC 135 [(int x.5),(int 0),(int 600)] [] (bool (ek x.5 0 600)) []/\L (af 113 54) ⟨[bM,fV,(4,((bool (ek x.5 0 600)),[]))],(th x y),[]⟩)) (br (x.1==18) ((LC 135 [(int x.5),(int 1),(int 200)] [] (bool (ek x.5 1 200)) []/\L (af 113 54) ⟨[bM,fV,(4,((bool (ek x.5 1 200)),[]))],(th x y),[]⟩)) (br (x.1==7) (Ws x L y) (br (x.1==16) (Ws x L y) (br (x.1==17) (Ws x L y) (br (x.1==1) (br (x.7.1==3) ((LC 135 [(int x.7.2),(int 0),(int 23)] [] (bool (ek x.7.2 0 23)) []/\br (ek x.7.2 0 23) (L (af 113 54) ⟨[bM,fV,(4,((bool (x.7.3.toList==(ByteArray.mk #[]).toList)),[]))],(FL x y),[]⟩) (L (af 113 54) ⟨[bM,fV,mK],(FL x y),[]⟩))) (L (af 113 54) ⟨[bM,fV,mK],(FL x y),[]⟩)) (br (x.1==2) ((LC 77 [(.a (lift (OX (x.7))))] [] (bool (jz x.7)) []/\L (af 113 54) ⟨[bM,fV,(4,((bool (jz x.7)),[]))],(FL x y),[]⟩)) (br (x.1==19) (br (decide (x.9.1≥0)) (L (af 113 54) ⟨[bM,fV,(4,((bool (decide (x.9.2≥0))),[]))],(VO x y),[]⟩) (L (af 113 54) ⟨[bM,fV,mK],(VO x y),[]⟩)) (L (af 113 54) ⟨[bM,fV,LB,(152,((bool false),[]))],[(cG x),(cG y)],[]⟩))))))))))))))):b5 C3 113 C1 L (bf QD) 15 (kC x y):=km h
def uv:VS:=⟨[kG,(3,(.c (.rt 1 0 0)),[]),(4,bool Lp,[])],[(cG x),.box (lift (bW y))],[]⟩
theorem RJ (h:br (Lp) ((LC 135 [(int x.1),(int 0),(int 21)] [] (bool (ek x.1 0 21)) []/\br (ek x.1 0 21) ((LC 51 [(wi x),(wi y)] [] (bool (dr x y)) []/\QD (bool (dr x y)))) (QD (bool false)))) (QD (bool false))):b5 C3 113 C1 L (bf QD) 54 (uv x y Lp):=km h
def lz:au×Bool:=
 bif x.1==3 then
  bif x.5==3 then
   ({ op:=y.1,a:=y.2,b:=y.3,c:=y.4,n:=x.5,args:=y.6,k:=y.7,names:=y.8,place:=y.9,exit:=y.10,once:=y.11 },true)
  else
   ({ op:=y.1,a:=y.2,b:=y.3,c:=y.4,n:=x.5,args:=y.6,k:=y.7,names:=y.8,place:=y.9,exit:=y.10,once:=y.11 },(x.5==4))
 else
  bif x.1==4 then
   ({ op:=y.1,a:=y.2,b:=y.3,c:=y.4,n:=x.5,args:=y.6,k:=y.7,names:=y.8,place:=y.9,exit:=y.10,once:=y.11 },(ek x.5 5 14))
  else
   bif x.1==5 then
    ({ op:=y.1,a:=y.2,b:=y.3,c:=y.4,n:=x.5,args:=y.6,k:=y.7,names:=y.8,place:=y.9,exit:=y.10,once:=y.11 },(ek x.5 0 1))
   else
    bif x.1==6 then
     ({ op:=y.1,a:=y.2,b:=y.3,c:=y.4,n:=x.5,args:=y.6,k:=y.7,names:=y.8,place:=y.9,exit:=y.10,once:=y.11 },(ek x.5 1 6))
    else
     bif x.1==10 then
      ({ op:=y.1,a:=y.2,b:=y.3,c:=y.4,n:=x.5,args:=y.6,k:=y.7,names:=y.8,place:=y.9,exit:=y.10,once:=y.11 },(ek x.5 0 63))
     else
      bif x.1==11 then
       ({ op:=y.1,a:=y.2,b:=y.3,c:=y.4,n:=x.5,args:=y.6,k:=y.7,names:=y.8,place:=y.9,exit:=y.10,once:=y.11 },(ek x.5 0 63))
      else
       bif x.1==15 then
        ({ op:=y.1,a:=y.2,b:=y.3,c:=y.4,n:=x.5,args:=y.6,k:=y.7,names:=y.8,place:=y.9,exit:=y.10,once:=y.11 },(ek x.5 0 600))
       else
        bif x.1==18 then
         ({ op:=y.1,a:=y.2,b:=y.3,c:=y.4,n:=x.5,args:=y.6,k:=y.7,names:=y.8,place:=y.9,exit:=y.10,once:=y.11 },(ek x.5 1 200))
        else
         bif x.1==7 then
          bif decide (x.5≥0) then
           ({ op:=y.1,a:=y.2,b:=y.3,c:=y.4,n:=x.5,args:=y.6,k:=y.7,names:=x.8,place:=y.9,exit:=y.10,once:=y.11 },(lV x.8))
          else
           ({ op:=y.1,a:=y.2,b:=y.3,c:=y.4,n:=x.5,args:=y.6,k:=y.7,names:=x.8,place:=y.9,exit:=y.10,once:=y.11 },false)
         else
          bif x.1==16 then
           bif decide (x.5≥0) then
            ({ op:=y.1,a:=y.2,b:=y.3,c:=y.4,n:=x.5,args:=y.6,k:=y.7,names:=x.8,place:=y.9,exit:=y.10,once:=y.11 },(lV x.8))
           else
            ({ op:=y.1,a:=y.2,b:=y.3,c:=y.4,n:=x.5,args:=y.6,k:=y.7,names:=x.8,place:=y.9,exit:=y.10,once:=y.11 },false)
          else
           bif x.1==17 then
            bif decide (x.5≥0) then
             ({ op:=y.1,a:=y.2,b:=y.3,c:=y.4,n:=x.5,args:=y.6,k:=y.7,names:=x.8,place:=y.9,exit:=y.10,once:=y.11 },(lV x.8))
            else
             ({ op:=y.1,a:=y.2,b:=y.3,c:=y.4,n:=x.5,args:=y.6,k:=y.7,names:=x.8,place:=y.9,exit:=y.10,once:=y.11 },false)
           else
            bif x.1==1 then
             bif x.7.1==3 then
              bif ek x.7.2 0 23 then
               ({ op:=y.1,a:=y.2,b:=y.3,c:=y.4,n:=y.5,args:=y.6,k:=x.7,names:=y.8,place:=y.9,exit:=y.10,once:=y.11 },(x.7.3.toList==(ByteArray.mk #[]).toList))
              else
               ({ op:=y.1,a:=y.2,b:=y.3,c:=y.4,n:=y.5,args:=y.6,k:=x.7,names:=y.8,place:=y.9,exit:=y.10,once:=y.11 },false)
             else
              ({ op:=y.1,a:=y.2,b:=y.3,c:=y.4,n:=y.5,args:=y.6,k:=x.7,names:=y.8,place:=y.9,exit:=y.10,once:=y.11 },false)
            else
             bif x.1==2 then
              ({ op:=y.1,a:=y.2,b:=y.3,c:=y.4,n:=y.5,args:=y.6,k:=x.7,names:=y.8,place:=y.9,exit:=y.10,once:=y.11 },(jz x.7))
             else
              bif x.1==19 then
               bif decide (x.9.1≥0) then
                ({ op:=y.1,a:=y.2,b:=y.3,c:=y.4,n:=y.5,args:=y.6,k:=y.7,names:=y.8,place:=x.9,exit:=y.10,once:=y.11 },(decide (x.9.2≥0)))
               else
                ({ op:=y.1,a:=y.2,b:=y.3,c:=y.4,n:=y.5,args:=y.6,k:=y.7,names:=y.8,place:=x.9,exit:=y.10,once:=y.11 },false)
              else
               (y,true)
end
section
variable (x y:au)
def jM:Bool:=(lz x y).2&&(ek x.op 0 21&&dr x (lz x y).1)
def cd:ByteArray:=ByteArray.mk ⟨[]⟩
def yA:au:=
 bif x.1 != 20 then
  bif decide ((↑(aW x).1:Int)>0) then
   bif decide ((↑(aW x).1:Int)>1) then
    bif decide ((↑(aW x).1:Int)>2) then
     ⟨x.1,x.2,x.3,x.4,0,⟨0,λ_=>0⟩,⟨0,0,cd⟩,⟨0,λ_=>cd⟩,⟨0,0⟩,x.10,x.11⟩
    else
     ⟨x.1,x.2,x.3,0,0,⟨0,λ_=>0⟩,⟨0,0,cd⟩,⟨0,λ_=>cd⟩,⟨0,0⟩,x.10,x.11⟩
   else
    bif decide ((↑(aW x).1:Int)>2) then
     ⟨x.1,x.2,0,x.4,0,⟨0,λ_=>0⟩,⟨0,0,cd⟩,⟨0,λ_=>cd⟩,⟨0,0⟩,x.10,x.11⟩
    else
     ⟨x.1,x.2,0,0,0,⟨0,λ_=>0⟩,⟨0,0,cd⟩,⟨0,λ_=>cd⟩,⟨0,0⟩,x.10,x.11⟩
  else
   bif decide ((↑(aW x).1:Int)>1) then
    bif decide ((↑(aW x).1:Int)>2) then
     ⟨x.1,0,x.3,x.4,0,⟨0,λ_=>0⟩,⟨0,0,cd⟩,⟨0,λ_=>cd⟩,⟨0,0⟩,x.10,x.11⟩
    else
     ⟨x.1,0,x.3,0,0,⟨0,λ_=>0⟩,⟨0,0,cd⟩,⟨0,λ_=>cd⟩,⟨0,0⟩,x.10,x.11⟩
   else
    bif decide ((↑(aW x).1:Int)>2) then
     ⟨x.1,0,0,x.4,0,⟨0,λ_=>0⟩,⟨0,0,cd⟩,⟨0,λ_=>cd⟩,⟨0,0⟩,x.10,x.11⟩
    else
     ⟨x.1,0,0,0,0,⟨0,λ_=>0⟩,⟨0,0,cd⟩,⟨0,λ_=>cd⟩,⟨0,0⟩,x.10,x.11⟩
 else
  ⟨x.1,0,0,0,0,x.args,⟨0,0,cd⟩,⟨0,λ_=>cd⟩,⟨0,0⟩,x.10,x.11⟩
def bw:Bool:=jM x (yA x)
theorem Rg (Lp:Bool):ae 113 0 (a7 (bool (Lp&&(ek x.op 0 21&&dr x y)))) (af 113 54) (uv x y Lp):=by
 refine aK (X:=C3) (stop:=C1) (RJ _ _ x y Lp ?_)
 refine ag (λh=>⟨oV _ _ _,ag (λh2=>⟨bg7 _ _,?_⟩) (λh2=>?_)⟩) (λh=>?_)
 all_goals grind [aX.refl]
theorem V8 (hs:x.k.s.size<=maxLen):ae 113 0 (a7 (bool (jM x y))) (af 113 15) (kC x y):=by
 have fin:∀ (y':au) (f:Bool),lz x y=(y',f)->ae 113 0 (a7 (bool (jM x y))) (af 113 54) (uv x y' f):=λy' f e=>by
  have:=Rg x y' f
  unfold jM
  rw [e]
  exact this
 refine aK (X:=C3) (stop:=C1) (Rc _ _ x y ?_)
 refine ag (λh=>?_) (λh=>?_)
 .refine ag (λh=>?_) (λh=>?_)
  .exact fin ({ op:=y.1,a:=y.2,b:=y.3,c:=y.4,n:=x.5,args:=y.6,k:=y.7,names:=y.8,place:=y.9,exit:=y.10,once:=y.11 }) (true) (by simp only [lz, *,cond_true,cond_false])
  .exact fin ({ op:=y.1,a:=y.2,b:=y.3,c:=y.4,n:=x.5,args:=y.6,k:=y.7,names:=y.8,place:=y.9,exit:=y.10,once:=y.11 }) ((x.5==4)) (by simp only [lz, *,cond_true,cond_false])
 .refine ag (λh=>?_) (λh=>?_)
  .refine ⟨oV _ _ _,?_⟩
   exact fin ({ op:=y.1,a:=y.2,b:=y.3,c:=y.4,n:=x.5,args:=y.6,k:=y.7,names:=y.8,place:=y.9,exit:=y.10,once:=y.11 }) ((ek x.5 5 14)) (by simp only [lz, *,cond_true,cond_false])
  .refine ag (λh=>?_) (λh=>?_)
   .refine ⟨oV _ _ _,?_⟩
    exact fin ({ op:=y.1,a:=y.2,b:=y.3,c:=y.4,n:=x.5,args:=y.6,k:=y.7,names:=y.8,place:=y.9,exit:=y.10,once:=y.11 }) ((ek x.5 0 1)) (by simp only [lz, *,cond_true,cond_false])
   .refine ag (λh=>?_) (λh=>?_)
    .refine ⟨oV _ _ _,?_⟩
     exact fin ({ op:=y.1,a:=y.2,b:=y.3,c:=y.4,n:=x.5,args:=y.6,k:=y.7,names:=y.8,place:=y.9,exit:=y.10,once:=y.11 }) ((ek x.5 1 6)) (by simp only [lz, *,cond_true,cond_false])
    .refine ag (λh=>?_) (λh=>?_)
     .refine ⟨oV _ _ _,?_⟩
      exact fin ({ op:=y.1,a:=y.2,b:=y.3,c:=y.4,n:=x.5,args:=y.6,k:=y.7,names:=y.8,place:=y.9,exit:=y.10,once:=y.11 }) ((ek x.5 0 63)) (by simp only [lz, *,cond_true,cond_false])
     .refine ag (λh=>?_) (λh=>?_)
      .refine ⟨oV _ _ _,?_⟩
       exact fin ({ op:=y.1,a:=y.2,b:=y.3,c:=y.4,n:=x.5,args:=y.6,k:=y.7,names:=y.8,place:=y.9,exit:=y.10,once:=y.11 }) ((ek x.5 0 63)) (by simp only [lz, *,cond_true,cond_false])
      .refine ag (λh=>?_) (λh=>?_)
       .refine ⟨oV _ _ _,?_⟩
        exact fin ({ op:=y.1,a:=y.2,b:=y.3,c:=y.4,n:=x.5,args:=y.6,k:=y.7,names:=y.8,place:=y.9,exit:=y.10,once:=y.11 }) ((ek x.5 0 600)) (by simp only [lz, *,cond_true,cond_false])
       .refine ag (λh=>?_) (λh=>?_)
        .refine ⟨oV _ _ _,?_⟩
         exact fin ({ op:=y.1,a:=y.2,b:=y.3,c:=y.4,n:=x.5,args:=y.6,k:=y.7,names:=y.8,place:=y.9,exit:=y.10,once:=y.11 }) ((ek x.5 1 200)) (by simp only [lz, *,cond_true,cond_false])
        .refine ag (λh=>?_) (λh=>?_)
         .refine ⟨JC _,?_⟩
          refine ag (λh=>?_) (λh=>?_)
          .exact fin ({ op:=y.1,a:=y.2,b:=y.3,c:=y.4,n:=x.5,args:=y.6,k:=y.7,names:=x.8,place:=y.9,exit:=y.10,once:=y.11 }) ((lV x.8)) (by simp only [lz, *,cond_true,cond_false])
          .exact fin ({ op:=y.1,a:=y.2,b:=y.3,c:=y.4,n:=x.5,args:=y.6,k:=y.7,names:=x.8,place:=y.9,exit:=y.10,once:=y.11 }) (false) (by simp only [lz, *,cond_true,cond_false])
         .refine ag (λh=>?_) (λh=>?_)
          .refine ⟨JC _,?_⟩
           refine ag (λh=>?_) (λh=>?_)
           .exact fin ({ op:=y.1,a:=y.2,b:=y.3,c:=y.4,n:=x.5,args:=y.6,k:=y.7,names:=x.8,place:=y.9,exit:=y.10,once:=y.11 }) ((lV x.8)) (by simp only [lz, *,cond_true,cond_false])
           .exact fin ({ op:=y.1,a:=y.2,b:=y.3,c:=y.4,n:=x.5,args:=y.6,k:=y.7,names:=x.8,place:=y.9,exit:=y.10,once:=y.11 }) (false) (by simp only [lz, *,cond_true,cond_false])
          .refine ag (λh=>?_) (λh=>?_)
           .refine ⟨JC _,?_⟩
            refine ag (λh=>?_) (λh=>?_)
            .exact fin ({ op:=y.1,a:=y.2,b:=y.3,c:=y.4,n:=x.5,args:=y.6,k:=y.7,names:=x.8,place:=y.9,exit:=y.10,once:=y.11 }) ((lV x.8)) (by simp only [lz, *,cond_true,cond_false])
            .exact fin ({ op:=y.1,a:=y.2,b:=y.3,c:=y.4,n:=x.5,args:=y.6,k:=y.7,names:=x.8,place:=y.9,exit:=y.10,once:=y.11 }) (false) (by simp only [lz, *,cond_true,cond_false])
           .refine ag (λh=>?_) (λh=>?_)
            .refine ag (λh=>?_) (λh=>?_)
             .refine ⟨oV _ _ _,?_⟩
              refine ag (λh=>?_) (λh=>?_)
              .exact fin ({ op:=y.1,a:=y.2,b:=y.3,c:=y.4,n:=y.5,args:=y.6,k:=x.7,names:=y.8,place:=y.9,exit:=y.10,once:=y.11 }) ((x.7.3.toList==(ByteArray.mk #[]).toList)) (by simp only [lz, *,cond_true,cond_false])
              .exact fin ({ op:=y.1,a:=y.2,b:=y.3,c:=y.4,n:=y.5,args:=y.6,k:=x.7,names:=y.8,place:=y.9,exit:=y.10,once:=y.11 }) (false) (by simp only [lz, *,cond_true,cond_false])
             .exact fin ({ op:=y.1,a:=y.2,b:=y.3,c:=y.4,n:=y.5,args:=y.6,k:=x.7,names:=y.8,place:=y.9,exit:=y.10,once:=y.11 }) (false) (by simp only [lz, *,cond_true,cond_false])
            .refine ag (λh=>?_) (λh=>?_)
             .refine ⟨am5 _ hs,?_⟩
              exact fin ({ op:=y.1,a:=y.2,b:=y.3,c:=y.4,n:=y.5,args:=y.6,k:=x.7,names:=y.8,place:=y.9,exit:=y.10,once:=y.11 }) ((jz x.7)) (by simp only [lz, *,cond_true,cond_false])
             .refine ag (λh=>?_) (λh=>?_)
              .refine ag (λh=>?_) (λh=>?_)
               .exact fin ({ op:=y.1,a:=y.2,b:=y.3,c:=y.4,n:=y.5,args:=y.6,k:=y.7,names:=y.8,place:=x.9,exit:=y.10,once:=y.11 }) ((decide (x.9.2≥0))) (by simp only [lz, *,cond_true,cond_false])
               .exact fin ({ op:=y.1,a:=y.2,b:=y.3,c:=y.4,n:=y.5,args:=y.6,k:=y.7,names:=y.8,place:=x.9,exit:=y.10,once:=y.11 }) (false) (by simp only [lz, *,cond_true,cond_false])
              .exact ae.lr (uv x (y) (true)) (fin (y) (true) (by simp only [lz, *,cond_true,cond_false]))
theorem W2 (hs:x.k.s.size<=maxLen):LC 113 [fk x] [] (bool (bw x)) []:=by
 have fin:∀ y:au,yA x=y->ae 113 0 (a7 (bool (bw x))) (af 113 15) (kC x y):=λy e=>by
  unfold bw
  rw [e]
  exact V8 x y hs
 refine pv (X:=C3) (stop:=C1) aW8 (bc1 _ _ x ⟨NI _,?_⟩)
 refine ag (λh=>?_) (λh=>?_)
 .refine ag (λh=>?_) (λh=>?_)
  .refine ag (λh=>?_) (λh=>?_)
   .refine ag (λh=>?_) (λh=>?_)
    .refine ae.lf (kC x ⟨x.1,x.2,x.3,x.4,0,⟨0,λ_=>0⟩,⟨0,0,cd⟩,⟨0,λ_=>cd⟩,⟨0,0⟩,x.10,x.11⟩) (rc (.cons (aY.box ?_) .nil)) (fin _ (by simp only [yA, *,cond_true,cond_false]))
     repeat' (first|exact .nil|refine .cons (dI.refl _) ?_|refine .cons (dI.nil 1 _) ?_|done)
    .refine ae.lf (kC x ⟨x.1,x.2,x.3,0,0,⟨0,λ_=>0⟩,⟨0,0,cd⟩,⟨0,λ_=>cd⟩,⟨0,0⟩,x.10,x.11⟩) (rc (.cons (aY.box ?_) .nil)) (fin _ (by simp only [yA, *,cond_true,cond_false]))
     repeat' (first|exact .nil|refine .cons (dI.refl _) ?_|refine .cons (dI.nil 1 _) ?_|done)
   .refine ag (λh=>?_) (λh=>?_)
    .grind
    .refine ae.lf (kC x ⟨x.1,x.2,0,0,0,⟨0,λ_=>0⟩,⟨0,0,cd⟩,⟨0,λ_=>cd⟩,⟨0,0⟩,x.10,x.11⟩) (rc (.cons (aY.box ?_) .nil)) (fin _ (by simp only [yA, *,cond_true,cond_false]))
     repeat' (first|exact .nil|refine .cons (dI.refl _) ?_|refine .cons (dI.nil 1 _) ?_|done)
  .refine ag (λh=>?_) (λh=>?_)
   .grind
   .refine ag (λh=>?_) (λh=>?_)
    .grind
    .refine ae.lf (kC x ⟨x.1,0,0,0,0,⟨0,λ_=>0⟩,⟨0,0,cd⟩,⟨0,λ_=>cd⟩,⟨0,0⟩,x.10,x.11⟩) (rc (.cons (aY.box ?_) .nil)) (fin _ (by simp only [yA, *,cond_true,cond_false]))
     repeat' (first|exact .nil|refine .cons (dI.refl _) ?_|refine .cons (dI.nil 1 _) ?_|done)
 .refine ae.lf (kC x ⟨x.1,0,0,0,0,x.args,⟨0,0,cd⟩,⟨0,λ_=>cd⟩,⟨0,0⟩,x.10,x.11⟩) (rc (.cons (aY.box ?_) .nil)) (fin _ (by simp only [yA, *,cond_true,cond_false]))
  repeat' (first|exact .nil|refine .cons (dI.refl _) ?_|refine .cons (dI.nil 1 _) ?_|done)
end
open Go Go.V
def F6L:Ao:=[
 (113,λds rs=>(bool (bw (qA ds 0)),[],[]))]
def F6:=ext F5 F6L
section
variable {α:Type} (t:ak) (el:Nat) (e:aq) (sz:Nat) (k:Int) (l:Sq Int)
def eA (x y:Sq α):Sq α:=⟨x.n+y.n,λi=>Bool.rec (y.get (i-x.n)) (x.get i) (Nat.blt i x.n)⟩
theorem Gp (x y:Sq α) (e:α->Nat->I):fZ x.n (λi=>e (x.get i)) (λi=>e (y.get i))=λi=>e ((eA x y).get i):=by
 funext i j
 show (Bool.rec (e (y.get (i-x.n)) j) (e (x.get i) j) (Nat.blt i x.n):I)=e (Bool.rec (y.get (i-x.n)) (x.get i) (Nat.blt i x.n)) j
 cases Nat.blt i x.n<;>rfl
theorem TA (x y:Sq α) (e:α->Nat->I):aY (.arr el sz (x.n+y.n) (fZ x.n (λi=>e (x.get i)) (λi=>e (y.get i)))) (.arr el sz (eA x y).n λi=>e ((eA x y).get i)):=by
 rw [Gp]; exact aY.refl _
theorem qp (g g':Nat->Nat->I):aY (.arr el sz 0 g) (.arr el sz 0 g'):=aY.arr λi hi=>by omega
def xW {α:Type} (g:Nat->Sq α):Nat->Nat->Sq α->Sq α
 | 0,_,l=>l
 | m+1,k,l=>xW g m (k+1) (eA l (g k))
def aH (a:α):Sq α:=⟨0,λ_=>a⟩
def Gr (f:cK):Bool := !(decide (f.fn<0)||(decide (f.line<0)||decide ((f.vars.n:Int)>24)))
def Qg (j:Nat):Bool := !(!eF t (e.az.get j).value k||((t.ins.get (e.az.get j).value.toNat).op != 17||(vY e.az (e.az.get j).value != (j:Int)||((e.az.get j).cls != (t.ins.get (e.az.get j).value.toNat).n||(!cz lg (e.az.get j).names (t.ins.get (e.az.get j).value.toNat).names||(((e.az.get j).items.n:Int)!=((e.az.get j).names.n:Int)))))))
def PQ (v:Int):Bool:=v == -1 || !(!eF t v k||((t.ins.get v.toNat).op==17&&decide (vY e.az v<0)))
def x21:Bool:=eh (λi=>PQ t e k (l.get i)) l.n
def x12:Bool:=eh (Qg t e k) e.az.n&&x21 t e k (xW (λj=>(e.az.get j).items) e.az.n 0 l)
def pP:Bool := !(decide ((e.frames.n:Int)<1)||(decide ((e.frames.n:Int)>6)||decide (e.back<0)))&&(eh (λj=>Gr (e.frames.get j)) e.frames.n&&x12 t e k (xW (λj=>(e.frames.get j).vars) e.frames.n 0 (aH 0)))
def qW:eU:={ F:=F6 }
def ri:Nat->Bool:=λi=>Nat.beq i 5||Nat.beq i 12||Nat.beq i 21
theorem bf2:Fn 116:={}
abbrev dn (aj:Int):eQ:=(2,((int aj),[]))
end
abbrev dc:eQ:=(3,((.c (.rt 0 0 0)),[]))
abbrev bK:eQ:=(4,((.c (.rt 1 0 0)),[]))
section
variable (L:LP) (aj:ak) (QD:D->Prop) (t:ak) (e:aq) (k:Int) (l:Sq Int) (j:Nat)
theorem aV3 (h:br (decide ((↑e.1.1:Int)<1)) (QD (bool false)) (br (decide ((↑e.1.1:Int)>6)) (QD (bool false)) (br (decide (e.3<0)) (QD (bool false)) (L (af 116 5) ⟨[(dn k),dc,bK,(7,((.c bS),[])),wj],[(aU t),(dm e)],[]⟩)))):ep qW 116 ri L (bf QD) [aO t,qd e,int k] []:=km h
abbrev jZ:eQ:=(3,(.c (.rt 0 0 0)),[])
abbrev lX:eQ:=(4,(.c (.rt 1 0 0)),[])
abbrev Kh (ax:aq) (aJ:Sq Int):List ah:=[(aU aj),(dm ax),.arr 3 1 aJ.n (λi=>bn (aJ.get i))]
def ux:VS:=⟨[(2,(int k),[]),jZ,lX,(7,.c (.sa 2 l.n),[]),(8,int j,[])],(Kh t e l),[]⟩
abbrev wO (aj:aq) (ax:Nat):ah:=.box (lift (mS (aj.frames.2 ax)))
abbrev yX (aj:Sq Int):eQ:=(7,((.c (.sa 2 aj.1)),[]))
abbrev eJ (aj:Sq Int):ah:=.arr 3 1 aj.1 (λi=>bn (aj.2 i))
theorem Oi (h:br (decide ((↑j:Int)<(↑e.1.1:Int))) (nd (bQ (↑j:Int) e.1.1) (br (decide ((e.frames.2 j).1<0)) (QD (bool false)) (br (decide ((e.frames.2 j).2<0)) (QD (bool false)) (br (decide ((↑(e.frames.2 j).3.1:Int)>24)) (QD (bool false)) (nd (cw (l.1+(e.frames.2 j).3.1) 8) (nd (l.1.beq l.1) (L (af 116 5) ⟨[(dn k),dc,bK,(7,((.c (.sa 4 (l.1+(e.frames.2 j).3.1))),[])),(8,((int (IntKind.i64.wrap ((↑j:Int)+1))),[]))],[(aU t),(dm e),.dead,(wO e j),(.arr 3 1 (l.1+(e.frames.2 j).3.1) (fZ l.1 (λi=>bn (l.2 i)) ((e.frames.2 j).3.1,λi=>bn ((e.frames.get (↑j:Int).toNat).vars.2 i)).snd))],[]⟩))))))) (L (af 116 12) ⟨[(dn k),dc,bK,(yX l),(10,((int 0),[]))],[(aU t),(dm e),(eJ l)],[]⟩)):b5 qW 116 ri L (bf QD) 5 (ux t e k l j):=km h
def vd:VS:=⟨[(2,(int k),[]),jZ,lX,(7,.c (.sa 2 l.n),[]),(10,int j,[])],(Kh t e l),[]⟩
abbrev ez:D:=.a (lift (aT (aj)))
abbrev QW (aj:aq) (ax:Nat):D:=.c (.im (.sl 1 ((aj.az.2 ax).3.1) (λi=>cA ((aj.az.get (↑ax:Int).toNat).names.2 i))))
abbrev TX (ax:aq) (aJ:Nat):D:=.c (.im (.sl 1 ((aj.ins.2 (ax.az.2 aJ).1.toNat).8.1) (λi=>cA ((aj.ins.get (ax.az.get (↑aJ:Int).toNat).value.toNat).names.2 i))))
abbrev qm (aj:aq) (ax:Nat):ah:=.box (lift (xm (aj.az.2 ax)))
theorem HU (h:br (decide ((↑j:Int)<(↑e.2.1:Int))) (nd (bQ (↑j:Int) e.2.1) ((LC 114 [(ez t),(int ((e.az.2 j).1)),(int k)] [] (bool (eF t (e.az.2 j).1 k)) []/\br (!eF t (e.az.2 j).1 k) (QD (bool false)) (nd (bQ (e.az.2 j).1 t.2.1) (br ((t.ins.2 (e.az.2 j).1.toNat).1 != 17) (QD (bool false)) ((LC 137 [(.a (lift (bJ (e)))),(int ((e.az.2 j).1))] [] (int (vY e.2 (e.az.2 j).1)) []/\br (vY e.2 (e.az.2 j).1 != (↑j:Int)) (QD (bool false)) (nd (bQ (e.az.2 j).1 t.2.1) (br ((e.az.2 j).2 != (t.ins.2 (e.az.2 j).1.toNat).5) (QD (bool false)) (nd (bQ (e.az.2 j).1 t.2.1) ((LC 22 [(QW e j),(TX t e j)] [] (bool (cz lg (e.az.2 j).3 (t.ins.2 (e.az.2 j).1.toNat).8)) []/\br (!cz lg (e.az.2 j).3 (t.ins.2 (e.az.2 j).1.toNat).8) (QD (bool false)) (br ((↑(e.az.2 j).4.1:Int)!=(↑(e.az.2 j).3.1:Int)) (QD (bool false)) (nd (cw (l.1+(e.az.2 j).4.1) 8) (nd (l.1.beq l.1) (L (af 116 12) ⟨[(dn k),dc,bK,(7,((.c (.sa 5 (l.1+(e.az.2 j).4.1))),[])),(10,((int (IntKind.i64.wrap ((↑j:Int)+1))),[]))],[(aU t),(dm e),.dead,(qm e j),.dead,(.arr 3 1 (l.1+(e.az.2 j).4.1) (fZ l.1 (λi=>bn (l.2 i)) ((e.az.2 j).4.1,λi=>bn ((e.az.get (↑j:Int).toNat).items.2 i)).snd))],[]⟩)))))))))))))))) (L (af 116 21) ⟨[(dn k),dc,bK,(yX l),(12,((int 0),[]))],[(aU t),(dm e),(eJ l)],[]⟩)):b5 qW 116 ri L (bf QD) 12 (vd t e k l j):=km h
def Am:VS:=⟨[(2,(int k),[]),jZ,lX,(7,.c (.sa 2 l.n),[]),(12,int j,[])],(Kh t e l),[]⟩
theorem IM (h:br (decide ((↑j:Int)<(↑l.1:Int))) (nd (bQ (↑j:Int) l.1) (nd (j.blt l.1) (br (l.2 j == -1) (L (af 116 21) ⟨[(dn k),dc,bK,(yX l),(12,((int (IntKind.i64.wrap ((↑j:Int)+1))),[]))],[(aU t),(dm e),(eJ l)],[]⟩) (nd (bQ (↑j:Int) l.1) (nd (j.blt l.1) ((LC 114 [(ez t),(int (l.2 j)),(int k)] [] (bool (eF t (l.2 j) k)) []/\br (!eF t (l.2 j) k) (QD (bool false)) (nd (bQ (↑j:Int) l.1) (nd (j.blt l.1) (nd (bQ (l.2 j) t.2.1) (br ((t.ins.2 (l.2 j).toNat).1==17) (nd (bQ (↑j:Int) l.1) (nd (j.blt l.1) ((LC 137 [(.a (lift (bJ (e)))),(int (l.2 j))] [] (int (vY e.2 (l.2 j))) []/\br (decide (vY e.2 (l.2 j)<0)) (QD (bool false)) (L (af 116 21) ⟨[(dn k),dc,bK,(yX l),(12,((int (IntKind.i64.wrap ((↑j:Int)+1))),[]))],[(aU t),(dm e),(eJ l),.dead,.dead],[]⟩))))) (L (af 116 21) ⟨[(dn k),dc,bK,(yX l),(12,((int (IntKind.i64.wrap ((↑j:Int)+1))),[]))],[(aU t),(dm e),(eJ l),.dead,.dead],[]⟩)))))))))))) (QD (bool true))):b5 qW 116 ri L (bf QD) 21 (Am t e k l j):=km h
end
structure fW (e:aq):Prop where
 frames:e.frames.n<=1000
 vars:∀ j,j<e.frames.n->(e.frames.get j).vars.n<=1000
 az:e.az.n<=1000
 names:∀ j,j<e.az.n->(e.az.get j).names.n<=1000
 items:∀ j,j<e.az.n->(e.az.get j).items.n<=1000
structure aM (t:ak):Prop where
 ins:t.ins.n<=1000
 aa:t.aa.n<=1000
 args:∀ k,k<t.ins.n->(t.ins.get k).args.n<=1000
 names:∀ k,k<t.ins.n->(t.ins.get k).names.n<=1000
 str:∀ k,k<t.ins.n->(t.ins.get k).k.s.size<=1000
 ex:∀ k,k<t.aa.n->fW (t.aa.get k)
section
variable {t:ak} {v k:Int}
theorem YZ (h:eF t v k=true):0<=v/\v<k:=by
 grind [eF]
theorem po (h:eF t v k=true) (hk:k<=t.ins.n):bQ v t.ins.n=true:=by
 have:=YZ h
 exact oN this.1 (by omega)
theorem bO {n:Nat} {b:Nat} (h:n<=2000000) (hb:b<=1000):cw n b=true:=by
 have h2:n*b<=2000000*1000:=Nat.mul_le_mul h hb
 unfold cw
 simp only [fC]
 exact ⟨Nat.ble_eq_true_of_le (cT h (by decide)),Nat.ble_eq_true_of_le (cT h2 (by decide))⟩
end
theorem bX {a b:Nat} (h:a<b):Nat.blt a b=true:=by simp_all
section
variable (t:ak) (e:aq) (k:Int) (a:Bool)
theorem Rf (l:Sq Int) (a:Bool) (hk:k<=t.ins.n) (hl:l.n<=2000000):∀ j,j<=l.n->cB (λi=>PQ t e k (l.get i)) (l.n-j) j=a->ae 116 0 (a7 (bool a)) (af 116 21) (Am t e k l j):=by
 refine aN (λj hj ih ha=>?_) (λha=>?_)
 .have q:l.n-j=(l.n-(j+1))+1:=by omega
  rw [q] at ha
  have no:PQ t e k (l.get j)=false->aX (bool false) (bool a):=λq=>by grind [cR,aX.refl]
  have go:PQ t e k (l.get j)=true->ae 116 0 (a7 (bool a)) (af 116 21) (Am t e k l (j+1)):=λq=>by grind [dR]
  refine aK (X:=qW) (stop:=ri) (IM _ _ t e k l j ?_)
  rw [b6 hj (cT hl (by decide))]
  refine ag (λh=>?_) (λh=>(dec_lt h hj).elim)
  refine ai (aC hj) (ai (bX hj) ?_)
  refine ag (λh1=>go (by grind [PQ])) (λh1=>?_)
  have h1:(l.get j == -1)=false:=h1
  refine ai (aC hj) (ai (bX hj) ⟨KP _ _ _ hk,?_⟩)
  refine ag (λh2=>no (by grind [PQ])) (λh2=>?_)
  have h2:eF t (l.get j) k=true:=by simpa using h2
  refine ai (aC hj) (ai (bX hj) (ai (po h2 hk) ?_))
  refine ag (λh3=>?_) (λh3=>?_)
  .have h3:((t.ins.get (l.get j).toNat).op==17)=true:=h3
   refine ai (aC hj) (ai (bX hj) ⟨UB _ _,?_⟩)
   refine ag (λh4=>no (by grind [PQ])) (λh4=>?_)
   exact ae.rename [0,1,2] rfl (go (by grind [PQ]))
  .exact ae.rename [0,1,2] rfl (go (by grind [PQ]))
 .rw [Nat.sub_self] at ha
  refine aK (X:=qW) (stop:=ri) (IM _ _ t e k l _ ?_)
  refine ag (λh=>bq h) (λh=>?_)
  subst ha; exact aX.refl _
theorem Vc (hk:k<=t.ins.n) (hS:fW e):∀ j,j<=e.az.n->∀ l:Sq Int,l.n<=144+1000*j->(cB (Qg t e k) (e.az.n-j) j&&x21 t e k (xW (λi=>(e.az.get i).items) (e.az.n-j) j l))=a->ae 116 0 (a7 (bool a)) (af 116 12) (vd t e k l j):=by
 have hN:=hS.az
 refine aN (λj hj ih l hl ha=>?_) (λl hl ha=>?_)
 .have q:e.az.n-j=(e.az.n-(j+1))+1:=by omega
  rw [q] at ha
  have hi:=hS.items j hj
  have no:Qg t e k j=false->aX (bool false) (bool a):=λq=>by grind [cR,aX.refl]
  have go:Qg t e k j=true->ae 116 0 (a7 (bool a)) (af 116 12) (vd t e k (eA l (e.az.get j).items) (j+1)):=λq=>by rw [dR q] at ha; exact ih _ (by show l.n+_<=_; omega) ha
  refine aK (X:=qW) (stop:=ri) (HU _ _ t e k l j ?_)
  rw [b6 hj (cT hN (by decide))]
  refine ag (λh=>?_) (λh=>(dec_lt h hj).elim)
  refine ai (aC hj) ⟨KP _ _ _ hk,?_⟩
  refine ag (λh1=>no (by grind [Qg])) (λh1=>?_)
  have h1:eF t (e.az.get j).value k=true:=by simpa using h1
  have hb:=po h1 hk
  refine ai hb (ag (λh2=>no (by grind [Qg])) (λh2=>⟨UB _ _,?_⟩))
  have h2:((t.ins.get (e.az.get j).value.toNat).op != 17)=false:=h2
  refine ag (λh3=>no (by grind [Qg])) (λh3=>ai hb ?_)
  have h3:(vY e.az (e.az.get j).value != (j:Int))=false:=h3
  refine ag (λh4=>no (by grind [Qg])) (λh4=>ai hb ⟨Uw _ _,?_⟩)
  have h4:((e.az.get j).cls != (t.ins.get (e.az.get j).value.toNat).n)=false:=h4
  refine ag (λh5=>no (by grind [Qg])) (λh5=>?_)
  have h5:(!cz lg (e.az.get j).names (t.ins.get (e.az.get j).value.toNat).names)=false:=h5
  refine ag (λh6=>no (by grind [Qg])) (λh6=>?_)
  have h6:(((e.az.get j).items.n:Int)!=((e.az.get j).names.n:Int))=false:=h6
  refine ai (bO (by grind) (by omega)) (ai (dv _) ?_)
  refine ae.rename [0,1,5] rfl (ae.lf (vd t e k (eA l (e.az.get j).items) (j+1)) (rc (rc (.cons (TA 3 1 l (e.az.get j).items bn) .nil))) (go ?_))
  grind [Qg]
 .rw [Nat.sub_self] at ha
  refine aK (X:=qW) (stop:=ri) (HU _ _ t e k l _ ?_)
  refine ag (λh=>bq h) (λh=>?_)
  exact Rf t e k l a hk (by omega) 0 (bk _) (by simpa [cB,xW,x21,eh] using ha)
theorem Zn (hk:k<=t.ins.n) (hS:fW e) (hN:e.frames.n<=6):∀ j,j<=e.frames.n->∀ l:Sq Int,l.n<=24*j->(cB (λj=>Gr (e.frames.get j)) (e.frames.n-j) j&&x12 t e k (xW (λi=>(e.frames.get i).vars) (e.frames.n-j) j l))=a->ae 116 0 (a7 (bool a)) (af 116 5) (ux t e k l j):=by
 refine aN (λj hj ih l hl ha=>?_) (λl hl ha=>?_)
 .have q:e.frames.n-j=(e.frames.n-(j+1))+1:=by omega
  rw [q] at ha
  have no:Gr (e.frames.get j)=false->aX (bool false) (bool a):=λq=>by grind [cR,aX.refl]
  have go:Gr (e.frames.get j)=true->(e.frames.get j).vars.n<=24->ae 116 0 (a7 (bool a)) (af 116 5) (ux t e k (eA l (e.frames.get j).vars) (j+1)):=λq hv=>by rw [dR (p:=λj=>Gr (e.frames.get j)) q] at ha; exact ih _ (by show l.n+_<=_; omega) ha
  refine aK (X:=qW) (stop:=ri) (Oi _ _ t e k l j ?_)
  rw [b6 hj (cT hN (by decide))]
  refine ag (λh=>?_) (λh=>(dec_lt h hj).elim)
  refine ai (aC hj) ?_
  refine ag (λh1=>no (by grind [Gr])) (λh1=>?_)
  have h1:decide ((e.frames.get j).fn<0)=false:=h1
  refine ag (λh2=>no (by grind [Gr])) (λh2=>?_)
  have h2:decide ((e.frames.get j).line<0)=false:=h2
  refine ag (λh3=>no (by grind [Gr])) (λh3=>?_)
  have h3:decide (((e.frames.get j).vars.n:Int)>24)=false:=h3
  have hv:(e.frames.get j).vars.n<=24:=by grind
  refine ai (bO (by grind) (by omega)) (ai (dv _) ?_)
  refine ae.rename [0,1,4] rfl (ae.lf (ux t e k (eA l (e.frames.get j).vars) (j+1)) (rc (rc (.cons (TA 3 1 l (e.frames.get j).vars bn) .nil))) (go ?_ hv))
  grind [Gr]
 .rw [Nat.sub_self] at ha
  refine aK (X:=qW) (stop:=ri) (Oi _ _ t e k l _ ?_)
  refine ag (λh=>bq h) (λh=>?_)
  exact Vc t e k a hk hS 0 (bk _) l (by omega) (by simpa [cB,xW,x12,eh] using ha)
theorem aD6 (hk:k<=t.ins.n) (hS:fW e):LC 116 [aO t,qd e,int k] [] (bool (pP t e k)) []:=by
 refine pv (X:=qW) (stop:=ri) bf2 (aV3 _ _ t e k ?_)
 refine ag (λh1=>?_) (λh1=>ag (λh2=>?_) (λh2=>ag (λh3=>?_) (λh3=>?_)))
 .grind [pP,aX.refl]
 .grind [pP,aX.refl]
 .grind [pP,aX.refl]
 .have hN:e.frames.n<=6:=by grind
  refine ae.Cj 7 3 1 rfl (ae.lf (ux t e k (aH 0) 0) (rc (rc (.cons (qp 3 1 _ _) .nil))) ?_)
  grind [Zn,aH,pP,eh]
end
end
end Go.Proofs.YtgbbdaegmfjahaaGreat
