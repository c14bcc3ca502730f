/- '==' of the program's structs. -/
import Derived.Test.YtgbbdaegmfjahaaP3
import Derived.Laws.StructEq
import Derived.Tactics
import Derived.Tactics2
import Derived.StillTactics
import Derived.KernelRfl
import Derived.Test.YtgbbdaegmfjahaaProg
import Derived.Test.YtgbbdaegmfjahaaP4
import Derived.Shelf.GgClosure.StringsIndexFunc
import Derived.Ground.GgwProg
import Derived.Shelf.GgClosure.StringsIndexFuncTop
import Derived.WalkKit
import Derived.Laws.RangeAny
import Derived.Laws.RangeString
import Derived.ProofKit
set_option linter.unusedVariables false
namespace Go.Proofs.Ytgbbdaegmfjahaa
open Go.V
theorem Bz {l m:List C} {b:Bool} (h:I7 [] l m=some b):l=[]/\m=[]/\b=true:=by
 unfold I7 at h
 split at h<;>simp_all
theorem kF {k:List EK} {l m:List C} {b:Bool} (h:I7 (.int::k) l m=some b):∃ x y l' m' c,l=.im (.v (.int .i64 x))::l'/\m=.im (.v (.int .i64 y))::m'/\I7 k l' m'=some c/\b=((x==y)&&c):=by
 unfold I7 at h
 split at h
 .simp_all
 .rename_i h1
  simp only [List.cons.injEq,true_and] at h1
  subst h1
  split at h
  .rename_i c hc
   simp only [ak] at h
   exact ⟨_,_,_,_,c,rfl,rfl,hc,h.symm⟩
  .simp at h
 .simp_all
 .simp_all
 .simp at h
theorem JR {k:List EK} {l m:List C} {b:Bool} (h:I7 (.str::k) l m=some b):∃ x y l' m' c,l=.im (.v (.string x))::l'/\m=.im (.v (.string y))::m'/\I7 k l' m'=some c/\b=((x==y)&&c):=by
 unfold I7 at h
 split at h
 .simp_all
 .simp_all
 .rename_i h1
  simp only [List.cons.injEq,true_and] at h1
  subst h1
  split at h
  .rename_i c hc
   simp only [ak] at h
   exact ⟨_,_,_,_,c,rfl,rfl,hc,h.symm⟩
  .simp at h
 .simp_all
 .simp at h
theorem di {E:Env} {av:Nat->Prop} {w:World} {x:Value} {l:List C} {cs:List Value} (h:aB (bg E av w) (.im (.v x)::l) cs):∃ oH,cs=x::oH/\aB (bg E av w) l oH:=by
 cases h with
 | cons q k=>exact ⟨_,by rw [q.1],k⟩
theorem pE {E:Env} {av:Nat->Prop} {w:World} {cs:List Value} (h:aB (bg E av w) [] cs):cs=[]:=by
 cases h; rfl
theorem aL3 (d:Nat) (p1 p2 q1 q2:Int) (w:World):(Op.equalIn (d+2) 26 (.agg #[.int .i64 p1,.int .i64 p2]) (.agg #[.int .i64 q1,.int .i64 q2])).run Try.prog w=.ok ((p1==q1)&&((p2==q2)&&true)) w:=by
 have u3:=Try.underlying3
 have a3:=Try.isAgg3
 have z3:=Try.sizeOf3
 have hS:Try.prog.underlying 26=some (.struct (Try.prog.fieldsOf 26)):=by kernel_rfl
 have hp:Try.prog.stoodInHeld 26=false:=by kernel_rfl
 rw [run_equalIn_agg w (d+1) 26 _ _ hS hp]
 simp only [Program.fieldsOf,Try.underlying26]
 go_simp
 by_cases h1:p1=q1<;>by_cases h2:p2=q2<;>simp [h1,h2]
theorem aq9 (d:Nat) (a1 a2 b1 b2:Int) (s1 s2:ByteArray) (w:World):(Op.equalIn (d+2) 42 (.agg #[.int .i64 a1,.int .i64 a2,.string s1]) (.agg #[.int .i64 b1,.int .i64 b2,.string s2])).run Try.prog w=.ok ((a1==b1)&&((a2==b2)&&((s1==s2)&&true))) w:=by
 have u3:=Try.underlying3
 have a3:=Try.isAgg3
 have z3:=Try.sizeOf3
 have u9:=Try.underlying9
 have a9:=Try.isAgg9
 have z9:=Try.sizeOf9
 have hS:Try.prog.underlying 42=some (.struct (Try.prog.fieldsOf 42)):=by kernel_rfl
 have hp:Try.prog.stoodInHeld 42=false:=by kernel_rfl
 rw [run_equalIn_agg w (d+1) 42 _ _ hS hp]
 simp only [Program.fieldsOf,Try.underlying42]
 go_simp
 rw [beq_toListBytes]
 by_cases h1:a1=b1<;>by_cases h2:a2=b2<;>by_cases h3:s1.toList=s2.toList<;>simp [h1,h2,h3]
theorem aK0 (d:Nat) (x1 x2 x3 y1 y2 y3 a1 a2 b1 b2:Int) (s1 s2:ByteArray) (w:World):(Op.equalIn (d+3) 44 (.agg #[.int .i64 x1,.int .i64 x2,.int .i64 x3,.int .i64 a1,.int .i64 a2,.string s1]) (.agg #[.int .i64 y1,.int .i64 y2,.int .i64 y3,.int .i64 b1,.int .i64 b2,.string s2])).run Try.prog w =
  .ok ((x1==y1)&&((x2==y2)&&((x3==y3)&&((a1==b1)&&((a2==b2)&&((s1==s2)&&true)))))) w:=by
 have u3:=Try.underlying3
 have a3:=Try.isAgg3
 have z3:=Try.sizeOf3
 have a44:=Try.isAgg42
 have z44:=Try.sizeOf42
 have e44:=aq9 d
 have hS:Try.prog.underlying 44=some (.struct (Try.prog.fieldsOf 44)):=by kernel_rfl
 have hp:Try.prog.stoodInHeld 44=false:=by kernel_rfl
 rw [run_equalIn_agg w (d+2) 44 _ _ hS hp]
 simp only [Program.fieldsOf,Try.underlying44]
 go_simp
 by_cases h1:x1=y1<;>by_cases h2:x2=y2<;>by_cases h3:x3=y3<;>by_cases h4:a1=b1<;>by_cases h5:a2=b2<;>cases (s1==s2)<;>simp [h1,h2,h3,h4,h5]
theorem BD {t:TypeId} {cs ds:Array Value} {b:Bool} (hg:Try.prog.eqGuardType Try.prog.depth t=false) (h:∀ w,(Op.equalIn 10000 t (.agg cs) (.agg ds)).run Try.prog w=.ok b w) (w:World) (x y:Operand) :
  (do eqGuard .eql t x y (.agg cs) (.agg ds); binOp .eql t (.agg cs) (.agg ds)).run Try.prog w=.ok (.bool b) w/\
  (do eqGuard .neq t x y (.agg cs) (.agg ds); binOp .neq t (.agg cs) (.agg ds)).run Try.prog w=.ok (.bool (!b)) w:=by
 constructor
 .rw [Sem.run_bind,run_eqGuard_agg w .eql t x y cs ds hg,Result.andThen_ok,run_eql_struct,h w,Result.andThen_ok]
 .rw [Sem.run_bind,run_eqGuard_agg w .neq t x y cs ds hg,Result.andThen_ok,run_neq_struct,h w,Result.andThen_ok]
theorem Ym:∀ t ks,findF t [(44,[EK.int,.int,.int,.int,.int,.str]),(26,[EK.int,.int]),(42,[EK.int,.int,.str])]=some ks->∀ (l m:List C) (b:Bool),I7 ks l m=some b->∀ (E:Env) (av:Nat->Prop) (w:World) (cs ds:Array Value),aB (bg E av w) l cs.toList->aB (bg E av w) m ds.toList->∀ (x y:Operand),
  (do eqGuard .eql t x y (.agg cs) (.agg ds); binOp .eql t (.agg cs) (.agg ds)).run Try.prog w=.ok (.bool b) w/\
  (do eqGuard .neq t x y (.agg cs) (.agg ds); binOp .neq t (.agg cs) (.agg ds)).run Try.prog w=.ok (.bool (!b)) w:=by
 intro t ks ht l m b hb E av w cs ds hl hm x y
 have hmem:=mP ht
 obtain ⟨cs⟩:=cs
 obtain ⟨ds⟩:=ds
 simp only at hl hm
 rcases List.mem_cons.1 hmem with h|hmem
 .simp only [bw] at h
  obtain ⟨rfl,rfl⟩:=h
  obtain ⟨x1,y1,l,m,c,rfl,rfl,hb1,rfl⟩:=kF hb
  obtain ⟨x2,y2,l,m,c,rfl,rfl,hb2,rfl⟩:=kF hb1
  obtain ⟨x3,y3,l,m,c,rfl,rfl,hb3,rfl⟩:=kF hb2
  obtain ⟨x4,y4,l,m,c,rfl,rfl,hb4,rfl⟩:=kF hb3
  obtain ⟨x5,y5,l,m,c,rfl,rfl,hb5,rfl⟩:=kF hb4
  obtain ⟨x6,y6,l,m,c,rfl,rfl,hb6,rfl⟩:=JR hb5
  obtain ⟨rfl,rfl,rfl⟩:=Bz hb6
  obtain ⟨cs,rfl,hl1⟩:=di hl
  obtain ⟨cs,rfl,hl2⟩:=di hl1
  obtain ⟨cs,rfl,hl3⟩:=di hl2
  obtain ⟨cs,rfl,hl4⟩:=di hl3
  obtain ⟨cs,rfl,hl5⟩:=di hl4
  obtain ⟨cs,rfl,hl6⟩:=di hl5
  obtain rfl:=pE hl6
  obtain ⟨ds,rfl,hm1⟩:=di hm
  obtain ⟨ds,rfl,hm2⟩:=di hm1
  obtain ⟨ds,rfl,hm3⟩:=di hm2
  obtain ⟨ds,rfl,hm4⟩:=di hm3
  obtain ⟨ds,rfl,hm5⟩:=di hm4
  obtain ⟨ds,rfl,hm6⟩:=di hm5
  obtain rfl:=pE hm6
  exact BD (by kernel_rfl) (λw=>aK0 9997 x1 x2 x3 y1 y2 y3 x4 x5 y4 y5 x6 y6 w) w x y
 .rcases List.mem_cons.1 hmem with h|hmem
  .simp only [bw] at h
   obtain ⟨rfl,rfl⟩:=h
   obtain ⟨x1,y1,l,m,c,rfl,rfl,hb1,rfl⟩:=kF hb
   obtain ⟨x2,y2,l,m,c,rfl,rfl,hb2,rfl⟩:=kF hb1
   obtain ⟨rfl,rfl,rfl⟩:=Bz hb2
   obtain ⟨cs,rfl,hl1⟩:=di hl
   obtain ⟨cs,rfl,hl2⟩:=di hl1
   obtain rfl:=pE hl2
   obtain ⟨ds,rfl,hm1⟩:=di hm
   obtain ⟨ds,rfl,hm2⟩:=di hm1
   obtain rfl:=pE hm2
   exact BD (by kernel_rfl) (λw=>aL3 9998 x1 x2 y1 y2 w) w x y
  .rcases List.mem_cons.1 hmem with h|hmem
   .simp only [bw] at h
    obtain ⟨rfl,rfl⟩:=h
    obtain ⟨x1,y1,l,m,c,rfl,rfl,hb1,rfl⟩:=kF hb
    obtain ⟨x2,y2,l,m,c,rfl,rfl,hb2,rfl⟩:=kF hb1
    obtain ⟨x3,y3,l,m,c,rfl,rfl,hb3,rfl⟩:=JR hb2
    obtain ⟨rfl,rfl,rfl⟩:=Bz hb3
    obtain ⟨cs,rfl,hl1⟩:=di hl
    obtain ⟨cs,rfl,hl2⟩:=di hl1
    obtain ⟨cs,rfl,hl3⟩:=di hl2
    obtain rfl:=pE hl3
    obtain ⟨ds,rfl,hm1⟩:=di hm
    obtain ⟨ds,rfl,hm2⟩:=di hm1
    obtain ⟨ds,rfl,hm3⟩:=di hm2
    obtain rfl:=pE hm3
    exact BD (by kernel_rfl) (λw=>aq9 9998 x1 x2 y1 y2 x3 y3 w) w x y
   .cases hmem
end Go.Proofs.Ytgbbdaegmfjahaa
set_option maxRecDepth 1000000
namespace Go.Proofs.Ytgbbdaegmfjahaa
open Go Go.V
def tyL:List (Nat×Ty):=[
 (3,⟨1,8,(.int .i64 0),.int⟩),
 (56,⟨14,152,(.agg ⟨[(.int .i64 0),(.int .i64 0),(.int .i64 0),(.int .i64 0),(.int .i64 0),(.slice none 0 0),(.int .i64 0),(.int .i64 0),(.string ⟨⟨[]⟩⟩),(.slice none 0 0),(.int .i64 0),(.int .i64 0),(.int .i64 0),(.bool false)]⟩),(.struct [(0,1),(1,1),(2,1),(3,1),(4,1),(5,1),(6,3),(9,1),(10,2),(12,1),(13,1)])⟩),
 (30,⟨4,64,(.agg ⟨[(.int .i64 0),(.int .i64 0),(.slice none 0 0),(.slice none 0 0)]⟩),(.struct [(0,2),(2,1),(3,1)])⟩),
 (22,⟨1,24,(.slice none 0 0),(.slice 3)⟩),
 (27,⟨1,24,(.slice none 0 0),(.slice 56)⟩),
 (4,⟨1,1,(.bool false),.bool⟩),
 (72,⟨3,56,(.agg ⟨[(.slice none 0 0),(.slice none 0 0),(.int .i64 0)]⟩),(.struct [(0,1),(1,1),(2,1)])⟩),
 (54,⟨1,24,(.slice none 0 0),(.slice 9)⟩),
 (44,⟨6,56,(.agg ⟨[(.int .i64 0),(.int .i64 0),(.int .i64 0),(.int .i64 0),(.int .i64 0),(.string ⟨⟨[]⟩⟩)]⟩),(.struct [(0,1),(1,1),(2,1),(3,3)])⟩),
 (28,⟨1,24,(.slice none 0 0),(.slice 72)⟩),
 (69,⟨1,24,(.slice none 0 0),(.slice 74)⟩),
 (70,⟨1,24,(.slice none 0 0),(.slice 77)⟩),
 (77,⟨4,64,(.agg ⟨[(.int .i64 0),(.int .i64 0),(.slice none 0 0),(.slice none 0 0)]⟩),(.struct [(0,1),(1,1),(2,1),(3,1)])⟩),
 (42,⟨3,32,(.agg ⟨[(.int .i64 0),(.int .i64 0),(.string ⟨⟨[]⟩⟩)]⟩),(.struct [(0,1),(1,1),(2,1)])⟩),
 (46,⟨1,8,(.pointer none),(.ptr 51)⟩),
 (74,⟨3,40,(.agg ⟨[(.int .i64 0),(.int .i64 0),(.slice none 0 0)]⟩),(.struct [(0,1),(1,1),(2,1)])⟩),
 (47,⟨1,8,(.pointer none),(.ptr 49)⟩),
 (51,⟨7,88,(.agg ⟨[(.pointer none),(.int .i64 0),(.int .i64 0),(.slice none 0 0),(.slice none 0 0),(.int .i64 0),(.int .i64 0)]⟩),(.struct [(0,1),(1,4),(5,1),(6,1)])⟩),
 (82,⟨5,72,(.agg ⟨[(.int .i64 0),(.int .i64 0),(.slice none 0 0),(.slice none 0 0),(.map none)]⟩),(.struct [(0,4),(4,1)])⟩),
 (9,⟨1,16,(.string ⟨⟨[]⟩⟩),.str⟩),
 (23,⟨3,24,(.agg ⟨[(.int .i64 0),(.int .i64 0),(.int .i64 0)]⟩),(.array 3 3)⟩),
 (141,⟨1,8,(.int .u64 0),.other⟩),
 (26,⟨2,16,(.agg ⟨[(.int .i64 0),(.int .i64 0)]⟩),(.struct [(0,1),(1,1)])⟩),
 (80,⟨1,8,(.map none),(.map 3 4)⟩),
 (32,⟨1,24,(.slice none 0 0),(.slice 44)⟩),
 (121,⟨1,24,(.slice none 0 0),(.slice 122)⟩),
 (49,⟨2,32,(.agg ⟨[(.slice none 0 0),(.int .i64 0)]⟩),(.struct [(0,1),(1,1)])⟩),
 (37,⟨1,8,(.int .i64 0),.int⟩),
 (63,⟨1,8,(.int .i64 0),.int⟩),
 (123,⟨1,8,.nilFunc,.func⟩),
 (134,⟨1,8,(.int .u64 0),.other⟩),
 (59,⟨1,24,(.slice none 0 0),(.slice 58)⟩),
 (68,⟨1,8,(.pointer none),(.ptr 72)⟩),
 (98,⟨1,8,.nilFunc,.func⟩),
 (132,⟨1,8,.nilFunc,.func⟩),
 (21,⟨1,4,(.int .i32 0),.other⟩),
 (58,⟨1,8,.nilFunc,.func⟩),
 (85,⟨1,24,(.slice none 0 0),(.slice 42)⟩),
 (126,⟨1,8,.nilFunc,.func⟩),
 (122,⟨1,8,(.pointer none),(.ptr 3)⟩),
 (138,⟨1,4,(.int .u32 0),.other⟩)
]
def eqL:List (Nat×List EK):=[(44,[.int,.int,.int,.int,.int,.str]),(26,[.int,.int]),(42,[.int,.int,.str])]
noncomputable def my:dL:=⟨λt=>findF t tyL,λt=>findF t eqL,λg=>none,λg=>none⟩
def af4:List (Nat×List (Nat×List Nat)):=[
 (3,[(0,[0,3]),(1,[0,3,5]),(2,[0,3,5,6]),(3,[0,3,5,6]),(4,[0,3,5,6]),(5,[0,5,6,7]),(6,[4])]),
 (4,[(0,[]),(1,[1]),(2,[1,2]),(3,[0])]),
 (5,[(0,[0,2]),(1,[2,3]),(2,[2,3]),(3,[2,3,4]),(4,[2,3,4,29]),(5,[2,3,4]),(6,[2,3,4]),(7,[2,3]),(8,[2,3,5]),(9,[2,3,5,6]),(10,[2,3,5,6]),(11,[2,3,5,6]),(12,[2,3,5]),(13,[2,3,5]),(14,[2,3,5,7]),(15,[2,3,5,7,8]),(16,[2,3,5,7,8,75]),(17,[2,3,5,7,8]),(18,[2,3,5,7,8]),(19,[2,3,5,85]),(20,[2,3,5]),(21,[2,3,5]),(22,[2,3]),(23,[2]),(24,[2,3,5]),(25,[2,3,5,9]),(26,[2,3,5,9,103]),(27,[2,3,5,9]),(28,[2,3,5,9,111]),(29,[2,3,5,9]),(30,[2,3,5,9]),(31,[2,3]),(32,[2])]),
 (6,[(0,[1]),(1,[1,13]),(2,[2]),(3,[1,3]),(4,[1,3,14,15,16]),(5,[1,3,14,15,16,17]),(6,[1,3,5,14,15,16]),(7,[1,3,5,14,15,16,22,23]),(8,[1,3,5,14,15,16,22,23,24]),(9,[1,3,5,6,14,15,16,22,23]),(10,[1,3,5,7,8,14,15,16,22,23]),(11,[1,3,5,7,14,15,16,22,23,34]),(12,[1,3,5,7,9,10,14,15,16,22,23]),(13,[1,3,5,7,9,14,15,16,22,23,42]),(14,[1,3,5,7,14,15,16,22,23]),(15,[1,3,5,14,15,16,22,23]),(16,[1,3,5,14,15,16,22,23]),(17,[1,3,14,15,16]),(18,[2])]),
 (7,[(0,[1,2,3]),(1,[1,2,3,24]),(2,[6]),(3,[6])]),
 (8,[(0,[2,3,4]),(1,[3,4,5]),(2,[3,4,5,6]),(3,[3,4,5,6,7]),(4,[3,4,5,6,7,22]),(5,[3,4,5,6,7]),(6,[3,4,5,6,7,34]),(7,[3,4,5,6,7,34,35]),(8,[4,5]),(9,[3,4,5,6,7,34,43]),(10,[4,5]),(11,[3,4,5,6,7,34,50]),(12,[4,5]),(13,[3,4,5,6,7,34,57]),(14,[4,5]),(15,[3,4,5,6,7,34,64]),(16,[4,5]),(17,[3,4,5,6,7,34,77]),(18,[4,5]),(19,[3,4,5,6,7,34,87]),(20,[4,5]),(21,[3,4,5,6,7,34,100]),(22,[4,5]),(23,[3,4,5,6,7,34,117]),(24,[4,5]),(25,[3,4,5,7,34,129]),(26,[3,4,5,7,132]),(27,[4,5]),(28,[3,4,5,7,34,138]),(29,[3,4,5,7,141]),(30,[4,5]),(31,[3,4,5,7,34,159]),(32,[3,4,5,7,162]),(33,[4,5]),(34,[3,4,5,34,177]),(35,[4,5]),(36,[3,4,5,189]),(37,[4,5]),(38,[4])]),
 (9,[(0,[2,3]),(1,[2,3,29]),(2,[4]),(3,[2,3,5]),(4,[2,3,5,34]),(5,[2,3,5]),(6,[2,3,5,48]),(7,[4]),(8,[2,3,6]),(9,[2,3,6,53]),(10,[2,3,6]),(11,[2,3,6,67]),(12,[4]),(13,[4])]),
 (10,[(0,[1]),(1,[1,15]),(2,[2]),(3,[1,31]),(4,[2]),(5,[1,3]),(6,[1,3,4]),(7,[3,4,39,40]),(8,[3,4,39,40,41]),(9,[3,4,5,39,40]),(10,[3,4,39,40,47]),(11,[2]),(12,[3,4,39,40]),(13,[2])]),
 (11,[(0,[0]),(1,[0,1]),(2,[0,1,2]),(3,[0,1,2,3]),(4,[0,1,2,3,4]),(5,[0])]),
 (12,[(0,[0,1]),(1,[0,1,10]),(2,[4]),(3,[0,1,5]),(4,[0,1,5,14]),(5,[0,1,5]),(6,[0,1,5,25]),(7,[4]),(8,[4])]),
 (13,[(0,[0,1]),(1,[0,1,18]),(2,[4]),(3,[0,1]),(4,[4])]),
 (14,[(0,[0,3]),(1,[0]),(2,[4])]),
 (15,[(0,[0]),(1,[0,3]),(2,[0,3,4]),(3,[0,3,4,12]),(4,[0,3,4]),(5,[0,3,4]),(6,[0,5]),(7,[0,5,40]),(8,[0,5]),(9,[0]),(10,[2])]),
 (16,[(0,[0,2]),(1,[0,2,20]),(2,[0,2,20,21]),(3,[]),(4,[0,2,20,38]),(5,[0,2,20,38]),(6,[0,2,20,38]),(7,[0,3]),(8,[0,3]),(9,[]),(10,[0,2,20,56]),(11,[0,4]),(12,[0,4]),(13,[]),(14,[0,2,20,70]),(15,[0,2,5]),(16,[0,2,5]),(17,[0,2,6]),(18,[0,7]),(19,[0,7]),(20,[]),(21,[0,2,20,98]),(22,[0,2,20,98]),(23,[0,2,8]),(24,[]),(25,[0,2,20,109]),(26,[0,2,9]),(27,[]),(28,[0,2,20,121]),(29,[0,2,20,121]),(30,[0,2,10]),(31,[0,2,10]),(32,[0,2]),(33,[0,2,11]),(34,[0,2,11]),(35,[]),(36,[0,2,20,153]),(37,[0,2,12]),(38,[0,2,12]),(39,[0,2,12]),(40,[0,12,168]),(41,[]),(42,[]),(43,[0,2,20,185]),(44,[0,13]),(45,[0,13]),(46,[0,13]),(47,[]),(48,[0,2,201]),(49,[0,2,14]),(50,[0,2,14]),(51,[0,2,14]),(52,[])]),
 (17,[(0,[0]),(1,[0,3]),(2,[0,3,4]),(3,[0,3,4,12]),(4,[0,3,4]),(5,[0,3,4,24]),(6,[0,3,4]),(7,[0,3,31]),(8,[2]),(9,[0,3,37]),(10,[2]),(11,[2])]),
 (18,[(0,[1,2,4,5]),(1,[1,2,4,5,6]),(2,[1,2,4,5,6,7]),(3,[1,2,4,5,6,7,20]),(4,[4,5]),(5,[1,2,4,5,6,7,24]),(6,[4,5]),(7,[1,2,4,5,6,7,33]),(8,[1,2,4,5,6,7,8]),(9,[1,2,4,5,6,7,51]),(10,[4,5]),(11,[4,5,6,7,55]),(12,[4,5,6,7,10]),(13,[4,5,7,73]),(14,[4,5]),(15,[1,2,4,5,6,7,75]),(16,[4,5,6,7,81]),(17,[4,5,6,7,12]),(18,[4,5,7,94]),(19,[4,5]),(20,[4,5])]),
 (19,[(0,[1,2,4]),(1,[1,2,4,6]),(2,[1,2,4,6,19]),(3,[4,5]),(4,[1,2,4,6,7]),(5,[1,2,4,6,7,27]),(6,[1,2,4,6,7]),(7,[1,2,4,6,7,8]),(8,[1,2,4,6,7,8,9]),(9,[1,2,4,6,7,8,9,39]),(10,[4,5]),(11,[1,2,4,6,7,48]),(12,[4,5]),(13,[4,5])]),
 (20,[(0,[2,3,4]),(1,[2,3,4,9]),(2,[4,5]),(3,[2,3,4,21]),(4,[4,5]),(5,[3,4,6]),(6,[4,6,33]),(7,[4,5]),(8,[4,5])]),
 (21,[(0,[1,2,3]),(1,[1,2,3]),(2,[1,3,7,8]),(3,[1,3,7,8,9]),(4,[1,3,7,8,28]),(5,[1,3,7,8,28]),(6,[6]),(7,[1,3,7,8,60]),(8,[6]),(9,[1,3,7,8,78]),(10,[10,11]),(11,[124]),(12,[6]),(13,[125]),(14,[6]),(15,[6])]),
 (22,[(0,[1,2]),(1,[1,2,3]),(2,[1,2,3,4]),(3,[1,2,3,4,13]),(4,[1,2,3,4]),(5,[1,2,3,4]),(6,[1,2,3,5]),(7,[1,2,3,5,31]),(8,[1,2,3,5]),(9,[1,2,3,5]),(10,[2])]),
 (23,[(0,[0,1]),(1,[1,5]),(2,[1,5,10]),(3,[4]),(4,[4])]),
 (24,[(0,[]),(1,[0])]),
 (25,[(0,[2,3]),(1,[4])]),
 (26,[(0,[2,3]),(1,[2,3,31]),(2,[4]),(3,[2,3,5]),(4,[2,3,5,36]),(5,[2,3,5]),(6,[2,3,5,82]),(7,[4]),(8,[2,3,6]),(9,[2,3,6,87]),(10,[2,3,6]),(11,[2,3,6,7]),(12,[2,3,6,7,8]),(13,[2,3,6,127]),(14,[4]),(15,[4])]),
 (27,[(0,[1]),(1,[1,3]),(2,[1,3,8]),(3,[2]),(4,[2])]),
 (28,[(0,[1,2,3]),(1,[1,2,3,7]),(2,[1,2,3,7,8]),(3,[1,2,3,7,24]),(4,[1,2,3,7,24]),(5,[1,2,3,7,24]),(6,[6]),(7,[1,2,3,7,46]),(8,[6]),(9,[1,3,7,74]),(10,[6]),(11,[1,3,7,85]),(12,[6]),(13,[1,3,7,120,121,122]),(14,[1,3,7,120,121,122,123]),(15,[1,3,7,10,120,121,122]),(16,[1,3,7,120,121,122,140]),(17,[6]),(18,[1,3,7,120,121,122]),(19,[1,3,7,144]),(20,[6]),(21,[1,3,7,149]),(22,[6]),(23,[1,3,7]),(24,[6])]),
 (29,[(0,[0]),(1,[0,3]),(2,[0,3,13]),(3,[0,3]),(4,[0,3]),(5,[3]),(6,[2])]),
 (30,[(0,[0]),(1,[3]),(2,[3,4]),(3,[3,4]),(4,[3,4]),(5,[3,4]),(6,[3,4]),(7,[3,4]),(8,[3,4]),(9,[3,4]),(10,[4]),(11,[2]),(12,[2])]),
 (31,[(0,[0]),(1,[2])]),
 (32,[(0,[2,3,4,5]),(1,[2,3,4,5,6]),(2,[2,3,4,5,6,18]),(3,[2,3,4,5,7,20]),(4,[2,3,4,5,7,8]),(5,[2,3,4,5,7,8,30]),(6,[3,4,5,7,8,9]),(7,[3,4,5,7,8,9,35]),(8,[4,5]),(9,[3,4,5,8,9,46]),(10,[4,5]),(11,[3,4,5,8,9,58]),(12,[4,5]),(13,[4,5,65]),(14,[4,5]),(15,[3,4,5,10]),(16,[4,5])]),
 (33,[(0,[2,3]),(1,[4])]),
 (34,[(0,[2,3]),(1,[4])]),
 (35,[(0,[0,1]),(1,[4])]),
 (36,[(0,[0]),(1,[2])]),
 (37,[(0,[1,2]),(1,[1,2]),(2,[1,2,22,23,24]),(3,[1,2,22,23,24,25]),(4,[1,2,3,4,22,23,24]),(5,[1,2,22,23,24]),(6,[1,2,22,23,24]),(7,[1,2,47,48,49]),(8,[1,2,47,48,49,50]),(9,[1,2,5,6,47,48,49]),(10,[1,2,5,7,8,47,48,49]),(11,[1,2,5,7,8,47,48,49,60,61,62]),(12,[1,2,5,7,8,47,48,49,60,61,62,63]),(13,[1,2,5,7,8,9,10,47,48,49,60,61,62]),(14,[1,2,5,7,8,47,48,49,60,61,62]),(15,[1,2,5,7,8,47,48,49,60,61,62]),(16,[1,2,5,7,8,47,48,49,75,76,77]),(17,[1,2,5,7,8,47,48,49,75,76,77,78]),(18,[1,2,5,7,8,11,12,47,48,49,75,76,77]),(19,[1,2,5,7,8,47,48,49,75,76,77]),(20,[1,2,5,7,8,47,48,49,75,76,77]),(21,[1,2,47,48,49]),(22,[1,2,47,48,49]),(23,[2])]),
 (38,[(0,[2,3]),(1,[2,3,5]),(2,[2,3,5,6]),(3,[2,3,5,6,15]),(4,[4]),(5,[2,3,5,6,15,16]),(6,[3,5,30]),(7,[4]),(8,[]),(9,[2,3,5,6,15,40]),(10,[2,3,5,6,51]),(11,[4]),(12,[2,3,5,6,7]),(13,[2,3,5,6,87]),(14,[4]),(15,[5,6]),(16,[]),(17,[2,3,5,6,15,97]),(18,[5,6,132]),(19,[4]),(20,[]),(21,[2,3,5,15,136]),(22,[5,156]),(23,[4]),(24,[]),(25,[2,3,5,15,160]),(26,[5,173]),(27,[4]),(28,[]),(29,[2,3,177]),(30,[4]),(31,[4])]),
 (39,[(0,[0]),(1,[2])]),
 (40,[(0,[0]),(1,[2])]),
 (41,[(0,[1,2,3,4]),(1,[1,2,3,4,16]),(2,[8]),(3,[1,2,3,4,9]),(4,[1,2,3,4,26]),(5,[8]),(6,[1,2,3,4,42]),(7,[8]),(8,[2,3,4,10,11]),(9,[10,11,12,13]),(10,[8])]),
 (42,[(0,[1,2]),(1,[1,2,3]),(2,[1,2,3]),(3,[2,3]),(4,[2])]),
 (43,[(0,[1,2]),(1,[1,2,3]),(2,[1,2,3,4]),(3,[1,2,3,4,15]),(4,[1,2,3,4]),(5,[1,2,3,4,5]),(6,[1,2,3,4,5]),(7,[1,2,3,4]),(8,[1,2,3,6]),(9,[1,2,3,6,38]),(10,[1,2,3,6]),(11,[1,2,3,6,7]),(12,[1,2,3,6,7]),(13,[1,2,3,6,7]),(14,[1,2,3,6]),(15,[2])]),
 (44,[(0,[0,1]),(1,[0,1,10]),(2,[4]),(3,[0,1,5]),(4,[0,1,5,14]),(5,[0,1,5]),(6,[0,1,5,25]),(7,[4]),(8,[4])]),
 (45,[(0,[0,1]),(1,[0,1,10]),(2,[4]),(3,[0,1,5]),(4,[0,1,5,14]),(5,[0,1,5]),(6,[0,1,5,25]),(7,[4]),(8,[4])]),
 (46,[(0,[0,1]),(1,[0,1,7,8]),(2,[0,1,7,8,9]),(3,[0,1,5,7,8]),(4,[0,1,5,7,8,16]),(5,[4]),(6,[0,1,7,8]),(7,[4])]),
 (47,[(0,[1]),(1,[2])]),
 (48,[(0,[1]),(1,[1,3,4]),(2,[1,3,4,5]),(3,[1,5,15]),(4,[2]),(5,[1,36]),(6,[2]),(7,[1,73]),(8,[2]),(9,[1,112]),(10,[2]),(11,[1,127]),(12,[2]),(13,[1,161]),(14,[2]),(15,[2])]),
 (49,[(0,[0]),(1,[2])]),
 (50,[(0,[0]),(1,[2])]),
 (51,[(0,[0]),(1,[2])]),
 (52,[(0,[1]),(1,[1,5]),(2,[2]),(3,[2])]),
 (53,[(0,[1,2,3]),(1,[6])]),
 (54,[(0,[3,4,5,6]),(1,[3,4,5,6,28]),(2,[6]),(3,[3,4,5,6,7]),(4,[3,4,5,6,7,31,32,33]),(5,[3,4,5,6,7,31,32,33,34]),(6,[3,4,5,6,7,9,31,32,33]),(7,[3,4,5,6,7,9,31,32,33,57]),(8,[6]),(9,[3,4,5,6,7,9,10,31,32,33]),(10,[3,4,5,6,7,9,31,32,33,82]),(11,[6]),(12,[3,4,5,6,7,31,32,33]),(13,[3,4,5,6,7,31,32,33]),(14,[3,4,5,6,7,88,89,90]),(15,[3,4,5,6,7,88,89,90,91]),(16,[3,4,5,6,7,12,88,89,90]),(17,[3,4,5,6,7,88,89,90,107]),(18,[6]),(19,[3,4,5,6,7,88,89,90]),(20,[3,5,6,7,110]),(21,[3,5,6,7,13]),(22,[6,136]),(23,[6]),(24,[6])]),
 (55,[(0,[0,1]),(1,[0,1,10]),(2,[4]),(3,[0,1,12,13]),(4,[0,1,12,13,14]),(5,[0,1,5,12,13]),(6,[0,1,12,13,24]),(7,[4]),(8,[0,1,12,13]),(9,[4])]),
 (56,[(0,[0,2,4]),(1,[0,2,4,9]),(2,[0,2,4]),(3,[0,2,4,5]),(4,[0,2,4,26])]),
 (57,[(0,[0,1]),(1,[0,1,7,8]),(2,[0,1,7,8,9]),(3,[0,1,5,7,8]),(4,[0,1,5,7,8,16]),(5,[4]),(6,[0,1,7,8]),(7,[4])]),
 (58,[(0,[0]),(1,[0,4]),(2,[2]),(3,[2])]),
 (59,[(0,[0]),(1,[0,4]),(2,[2]),(3,[2])]),
 (60,[(0,[0]),(1,[0,4]),(2,[2]),(3,[2])]),
 (61,[(0,[0]),(1,[0,4]),(2,[2]),(3,[2])]),
 (62,[(0,[0]),(1,[0,4]),(2,[2]),(3,[2])]),
 (63,[(0,[0]),(1,[0,4]),(2,[2]),(3,[2])]),
 (64,[(0,[1]),(1,[2])]),
 (65,[(0,[0]),(1,[2])]),
 (66,[(0,[3,4,5]),(1,[3,6]),(2,[3,6,7]),(3,[3,6,7,20,21]),(4,[3,6,7,20,21,22]),(5,[3,6,7,8,20,21]),(6,[3,6,7,9,20,21]),(7,[3,6,7,9,20,21]),(8,[3,6,7,20,21]),(9,[3,6,7,20,21]),(10,[6,7,54,55,56]),(11,[6,7,54,55,56,57]),(12,[6,7,11,54,55,56]),(13,[6,7,11,54,55,56,61,62,63]),(14,[6,7,11,54,55,56,61,62,63,64]),(15,[6,7,11,13,54,55,56,61,62,63]),(16,[6,7,11,54,55,56,61,62,63]),(17,[6,7,11,54,55,56,61,62,63]),(18,[6,7,11,54,55,56,73,74,75]),(19,[6,7,11,54,55,56,73,74,75,76]),(20,[6,7,11,14,15,54,55,56,73,74,75]),(21,[6,7,11,14,54,55,56,73,74,75]),(22,[6,7,11,54,55,56,73,74,75]),(23,[6,7,11,54,55,56,73,74,75]),(24,[6,7,54,55,56])]),
 (67,[(0,[2,3,4]),(1,[2,3,4,5]),(2,[2,3,4,5,12,13,14]),(3,[2,3,4,5,12,13,14,15]),(4,[2,3,4,5,6,7,12,13,14]),(5,[2,3,4,5,6,7,12,13,14,20]),(6,[2,3,4,5,6,7,8,12,13,14]),(7,[2,3,4,5,6,7,8,12,13,14,35]),(8,[2,3,4,5,6,8,9,12,13,14]),(9,[2,3,4,5,6,8,9,12,13,14,43]),(10,[3,8,10]),(11,[]),(12,[2,3,4,5,6,8,12,13,14]),(13,[2,3,4,5,6,12,13,14,58]),(14,[2,3,4,5,12,13,14]),(15,[2,3,4,5,12,13,14]),(16,[4])]),
 (68,[(0,[2,3]),(1,[2,3,5]),(2,[2,3,5,25]),(3,[4]),(4,[2,3,5,6]),(5,[2,3,5,6,7]),(6,[2,3,5,6,7,37]),(7,[2,3,5,6,7]),(8,[2,3,5,6,7,8]),(9,[2,3,5,6,7,8,59]),(10,[2,3,5,6,7,8,9]),(11,[2,3,5,6,7,8]),(12,[2,3,5,6,7,8,92]),(13,[2,3,5,6,7,8]),(14,[2,3,5,6,7,8,98]),(15,[2,3,5,6,7]),(16,[2,3,5,6,7,8,108]),(17,[2,3,5,6,7]),(18,[2,3,5,6,7,8,128]),(19,[2,3,5,6,7,8]),(20,[2,3,5,6,7,8,140,141,142]),(21,[2,3,5,6,7,8,140,141,142,143]),(22,[2,3,5,6,7,8,10,11,140,141,142]),(23,[2,3,5,6,7,8,10,140,141,142,149]),(24,[2,3,5,6,7,8,140,141,142]),(25,[2,3,5,6,7,8,140,141,142]),(26,[]),(27,[4])]),
 (69,[(0,[1,2,3,6]),(1,[1,2,3,6,16]),(2,[6,7]),(3,[1,6,25,26,27]),(4,[1,6,25,26,27,28]),(5,[1,6,9,25,26,27]),(6,[1,6,9,25,26,27,44]),(7,[6,7]),(8,[1,6,25,26,27]),(9,[6,7])]),
 (70,[(0,[0]),(1,[4]),(2,[4,5]),(3,[2,3]),(4,[4,7]),(5,[2,3]),(6,[4,9]),(7,[2,3]),(8,[4,11]),(9,[2,3]),(10,[4,13]),(11,[4,13]),(12,[2,3]),(13,[4,16]),(14,[2,3]),(15,[4,18]),(16,[2,3]),(17,[4,20]),(18,[4,20]),(19,[20]),(20,[2,3]),(21,[2,3])]),
 (71,[(0,[0]),(1,[3]),(2,[3,4]),(3,[3,4]),(4,[3,4]),(5,[3,4]),(6,[3,4]),(7,[3,4]),(8,[3,4]),(9,[3,4]),(10,[2]),(11,[3,13]),(12,[3,13]),(13,[3,13]),(14,[3,13]),(15,[2]),(16,[18]),(17,[2]),(18,[2])]),
 (72,[(0,[0]),(1,[0,5,6,7]),(2,[0,5,6,7,8]),(3,[0,3,4,5,6,7]),(4,[0,5,6,7,20]),(5,[2]),(6,[0,5,6,7]),(7,[2])]),
 (73,[(0,[1]),(1,[2])]),
 (74,[(0,[1]),(1,[1,3,4]),(2,[1,3,4,7]),(3,[2]),(4,[1,3,4,7,8]),(5,[1,3,4,7,8]),(6,[1,3,7,11]),(7,[1,3,4]),(8,[1,3,7,13]),(9,[1,3,4]),(10,[1,3,7,15]),(11,[1,5]),(12,[2]),(13,[1,3,7,33]),(14,[1,3,4]),(15,[1,3,35]),(16,[1,3,4]),(17,[2])]),
 (75,[(0,[1,2,6,7,8]),(1,[1,2,6,7,8,9]),(2,[1,2,5,6,7,8]),(3,[1,2,5,6,7,8,16]),(4,[1,2,6,7,8]),(5,[1,2,6,7,8])]),
 (76,[(0,[0,1,5,6]),(1,[0,1,5,6,7]),(2,[0,1,3,5,6]),(3,[0,1,5,6]),(4,[0,1,5,6])]),
 (77,[(0,[0,1]),(1,[4])]),
 (78,[(0,[1,2]),(1,[3])]),
 (79,[(0,[0,1]),(1,[4])]),
 (80,[(0,[1,2,3]),(1,[4])]),
 (81,[(0,[2,3,4]),(1,[2,3,4,7]),(2,[6]),(3,[2,3,4,13]),(4,[6]),(5,[3,4,29]),(6,[6]),(7,[6])]),
 (82,[(0,[0,1]),(1,[0,1,10]),(2,[0,1]),(3,[0,5,6]),(4,[0,6,26]),(5,[0,6]),(6,[0,7]),(7,[7,8]),(8,[7,8,37]),(9,[7,8]),(10,[4])]),
 (83,[(0,[0,1]),(1,[0,1,7,8]),(2,[0,1,7,8,9]),(3,[0,1,5,7,8]),(4,[0,1,5,7,8,16]),(5,[4]),(6,[0,1,7,8]),(7,[4])]),
 (84,[(0,[0,1,12,13,14]),(1,[0,1,12,13,14,15]),(2,[0,1,4,12,13,14]),(3,[0,1,12,13,14,19,20,21]),(4,[0,1,12,13,14,19,20,21,22]),(5,[0,1,6,12,13,14,19,20,21]),(6,[0,1,12,13,14,19,20,21,28]),(7,[0,1,12,13,14,19,20,21]),(8,[0,1,12,13,14]),(9,[0,32,33,34]),(10,[0,32,33,34,35]),(11,[0,8,32,33,34]),(12,[0,32,33,34,39,40,41]),(13,[0,32,33,34,39,40,41,42]),(14,[0,10,32,33,34,39,40,41]),(15,[0,32,33,34,39,40,41,48]),(16,[0,32,33,34,39,40,41]),(17,[0,32,33,34])]),
 (85,[(0,[0,1]),(1,[4])]),
 (86,[(0,[0]),(1,[2])]),
 (87,[(0,[0,1]),(1,[0,1,7,8]),(2,[0,1,7,8,9]),(3,[0,1,5,7,8]),(4,[0,1,5,7,8,16]),(5,[4]),(6,[0,1,7,8]),(7,[4])]),
 (88,[(0,[0,1]),(1,[6,7]),(2,[4,5]),(3,[8,9]),(4,[4,5])]),
 (89,[(0,[0,1]),(1,[4])]),
 (90,[(0,[0,1]),(1,[6]),(2,[4,5])]),
 (91,[(0,[0,1]),(1,[0,1,6]),(2,[0,1,6,7]),(3,[0,1,6,7,8]),(4,[0,1,6,7,8,9]),(5,[0,1,6,7,8,9,10]),(6,[0,1,6,7,9,11]),(7,[0,1,6,7,9,11,12]),(8,[0,1,6,7,9,12,13]),(9,[0,1,7,9,12,13]),(10,[0,1,4]),(11,[4,5])]),
 (92,[(0,[0,1,2]),(1,[1,2,10]),(2,[1,2,10,11,12]),(3,[1,2,7,8,10]),(4,[1,2,7,10,19]),(5,[6]),(6,[6])])
]
noncomputable def fnL:List (Nat×Func):=[(3,Try.f3),(4,Try.f4),(5,Try.f5),(6,Try.f6),(7,Try.f7),(8,Try.f8),(9,Try.f9),(10,Try.f10),(11,Try.f11),(12,Try.f12),(13,Try.f13),(14,Try.f14),(15,Try.f15),(16,Try.f16),(17,Try.f17),(18,Try.f18),(19,Try.f19),(20,Try.f20),(21,Try.f21),(22,Try.f22),(23,Try.f23),(24,Try.f24),(25,Try.f25),(26,Try.f26),(27,Try.f27),(28,Try.f28),(29,Try.f29),(30,Try.f30),(31,Try.f31),(32,Try.f32),(33,Try.f33),(34,Try.f34),(35,Try.f35),(36,Try.f36),(37,Try.f37),(38,Try.f38),(39,Try.f39),(40,Try.f40),(41,Try.f41),(42,Try.f42),(43,Try.f43),(44,Try.f44),(45,Try.f45),(46,Try.f46),(47,Try.f47),(48,Try.f48),(49,Try.f49),(50,Try.f50),(51,Try.f51),(52,Try.f52),(53,Try.f53),(54,Try.f54),(55,Try.f55),(56,Try.f56),(57,Try.f57),(58,Try.f58),(59,Try.f59),(60,Try.f60),(61,Try.f61),(62,Try.f62),(63,Try.f63),(64,Try.f64),(65,Try.f65),(66,Try.f66),(67,Try.f67),(68,Try.f68),(69,Try.f69),(70,Try.f70),(71,Try.f71),(72,Try.f72),(73,Try.f73),(74,Try.f74),(75,Try.f75),(76,Try.f76),(77,Try.f77),(78,Try.f78),(79,Try.f79),(80,Try.f80),(81,Try.f81),(82,Try.f82),(83,Try.f83),(84,Try.f84),(85,Try.f85),(86,Try.f86),(87,Try.f87),(88,Try.f88),(89,Try.f89),(90,Try.f90),(91,Try.f91),(92,Try.f92)]
noncomputable def fnF (f:FuncId):Option Func:=findF f fnL
noncomputable def W3 (f:FuncId) (r:Nat):Option (List Tmp):=match findF f af4 with
 | some l=>findF r l
 | none=>none
def ah4:List (Nat×Nat):=[(13,4),(14,1),(15,1),(16,1),(17,4),(29,1),(28,1),(53,1),(54,1),(73,1),(84,1),(34,1),(56,1),(42,5),(43,5),(22,1),(37,1),(66,1),(68,1),(75,1),(76,1),(38,1),(58,2),(59,2),(60,2),(62,2),(63,2)]
def an8:List Nat:=[45]
noncomputable def hints:Hint:=⟨W3,λf=>match findF f ah4 with
 | some m=>m
 | none=>0,λt=>pg t an8⟩
theorem tc {x:Nat×Ty} {l:List (Nat×Ty)} (k:∀ y∈l,cz Try.prog y.1 y.2) (a:vG Try.prog x.1=some x.2.kd:=by kernel_rfl) (b:(Try.prog.info? x.1).map (λi=>(i.size,i.bytes,i.zero))=some (x.2.size,x.2.bytes,some x.2.zero):=by kernel_rfl) (c:x.2.zero.cells.size=x.2.size:=by kernel_rfl):∀ y∈x::l,cz Try.prog y.1 y.2:=List.forall_mem_cons.2 ⟨⟨a,b,c⟩,k⟩
theorem fc {x:Nat×Func} {l:List (Nat×Func)} (k:∀ y∈l,Try.prog.funcs[y.1]?=some y.2/\(y.2.name == "runtime.NumGoroutine")=false) (a:Try.prog.funcs[x.1]?=some x.2:=by kernel_rfl) (b:(x.2.name == "runtime.NumGoroutine")=false:=by kernel_rfl):∀ y∈x::l,Try.prog.funcs[y.1]?=some y.2/\(y.2.name == "runtime.NumGoroutine")=false:=List.forall_mem_cons.2 ⟨⟨a,b⟩,k⟩
theorem ZU:∀ x∈tyL,cz Try.prog x.1 x.2:=
 (tc (tc (tc (tc (tc (tc (tc (tc (tc (tc (tc (tc (tc (tc (tc (tc (tc (tc (tc (tc (tc (tc (tc (tc (tc (tc (tc (tc (tc (tc (tc (tc (tc (tc (tc (tc (tc (tc (tc (tc (tc (List.forall_mem_nil _))))))))))))))))))))))))))))))))))))))))))
theorem qi:dH Try.prog my:=⟨λt y h=>ZU (t,y) (mP h),Ym⟩
theorem Zw:∀ x∈fnL,Try.prog.funcs[x.1]?=some x.2/\(x.2.name == "runtime.NumGoroutine")=false:=
 (fc (fc (fc (fc (fc (fc (fc (fc (fc (fc (fc (fc (fc (fc (fc (fc (fc (fc (fc (fc (fc (fc (fc (fc (fc (fc (fc (fc (fc (fc (fc (fc (fc (fc (fc (fc (fc (fc (fc (fc (fc (fc (fc (fc (fc (fc (fc (fc (fc (fc (fc (fc (fc (fc (fc (fc (fc (fc (fc (fc (fc (fc (fc (fc (fc (fc (fc (fc (fc (fc (fc (fc (fc (fc (fc (fc (fc (fc (fc (fc (fc (fc (fc (fc (fc (fc (fc (fc (fc (fc (List.forall_mem_nil _)))))))))))))))))))))))))))))))))))))))))))))))))))))))))))))))))))))))))))))))))))))))))))
theorem A4:KY Try.prog fnF:=λf fn h=>Zw (f,fn) (mP h)
theorem mixed:Try.prog.follows .mixedOrders=true:=by kernel_rfl
end Go.Proofs.Ytgbbdaegmfjahaa
namespace Go.V
noncomputable section
structure Sq (α:Type) where
 n:Nat
 get:Nat->α
structure HC where
 fn:Int
 line:Int
structure iL where
 kind:Int
 n:Int
 s:ByteArray
structure aj where
 op:Int
 a:Int
 b:Int
 c:Int
 n:Int
 args:Sq Int
 k:iL
 names:Sq ByteArray
 place:HC
 exit:Int
 once:Bool
structure cK where
 fn:Int
 line:Int
 vars:Sq Int
structure cG where
 value:Int
 cls:Int
 names:Sq ByteArray
 items:Sq Int
structure ah where
 frames:Sq cK
 ax:Sq cG
 back:Int
structure ae where
 place:HC
 ins:Sq aj
 aa:Sq ah
def iI (n:Int):I:=.v (.int .i64 n)
def iS (s:ByteArray):I:=.v (.string s)
def iB (b:Bool):I:=.v (.bool b)
def ixI (l:List I):Nat->I:=List.rec (λ_=>.v (.bool false)) (λx _ ih k=>Nat.rec x (λm _=>ih m) k) l
def zK {α:Type} (sz:Nat) (e:α->Nat->I) (s:Sq α):I:=.sl sz s.n λi=>e (s.get i)
def bA (n:Int):Nat->I:=λ_=>iI n
def cw (s:ByteArray):Nat->I:=λ_=>iS s
def aN (x:aj):List I:=[iI x.op,iI x.a,iI x.b,iI x.c,iI x.n,zK 1 bA x.args,iI x.k.kind,iI x.k.n,iS x.k.s,zK 1 cw x.names,iI x.place.fn,iI x.place.line,iI x.exit,iB x.once]
def fT (x:aj):Nat->I:=ixI (aN x)
def ka (x:cK):List I:=[iI x.fn,iI x.line,zK 1 bA x.vars]
def dg (x:cK):Nat->I:=ixI (ka x)
def lY (x:cG):List I:=[iI x.value,iI x.cls,zK 1 cw x.names,zK 1 bA x.items]
def eX (x:cG):Nat->I:=ixI (lY x)
def bn (x:ah):List I:=[zK 3 dg x.frames,zK 4 eX x.ax,iI x.back]
def dw (x:ah):Nat->I:=ixI (bn x)
def az (t:ae):List I:=[iI t.place.fn,iI t.place.line,zK 14 fT t.ins,zK 3 dw t.aa]
def PG (v:iL):List I:=[iI v.kind,iI v.n,iS v.s]
def gL (x:aj):D:=.a (lift (aN x))
def qw (x:ah):D:=.a (lift (bn x))
def a7 (t:ae):D:=.a (lift (az t))
def TL (v:iL):D:=.a (lift (PG v))
def iM {α:Type} (sz:Nat) (e:α->Nat->I) (s:Sq α):D:=.c (.im (zK sz e s))
def af7 (s:ByteArray):D:=.c (.im (iS s))
def dZ (op a b c n e:Int):aj:=⟨op,a,b,c,n,⟨0,λ_=>0⟩,⟨0,0,⟨⟨[]⟩⟩⟩,⟨0,λ_=>⟨⟨[]⟩⟩⟩,⟨0,0⟩,e,false⟩
def fL (op a b c n e:Int):List C:=lift [iI op,iI a,iI b,iI c,iI n,.v (.slice none 0 0),iI 0,iI 0,iS ⟨⟨[]⟩⟩,.v (.slice none 0 0),iI 0,iI 0,iI e,iB false]
def cJ (x:I):Int:=match x with
 | .v (.int .i64 n)=>n
 | _=>0
def Vn (x:I):ByteArray:=match x with
 | .v (.string s)=>s
 | _=>⟨⟨[]⟩⟩
def WO (x:I):Bool:=match x with
 | .v (.bool b)=>b
 | _=>false
def ML {α:Type} (r:(Nat->I)->α) (x:I):Sq α:=match x with
 | .sl _ n get=>⟨n,λi=>r (get i)⟩
 | _=>⟨0,λ_=>r λ_=>.v (.bool false)⟩
def rI (g:Nat->I):Int:=cJ (g 0)
def rS (g:Nat->I):ByteArray:=Vn (g 0)
def j6 (g:Nat->I):aj:=⟨cJ (g 0),cJ (g 1),cJ (g 2),cJ (g 3),cJ (g 4),ML rI (g 5),⟨cJ (g 6),cJ (g 7),Vn (g 8)⟩,ML rS (g 9),⟨cJ (g 10),cJ (g 11)⟩,cJ (g 12),WO (g 13)⟩
def Yk (g:Nat->I):cK:=⟨cJ (g 0),cJ (g 1),ML rI (g 2)⟩
def ai1 (g:Nat->I):cG:=⟨cJ (g 0),cJ (g 1),ML rS (g 2),ML rI (g 3)⟩
def oT (g:Nat->I):ah:=⟨ML Yk (g 0),ML ai1 (g 1),cJ (g 2)⟩
def Xm (g:Nat->I):ae:=⟨⟨cJ (g 0),cJ (g 1)⟩,ML j6 (g 2),ML oT (g 3)⟩
def aG1 (g:Nat->I):iL:=⟨cJ (g 0),cJ (g 1),Vn (g 2)⟩
def cI (c:C):I:=match c with
 | .im x=>x
 | _=>.v (.bool false)
def nC (l:List C) (k:Nat):I:=match aV l k with
 | some c=>cI c
 | none=>.v (.bool false)
def gD (d:D):Nat->I:=match d with
 | .a l=>nC l
 | .c x=>λ_=>cI x
 | _=>λ_=>.v (.bool false)
def aD (ds:List D) (k:Nat):D:=match aV ds k with
 | some d=>d
 | none=>.t []
def aI (ds:List D) (k:Nat):Int:=rI (gD (aD ds k))
def aS (ds:List D) (k:Nat):ByteArray:=rS (gD (aD ds k))
def Dk (ds:List D) (k:Nat):aj:=j6 (gD (aD ds k))
def RZ (ds:List D) (k:Nat):ah:=oT (gD (aD ds k))
def fj (ds:List D) (k:Nat):ae:=Xm (gD (aD ds k))
def ag1 (ds:List D) (k:Nat):iL:=aG1 (gD (aD ds k))
def Qo (ds:List D) (k:Nat):Sq Int:=ML rI (gD (aD ds k) 0)
def I4 (ds:List D) (k:Nat):Sq ByteArray:=ML rS (gD (aD ds k) 0)
end
section
variable {T:dL} {P:Program} {f:FuncId} {ds ds':List D} {rs aJ:List ag} {d d':D}
theorem aB.le {E:Env} {av:Nat->Prop} {w:World}:∀ {ds ds':List D} {vs:List Value},aB bh ds ds'->aB (aZ E av w) ds vs->aB (aZ E av w) ds' vs
 | _,_,_,.nil,.nil=>.nil
 | _,_,_,.cons q k,.cons q' k'=>.cons (q _ _ _ _ q') (aB.le k k')
theorem bP.pre (h:bP T P f ds' rs d aJ) (hd:aB bh ds ds'):bP T P f ds rs d aJ:=
 ⟨h.out.1,λN ay w0 sp sl df a w E vs hR hv=>h.out.2 N ay w0 sp sl df a w E vs hR (aB.le hd hv)⟩
theorem bP.post (h:bP T P f ds rs d aJ) (hd:bh d d'):bP T P f ds rs d' aJ:=
 ⟨h.out.1,λN ay w0 sp sl df a w E vs hR hv=>(h.out.2 N ay w0 sp sl df a w E vs hR hv).mono λe w' ⟨v,E',h1,h2,h3,h4⟩=>⟨v,E',h1,h2,h3,hd _ _ _ _ h4⟩⟩
end
theorem aL:(∀ b:Bool,(true||b)=true)/\(∀ b:Bool,(false||b)=b)/\(∀ b:Bool,(true&&b)=b)/\(∀ b:Bool,(false&&b)=false)/\((!true)=false)/\((!false)=true)/\(∀ b:Bool,(b||true)=true)/\(∀ b:Bool,(b||false)=b)/\(∀ b:Bool,(b&&true)=b)/\(∀ b:Bool,(b&&false)=false)/\(∀ (α:Type) (a b:α),cond true a b=a)/\(∀ (α:Type) (a b:α),cond false a b=b)/\(∀ b:Bool,(!(!b))=b):=by simp
theorem rc {x:ag} {l l':List ag} (h:aB aO l l'):aB aO (x::l) (x::l'):=.cons (aO.refl _) h
theorem wk1 {sl l:aK} {t:Tmp} {d:D} (h:eJ sl t=some d) (k:Sm sl l):Sm sl ((t,d,[])::l):=⟨⟨rfl,d,h,bh.refl _⟩,k⟩
theorem aQ {m n:Nat} (h:Nat.ble m n=true):m<=n:=Nat.le_of_ble_eq_true h
def ci (n:Int):C:=.im (.v (.int .i64 n))
end Go.V
namespace Go.Proofs.Ytgbbdaegmfjahaa
open Go Go.V
abbrev LC:=bP my Try.prog
abbrev WC:=xc my Try.prog
noncomputable section
def wv (f:FuncId):Func:=match fnF f with
 | some fn=>fn
 | none=>default
def oo (f:FuncId):Code:=match (wv f).body with
 | some c=>c
 | none=>.skip
def qI (id:Nat) (c:Code):List Item->Option (List Item):=match c with
 | .region i ops d=>λk=>Bool.rec none (some (.code (.region i ops d)::k)) (Nat.beq i id)
 | .seq a b=>λk=>match qI id a (.code b::k) with
   | some l=>some l
   | none=>qI id b k
 | .cond x a b=>λk=>match qI id a k with
   | some l=>some l
   | none=>qI id b k
 | .block i a=>λk=>qI id a (.inBlock i::k)
 | .loop a=>λk=>qI id a (.inLoop a::k)
 | _=>λ_=>none
def ai (f:FuncId) (id:Nat):List Item:=match qI id (oo f) [] with
 | some l=>l
 | none=>[]
abbrev LP:=List Item->VS->Prop
def fx (X:fN) (f:FuncId) (stop:Nat->Bool) (L:LP) (Q:D->List ag->Prop) (ds:List D) (rs:List ag):Prop:=
 uP my Try.prog X hints (wv f).ntmps f none stop L (sS my (wv f).results.toList Q) 10000 false [.code (oo f)] ⟨dk 0 ds,rs,[]⟩
def cB (X:fN) (f:FuncId) (stop:Nat->Bool) (L:LP) (Q:D->List ag->Prop) (id:Nat) (s:VS):Prop:=
 uP my Try.prog X hints (wv f).ntmps f none stop L (sS my (wv f).results.toList Q) 10000 true (ai f id) s
def X0:fN:={ F:=λ_ _ _=>(.t [],[],[]) }
def cE:Nat->Bool:=λ_=>false
end
open Go Go.V
def af (f:FuncId) (n0:Nat) (Q:D->List ag->Prop) (todo:List Item) (s:VS):Prop:=
 ∀ (b:Frame) (cs:List Frame),b.fn=f->Goal Try.prog my (wv f).ntmps b cs none n0 (sS my (wv f).results.toList Q) todo s
theorem reach {X:fN} {f:FuncId} {stop:Nat->Bool} {n0:Nat} {Q:D->List ag->Prop} {todo:List Item} {s:VS} {go:Bool} {n:Nat}
  (h:uP my Try.prog X hints (wv f).ntmps f none stop (af f n0 Q) (sS my (wv f).results.toList Q) n go todo s):af f n0 Q todo s:=
 λb cs hb=>wH qi mixed hb (λ_ _ q=>q b cs hb) (λ_ _ q=>q) n h
structure Fn (f:FuncId):Prop where
 my:fnF f=some (wv f):=by kernel_rfl
 body:(wv f).body=some (oo f):=by kernel_rfl
theorem km {a b:Prop} (h:a) (e:a=b:=by kernel_rfl):b:=Eq.mp e h
theorem Pa {f:FuncId} (hf:Fn f) {ds:List D} {d:D} (hl:ds.length<=(wv f).ntmps) (h:af f 0 (bF d) [.code (oo f)] ⟨dk 0 ds,[],[]⟩):LC f ds [] d []:=by
 obtain ⟨h1,h2⟩:=A4 f _ hf.my
 exact OV qi h1 h2 hf.body hl h
theorem gZ {f:FuncId} (hf:Fn f) {ds:List D} {rs:List ag} {d:D} {aJ:List ag} (hl:ds.length<=(wv f).ntmps) (h:af f rs.length (Go.V.Ends rs d aJ) [.code (oo f)] ⟨dk 0 ds,rs,[]⟩):LC f ds rs d aJ:=by
 obtain ⟨h1,h2⟩:=A4 f _ hf.my
 exact SV qi h1 h2 hf.body hl h
noncomputable def bL (QD:D->Prop) (d1:D) (fa:List ag):Prop:=gB (dF fa d1) QD
theorem ta {X:fN} {f:FuncId} {stop:Nat->Bool} (hf:Fn f) {ds:List D} {d:D} (hl:ds.length<=(wv f).ntmps) (h:fx X f stop (af f 0 (bF d)) (bF d) ds []):LC f ds [] d []:=
 Pa hf hl (reach h)
theorem pv {X:fN} {f:FuncId} {stop:Nat->Bool} (hf:Fn f) {ds:List D} {d:D} (h:fx X f stop (af f 0 (bF d)) (bF d) ds []) (hl:ds.length<=(wv f).ntmps:=by exact aQ (by kernel_rfl)):LC f ds [] d []:=
 ta hf hl h
theorem mC {k:Nat} (h:k<9223372036854775808):IntKind.i64.wrap (k:Int)=k:=by
 have e1:(2 ^ IntKind.i64.bits:Int)=18446744073709551616:=by rfl
 have e2:(2 ^ (IntKind.i64.bits-1):Int)=9223372036854775808:=by rfl
 have e3:(k:Int)%18446744073709551616=k:=Int.emod_eq_of_lt (by omega) (by omega)
 unfold IntKind.wrap
 simp only [e1,e2,e3]
 rw [if_neg]
 simp only [dJ,decide_eq_true_eq,not_and]
 omega
theorem iV {k:Int} (h0:0<=k) (h:k<9223372036854775808):IntKind.i64.wrap k=k:=by
 obtain ⟨n,rfl⟩:=Int.eq_ofNat_of_zero_le h0
 exact mC (by omega)
end Go.Proofs.Ytgbbdaegmfjahaa
set_option linter.unusedSimpArgs false
namespace Go.Proofs.Ytgbbdaegmfjahaa
open Go Go.V
noncomputable def Jx:fN:={ F:=X0.F }
noncomputable def gh (op:Int):Int:=
 bif op==3 then
  1
 else
  bif op==5 then
   1
  else
   bif op==6 then
    1
   else
    bif op==7 then
     1
    else
     bif op==8 then
      1
     else
      bif op==10 then
       1
      else
       bif op==14 then
        1
       else
        bif op==19 then
         1
        else
         bif op==4 then
          2
         else
          bif op==9 then
           2
          else
           bif op==12 then
            2
           else
            bif op==11 then
             2
            else
             bif op==13 then
              3
             else
              0
theorem aC1 (L:LP) (QD:D->Prop) (op:Int) (h:br (op==3) (QD (int 1)) (br (op==5) (QD (int 1)) (br (op==6) (QD (int 1)) (br (op==7) (QD (int 1)) (br (op==8) (QD (int 1)) (br (op==10) (QD (int 1)) (br (op==14) (QD (int 1)) (br (op==19) (QD (int 1)) (br (op==4) (QD (int 2)) (br (op==9) (QD (int 2)) (br (op==12) (QD (int 2)) (br (op==11) (QD (int 2)) (br (op==13) (QD (int 3)) (QD (int 0))))))))))))))):fx Jx 71 cE L (bL QD) [int op] []:=km h
theorem aI7:Fn 71:={}
theorem Ae (op:Int)  : LC 71 [int op] [] (int (gh op)) []:=by
 refine pv (X:=Jx) (stop:=cE) aI7 (aC1 _ _ op ?_)
 refine aq (λh=>?_) (λh=>?_)
 .simp only [gh, *,cond_true,cond_false]; exact bh.refl _
 .refine aq (λh=>?_) (λh=>?_)
  .simp only [gh, *,cond_true,cond_false]; exact bh.refl _
  .refine aq (λh=>?_) (λh=>?_)
   .simp only [gh, *,cond_true,cond_false]; exact bh.refl _
   .refine aq (λh=>?_) (λh=>?_)
    .simp only [gh, *,cond_true,cond_false]; exact bh.refl _
    .refine aq (λh=>?_) (λh=>?_)
     .simp only [gh, *,cond_true,cond_false]; exact bh.refl _
     .refine aq (λh=>?_) (λh=>?_)
      .simp only [gh, *,cond_true,cond_false]; exact bh.refl _
      .refine aq (λh=>?_) (λh=>?_)
       .simp only [gh, *,cond_true,cond_false]; exact bh.refl _
       .refine aq (λh=>?_) (λh=>?_)
        .simp only [gh, *,cond_true,cond_false]; exact bh.refl _
        .refine aq (λh=>?_) (λh=>?_)
         .simp only [gh, *,cond_true,cond_false]; exact bh.refl _
         .refine aq (λh=>?_) (λh=>?_)
          .simp only [gh, *,cond_true,cond_false]; exact bh.refl _
          .refine aq (λh=>?_) (λh=>?_)
           .simp only [gh, *,cond_true,cond_false]; exact bh.refl _
           .refine aq (λh=>?_) (λh=>?_)
            .simp only [gh, *,cond_true,cond_false]; exact bh.refl _
            .refine aq (λh=>?_) (λh=>?_)
             .simp only [gh, *,cond_true,cond_false]; exact bh.refl _
             .simp only [gh, *,cond_true,cond_false]; exact bh.refl _
noncomputable def vT (op:Int):Bool:=
 bif op==1 then
  true
 else
  bif op==2 then
   true
  else
   bif op==3 then
    true
   else
    bif op==4 then
     true
    else
     bif op==10 then
      true
     else
      bif op==12 then
       true
      else
       bif op==14 then
        true
       else
        bif op==16 then
         true
        else
         bif op==17 then
          true
         else
          false
theorem aC5 (L:LP) (QD:D->Prop) (op:Int) (h:br (op==1) (QD (bool true)) (br (op==2) (QD (bool true)) (br (op==3) (QD (bool true)) (br (op==4) (QD (bool true)) (br (op==10) (QD (bool true)) (br (op==12) (QD (bool true)) (br (op==14) (QD (bool true)) (br (op==16) (QD (bool true)) (br (op==17) (QD (bool true)) (QD (bool false))))))))))):fx Jx 30 cE L (bL QD) [int op] []:=km h
theorem az5:Fn 30:={}
theorem au4 (op:Int)  : LC 30 [int op] [] (bool (vT op)) []:=by
 refine pv (X:=Jx) (stop:=cE) az5 (aC5 _ _ op ?_)
 refine aq (λh=>?_) (λh=>?_)
 .simp only [vT, *,cond_true,cond_false]; exact bh.refl _
 .refine aq (λh=>?_) (λh=>?_)
  .simp only [vT, *,cond_true,cond_false]; exact bh.refl _
  .refine aq (λh=>?_) (λh=>?_)
   .simp only [vT, *,cond_true,cond_false]; exact bh.refl _
   .refine aq (λh=>?_) (λh=>?_)
    .simp only [vT, *,cond_true,cond_false]; exact bh.refl _
    .refine aq (λh=>?_) (λh=>?_)
     .simp only [vT, *,cond_true,cond_false]; exact bh.refl _
     .refine aq (λh=>?_) (λh=>?_)
      .simp only [vT, *,cond_true,cond_false]; exact bh.refl _
      .refine aq (λh=>?_) (λh=>?_)
       .simp only [vT, *,cond_true,cond_false]; exact bh.refl _
       .refine aq (λh=>?_) (λh=>?_)
        .simp only [vT, *,cond_true,cond_false]; exact bh.refl _
        .refine aq (λh=>?_) (λh=>?_)
         .simp only [vT, *,cond_true,cond_false]; exact bh.refl _
         .simp only [vT, *,cond_true,cond_false]; exact bh.refl _
noncomputable def MD (op:Int):Int:=
 bif op==3 then
  1
 else
  bif op==4 then
   1
  else
   bif op==5 then
    2
   else
    bif op==6 then
     2
    else
     bif op==7 then
      2
     else
      bif op==8 then
       2
      else
       bif op==9 then
        2
       else
        bif op==15 then
         2
        else
         bif op==18 then
          2
         else
          bif op==21 then
           2
          else
           0
noncomputable def m80 (op:Int):Bool:=
 bif op==2 then
  true
 else
  bif op==3 then
   true
  else
   bif op==4 then
    true
   else
    bif op==5 then
     true
    else
     bif op==6 then
      true
     else
      bif op==7 then
       true
      else
       bif op==8 then
        true
       else
        bif op==9 then
         true
        else
         bif op==10 then
          true
         else
          bif op==12 then
           true
          else
           bif op==14 then
            true
           else
            false
noncomputable def jh (op:Int):Bool:=
 bif op==10 then
  true
 else
  (op==12)
theorem aK7 (L:LP) (QD:D->Prop) (op:Int) (h:br (op==10) (QD (bool true)) (QD (bool (op==12)))):fx Jx 31 cE L (bL QD) [int op] []:=km h
theorem aD2:Fn 31:={}
theorem zc (op:Int)  : LC 31 [int op] [] (bool (jh op)) []:=by
 refine pv (X:=Jx) (stop:=cE) aD2 (aK7 _ _ op ?_)
 refine aq (λh=>?_) (λh=>?_)
 .simp only [jh, *,cond_true,cond_false]; exact bh.refl _
 .simp only [jh, *,cond_true,cond_false]; exact bh.refl _
noncomputable def ea (op:Int):Bool:=
 bif op==11 then
  true
 else
  (op==13)
theorem ap1 (L:LP) (QD:D->Prop) (op:Int) (h:br (op==11) (QD (bool true)) (QD (bool (op==13)))):fx Jx 36 cE L (bL QD) [int op] []:=km h
theorem ae9:Fn 36:={}
theorem tX (op:Int)  : LC 36 [int op] [] (bool (ea op)) []:=by
 refine pv (X:=Jx) (stop:=cE) ae9 (ap1 _ _ op ?_)
 refine aq (λh=>?_) (λh=>?_)
 .simp only [ea, *,cond_true,cond_false]; exact bh.refl _
 .simp only [ea, *,cond_true,cond_false]; exact bh.refl _
noncomputable def hJ (op:Int):Bool:=
 bif op==10 then
  true
 else
  (op==11)
theorem am8 (L:LP) (QD:D->Prop) (op:Int) (h:br (op==10) (QD (bool true)) (QD (bool (op==11)))):fx Jx 40 cE L (bL QD) [int op] []:=km h
theorem at4:Fn 40:={}
theorem BF (op:Int)  : LC 40 [int op] [] (bool (hJ op)) []:=by
 refine pv (X:=Jx) (stop:=cE) at4 (am8 _ _ op ?_)
 refine aq (λh=>?_) (λh=>?_)
 .simp only [hJ, *,cond_true,cond_false]; exact bh.refl _
 .simp only [hJ, *,cond_true,cond_false]; exact bh.refl _
noncomputable def aE3 (op:Int):Bool:=
 bif op==10 then
  true
 else
  (op==11)
noncomputable def gI (n low high:Int):Bool:=
 bif decide (n≥low) then
  (decide (n<=high))
 else
  false
noncomputable def dY (a m:Int):Int:=
 bif decide (a.tmod m<0) then
  (IntKind.i64.wrap (a.tmod m+m))
 else
  (a.tmod m)
theorem aI9 (L:LP) (QD:D->Prop) (a m:Int) (h:nd (!m==0) (br (decide (a.tmod m<0)) (QD (int (IntKind.i64.wrap (a.tmod m+m)))) (QD (int (a.tmod m))))):fx Jx 23 cE L (bL QD) [int a,int m] []:=km h
theorem aA8:Fn 23:={}
theorem jP (a m:Int) (hm:m≠0):LC 23 [int a,int m] [] (int (dY a m)) []:=by
 refine pv (X:=Jx) (stop:=cE) aA8 (aI9 _ _ a m ?_)
 refine aC (by simp [hm]) ?_
 refine aq (λh=>?_) (λh=>?_)
 .simp only [dY, *,cond_true,cond_false]; exact bh.refl _
 .simp only [dY, *,cond_true,cond_false]; exact bh.refl _
noncomputable def R3 (x:aj):Bool:=
 (x.1 != 1)
theorem aF4 (L:LP) (QD:D->Prop) (x:aj) (h:QD (bool (x.1 != 1))):fx Jx 47 cE L (bL QD) [gL x] []:=km h
theorem ax8:Fn 47:={}
theorem am6 (x:aj)  : LC 47 [gL x] [] (bool (R3 x)) []:=by
 refine pv (X:=Jx) (stop:=cE) ax8 (aF4 _ _ x ?_)
 simp only [R3, *,cond_true,cond_false]; exact bh.refl _
noncomputable def F1L:List (Nat×(List D->List ag->Out)):=[
 (71,λds rs=>(int (gh (aI ds 0)),[],[])),
 (30,λds rs=>(bool (vT (aI ds 0)),[],[])),
 (31,λds rs=>(bool (jh (aI ds 0)),[],[])),
 (36,λds rs=>(bool (ea (aI ds 0)),[],[])),
 (40,λds rs=>(bool (hJ (aI ds 0)),[],[])),
 (23,λds rs=>(int (dY (aI ds 0) (aI ds 1)),[],[])),
 (47,λds rs=>(bool (R3 (Dk ds 0)),[],[]))]
noncomputable def F1:FuncId->List D->List ag->Out:=λf ds rs=>match findF f F1L with
 | some g=>g ds rs
 | none=>X0.F f ds rs
open Go Go.V
theorem aF {X:fN} {f:FuncId} {stop:Nat->Bool} {n0:Nat} {Q:D->List ag->Prop} {id:Nat} {s:VS} (h:cB X f stop (af f n0 Q) Q id s):af f n0 Q (ai f id) s:=reach h
theorem dc {X:fN} {f:FuncId} {stop:Nat->Bool} {n0:Nat} {Q:D->List ag->Prop} {ds:List D} {rs:List ag} (h:fx X f stop (af f n0 Q) Q ds rs):af f n0 Q [.code (oo f)] ⟨dk 0 ds,rs,[]⟩:=reach h
theorem aR {X:fN} {f:FuncId} {stop:Nat->Bool} {n0:Nat} {d:D} {id:Nat} {s:VS} (h:cB X f stop (af f n0 (bF d)) (bL λd2=>bh d2 d) id s):af f n0 (bF d) (ai f id) s:=reach h
theorem Fn.enters {f:FuncId} (hf:Fn f):V.Enters Try.prog f:=by
 obtain ⟨h1,h2⟩:=A4 f _ hf.my
 exact ⟨_,h1,h2,by simp [hf.body]⟩
theorem bP.with {f:FuncId} (hf:Fn f) {ds:List D} {rs aJ:List ag} {d:D} {p:Prop} (hp:∀ (E:Env) (av:Nat->Prop) (w:World) (vs:List Value),aB (aZ E av w) ds vs->p) (h:p->LC f ds rs d aJ):LC f ds rs d aJ:=
 ⟨hf.enters,λN ay w0 sp sl df a w E vs hR hv=>(h (hp _ _ _ _ hv)).out.2 N ay w0 sp sl df a w E vs hR hv⟩
theorem qy {α:Type} {E:Env} {av:Nat->Prop} {w:World} {sz:Nat} {e:α->Nat->I} {x:Sq α} {v:Value} (h:aZ E av w (iM sz e x) v):x.n<=maxLen:=by
 obtain ⟨_,_,_,_,h,_⟩:=h
 exact h
theorem af.le {f:FuncId} {n0:Nat} {Q:D->List ag->Prop} {todo:List Item} {s:VS} (s':VS) (h1:Sm s.sl s'.sl) (h2:aB aO s.rs s'.rs) (h3:s'.df=s.df) (g:af f n0 Q todo s'):af f n0 Q todo s:=
 λb cs hb=>Goal.le h1 h2 h3 (g b cs hb)
theorem af.KB {f:FuncId} {n0:Nat} {Q:D->List ag->Prop} {todo:List Item} {s:VS} (t el sz:Nat) (ht:eJ s.sl t=some (.c (.im (.v (.slice none 0 0))))) (g:af f n0 Q todo (Ig t el sz s)):af f n0 Q todo s:=
 λb cs hb=>Goal.KB ht (g b cs hb)
theorem af.hX {f:FuncId} {n0:Nat} {Q:D->List ag->Prop} {todo:List Item} {s:VS} (r j el sz:Nat) (l:List C) (hr:aV s.rs r=some (.box l)) (hj:aV l j=some (.im (.v (.slice none 0 0)))) (g:af f n0 Q todo (Nh r j el sz l s)):af f n0 Q todo s:=
 λb cs hb=>Goal.hX hr hj (g b cs hb)
theorem af.freeze {f:FuncId} {n0:Nat} {Q:D->List ag->Prop} {todo:List Item} {s s':VS} (r:Nat) (h:Go.V.freeze r s=some s') (g:af f n0 Q todo s'):af f n0 Q todo s:=
 λb cs hb=>Goal.freeze h (g b cs hb)
theorem af.lf {f:FuncId} {n0:Nat} {Q:D->List ag->Prop} {todo:List Item} {s:VS} (s':VS) (h2:aB aO s.rs s'.rs) (g:af f n0 Q todo s') (h1:Sm s.sl s'.sl:=by repeat' (first|exact trivial|refine wk1 rfl ?_)) (h3:s'.df=s.df:=by rfl):af f n0 Q todo s:=af.le s' h1 h2 h3 g
theorem rr:∀ l:List ag,aB aO l l
 | []=>.nil
 | x::l=>rc (rr l)
theorem af.lr {f:FuncId} {n0:Nat} {Q:D->List ag->Prop} {todo:List Item} {s:VS} (s':VS) (g:af f n0 Q todo s') (h1:Sm s.sl s'.sl:=by repeat' (first|exact trivial|refine wk1 rfl ?_)) (h2:aB aO s.rs s'.rs:=by exact rr _) (h3:s'.df=s.df:=by rfl):af f n0 Q todo s:=af.le s' h1 h2 h3 g
theorem af.rename {f:FuncId} {n0:Nat} {Q:D->List ag->Prop} {todo:List Item} {s s':VS} (π:List Nat) (h:Rs n0 π s=some s') (g:af f n0 Q todo s'):af f n0 Q todo s:=
 λb cs hb=>Goal.rename π h (g b cs hb)
theorem aU {n:Nat} {G:Nat->Prop} (step:∀ k,k<n->G (k+1)->G k) (last:G n):∀ k,k<=n->G k:=by
 intro k hk
 obtain ⟨m,rfl⟩:=Nat.exists_eq_add_of_le hk
 clear hk
 induction m generalizing k with
 | zero=>exact last
 | succ m ih=>
   have e:k+(m+1)=(k+1)+m:=by omega
   exact step k (by omega) (ih (k+1) (λj hj=>step j (by omega)) (by rw [<- e]; exact last))
theorem dr {k n:Nat} (h:k<n) (hn:n<=maxLen):IntKind.i64.wrap ((k:Int)+1)=((k+1:Nat):Int):=by
 have:((k:Int)+1)=((k+1:Nat):Int):=by omega
 rw [this]
 unfold maxLen at hn
 exact mC (by omega)
theorem a8 {k n:Nat} (h:k<n):cM (k:Int) n=true:=by
 show Nat.blt k n=true
 simpa [kD] using h
theorem dec_lt {a b:Nat} (h:decide ((a:Int)<(b:Int))=false):¬ a<b:=by
 have:=of_decide_eq_false h
 omega
def iR (p:Nat->Bool):Nat->Nat->Int
 | 0,_ => -1
 | m+1,k=>bif p k then (k:Int) else iR p m (k+1)
def oc (p:Nat->Bool) (n:Nat):Int:=iR p n 0
def Ak (p:Nat->Bool):Nat->Nat->Nat
 | 0,k=>k
 | m+1,k=>bif p k then k else Ak p m (k+1)
theorem Kc {p:Nat->Bool}:∀ {m k:Nat},(bif decide (iR p m k<0) then ((k+m:Nat):Int) else iR p m k)=(Ak p m k:Int)
 | 0,k=>by simp [iR,Ak]
 | m+1,k=>by
   cases hp:p k with
   | true=>
     have:¬ ((k:Int)<0):=by omega
     simp [iR,Ak,hp,this]
   | false=>
     have:=Kc (p:=p) (m:=m) (k:=k+1)
     simp only [iR,Ak,hp,cond_false]
     rw [<- this,show k+(m+1)=k+1+m by omega]
def cn (p:Nat->Bool):Nat->Nat->Bool
 | 0,_=>true
 | m+1,k=>bif p k then cn p m (k+1) else false
def dh (p:Nat->Bool) (n:Nat):Bool:=cn p n 0
theorem xm {p:Nat->Bool}:∀ {m k:Nat},(iR p m k = -1/\∀ i,k<=i->i<k+m->p i=false)∨∃ i:Nat,iR p m k=(i:Int)/\k<=i/\i<k+m/\p i=true/\∀ j,k<=j->j<i->p j=false
 | 0,k=>.inl ⟨rfl,λi h1 h2=>by omega⟩
 | m+1,k=>by
   unfold iR
   cases hp:p k with
   | true=>exact .inr ⟨k,rfl,by omega,by omega,hp,λj h1 h2=>by omega⟩
   | false=>
     simp only [cond_false]
     rcases xm (p:=p) (m:=m) (k:=k+1) with ⟨h1,h2⟩|⟨i,h1,h2,h3,h4,h5⟩
     .refine .inl ⟨h1,λi h3 h4=>?_⟩
      by_cases e:i=k
      .subst e; exact hp
      .exact h2 i (by omega) (by omega)
     .refine .inr ⟨i,h1,by omega,by omega,h4,λj h6 h7=>?_⟩
      by_cases e:j=k
      .subst e; exact hp
      .exact h5 j (by omega) h7
theorem pU (p:Nat->Bool) (n:Nat):(oc p n = -1/\∀ i,i<n->p i=false)∨∃ i:Nat,oc p n=(i:Int)/\i<n/\p i=true/\∀ j,j<i->p j=false:=by
 rcases xm (p:=p) (m:=n) (k:=0) with ⟨h1,h2⟩|⟨i,h1,h2,h3,h4,h5⟩
 .exact .inl ⟨h1,λi hi=>h2 i (bu _) (by omega)⟩
 .exact .inr ⟨i,h1,by omega,h4,λj hj=>h5 j (bu _) hj⟩
theorem Ag {p:Nat->Bool}:∀ {m k:Nat},cn p m k=true↔∀ i,k<=i->i<k+m->p i=true
 | 0,k=>⟨λ_ i h1 h2=>by omega,λ_=>rfl⟩
 | m+1,k=>by
   unfold cn
   cases hp:p k with
   | false=>
     simp only [cond_false]
     exact ⟨λh=>by simp at h,λh=>by rw [h k (bG _) (by omega)] at hp; simp at hp⟩
   | true=>
     simp only [cond_true]
     rw [Ag]
     refine ⟨λh i h1 h2=>?_,λh i h1 h2=>h i (by omega) (by omega)⟩
     by_cases e:i=k
     .subst e; exact hp
     .exact h i (by omega) (by omega)
theorem jN {p:Nat->Bool} {n:Nat}:dh p n=true↔∀ i,i<n->p i=true:=by
 unfold dh
 rw [Ag]
 exact ⟨λh i hi=>h i (bu _) (by omega),λh i _ hi=>h i (by omega)⟩
theorem pJ {p:Nat->Bool} {m k:Nat} (h:p k=true):iR p (m+1) k=(k:Int):=by simp [iR,h]
theorem nt {p:Nat->Bool} {m k:Nat} (h:p k=false):iR p (m+1) k=iR p m (k+1):=by simp [iR,h]
theorem eN {p:Nat->Bool} {m k:Nat} (h:p k=false):cn p (m+1) k=false:=by simp [cn,h]
theorem fR {p:Nat->Bool} {m k:Nat} (h:p k=true):cn p (m+1) k=cn p m (k+1):=by simp [cn,h]
theorem int_ne (m n:Nat):((m:Int)!=(n:Int)) = !(m==n):=by
 rw [eB]
 simp
 omega
theorem int_eq (m n:Nat):((m:Int)==(n:Int))=(m==n):=by
 rw [eB]
 simp
 omega
theorem bS {n:Nat} {C:Prop} (h:decide ((n:Int)<(n:Int))=true):C:=by simp at h
def jR (a b:ByteArray):Bool:=a.toList==b.toList
theorem FB (a b:ByteArray):jR a b=jR b a:=by
 unfold jR
 rw [eB,beq_iff_eq,beq_iff_eq]
 exact eq_comm
def bU {α:Type} (e:α->α->Bool) (x y:Sq α):Bool:=(x.n==y.n)&&dh (λi=>e (x.get i) (y.get i)) x.n
open Go Go.V
noncomputable def MU:fN:={ F:=F1 }
def OX:Nat->Bool:=λi=>Nat.beq i 2
theorem am9:Fn 57:={}
abbrev fp:=Tmp×D×e5
noncomputable abbrev nj (aw:Sq Int):D:=.c (.im (.sl 1 aw.1 (λi=>bA (aw.2 i))))
noncomputable abbrev qz (aw:Sq Int):D:=int (↑aw.1:Int)
theorem aI0 (L:LP) (QD:D->Prop) (x:Sq Int) (v:Int) (h:L (ai 57 2) ⟨[(0,((nj x),[])),(1,((int v),[])),(7,((qz x),[])),(8,((int 0),[]))],[],[]⟩):fx MU 57 OX L (bL QD) [iM 1 bA x,int v] []:=km h
noncomputable def Pt (x:Sq Int) (v:Int) (k:Nat):VS:=⟨[(0,(nj x),[]),(1,(int v),[]),(7,(qz x),[]),(8,int k,[])],[],[]⟩
theorem Sg (L:LP) (QD:D->Prop) (x:Sq Int) (v:Int) (k:Nat) (h:br (decide ((↑k:Int)<(↑x.n:Int))) (nd (cM (↑k:Int) x.1) (br (v==x.2 k) (QD (int (↑k:Int))) (L (ai 57 2) ⟨[(0,((nj x),[])),(1,((int v),[])),(7,((qz x),[])),(8,((int (IntKind.i64.wrap ((↑k:Int)+1))),[]))],[],[]⟩))) (QD (int (-1)))):cB MU 57 OX L (bL QD) 2 (Pt x v k):=km h
theorem aH4 (x:Sq Int) (v:Int) (a:Int) (hx:x.n<=maxLen)  : ∀ k,k<=x.n->iR (λi=>v==x.get i) (x.n-k) k=a->af 57 0 (bF (int a)) (ai 57 2) (Pt x v k):=by
 refine aU (λk hk ih ha=>?_) (λha=>?_)
 .have e:x.n-k=(x.n-(k+1))+1:=by omega
  rw [e] at ha
  refine aR (X:=MU) (stop:=OX) (Sg _ _ x v k ?_)
  refine aq (λh=>?_) (λh=>(dec_lt h hk).elim)
  refine aC (a8 (by omega)) ?_
  refine aq (λh1=>?_) (λh1=>?_)
  .rw [pJ (p:=(λi=>v==x.get i)) (by simpa using h1)] at ha
   subst ha
   exact bh.refl _
  .rw [nt (p:=(λi=>v==x.get i)) (by simpa using h1)] at ha
   rw [dr hk hx]
   exact ih ha
 .rw [Nat.sub_self] at ha
  refine aR (X:=MU) (stop:=OX) (Sg _ _ x v _ ?_)
  refine aq (λh=>?_) (λh=>?_)
  .exact bS h
  .subst ha
   exact bh.refl _
theorem as4 (x:Sq Int) (v:Int):LC 57 [iM 1 bA x,int v] [] (int (oc (λi=>v==x.get i) x.n)) []:=
 bP.with am9 (p:=x.n<=maxLen) (λE av w vs h=>by cases h with|cons q _=>exact qy q) λhx=>
  pv (X:=MU) (stop:=OX) am9 (aI0 _ _ x v (aH4 x v _ hx 0 (bu _) rfl))
noncomputable def Ew:fN:={ F:=F1 }
def FT:Nat->Bool:=λi=>Nat.beq i 2
theorem WL:Fn 83:={}
noncomputable abbrev lN (aw:Sq ByteArray):D:=.c (.im (.sl 1 aw.1 (λi=>cw (aw.2 i))))
noncomputable abbrev nV (aw:Sq ByteArray):fp:=(0,((lN aw),[]))
noncomputable abbrev nL (aw:Sq ByteArray):D:=int (↑aw.1:Int)
theorem aq5 (L:LP) (QD:D->Prop) (x:Sq ByteArray) (v:ByteArray) (h:L (ai 83 2) ⟨[(nV x),(1,((.c (.im (.v (.string v)))),[])),(7,((nL x),[])),(8,((int 0),[]))],[],[]⟩):fx Ew 83 FT L (bL QD) [iM 1 cw x,af7 v] []:=km h
noncomputable def J1 (x:Sq ByteArray) (v:ByteArray) (k:Nat):VS:=⟨[(0,(lN x),[]),(1,(.c (.im (.v (.string v)))),[]),(7,(nL x),[]),(8,int k,[])],[],[]⟩
theorem JA (L:LP) (QD:D->Prop) (x:Sq ByteArray) (v:ByteArray) (k:Nat) (h:br (decide ((↑k:Int)<(↑x.n:Int))) (nd (cM (↑k:Int) x.1) (br (v.toList==(x.2 k).toList) (QD (int (↑k:Int))) (L (ai 83 2) ⟨[(nV x),(1,((.c (.im (.v (.string v)))),[])),(7,((nL x),[])),(8,((int (IntKind.i64.wrap ((↑k:Int)+1))),[]))],[],[]⟩))) (QD (int (-1)))):cB Ew 83 FT L (bL QD) 2 (J1 x v k):=km h
theorem al2 (x:Sq ByteArray) (v:ByteArray) (a:Int) (hx:x.n<=maxLen)  : ∀ k,k<=x.n->iR (λi=>v.toList==(x.get i).toList) (x.n-k) k=a->af 83 0 (bF (int a)) (ai 83 2) (J1 x v k):=by
 refine aU (λk hk ih ha=>?_) (λha=>?_)
 .have e:x.n-k=(x.n-(k+1))+1:=by omega
  rw [e] at ha
  refine aR (X:=Ew) (stop:=FT) (JA _ _ x v k ?_)
  refine aq (λh=>?_) (λh=>(dec_lt h hk).elim)
  refine aC (a8 (by omega)) ?_
  refine aq (λh1=>?_) (λh1=>?_)
  .rw [pJ (p:=(λi=>v.toList==(x.get i).toList)) (by simpa using h1)] at ha
   subst ha
   exact bh.refl _
  .rw [nt (p:=(λi=>v.toList==(x.get i).toList)) (by simpa using h1)] at ha
   rw [dr hk hx]
   exact ih ha
 .rw [Nat.sub_self] at ha
  refine aR (X:=Ew) (stop:=FT) (JA _ _ x v _ ?_)
  refine aq (λh=>?_) (λh=>?_)
  .exact bS h
  .subst ha
   exact bh.refl _
theorem ZE (x:Sq ByteArray) (v:ByteArray):LC 83 [iM 1 cw x,af7 v] [] (int (oc (λi=>v.toList==(x.get i).toList) x.n)) []:=
 bP.with WL (p:=x.n<=maxLen) (λE av w vs h=>by cases h with|cons q _=>exact qy q) λhx=>
  pv (X:=Ew) (stop:=FT) WL (aq5 _ _ x v (al2 x v _ hx 0 (bu _) rfl))
noncomputable def O2:fN:={ F:=F1 }
def OW:Nat->Bool:=λi=>Nat.beq i 4
theorem af5:Fn 55:={}
theorem aG3 (L:LP) (QD:D->Prop) (x y:Sq ByteArray) (h:br ((↑x.1:Int)!=(↑y.1:Int)) (QD (bool false)) (L (ai 55 4) ⟨[(nV x),(1,((lN y),[])),(12,((nL x),[])),(13,((int 0),[]))],[],[]⟩)):fx O2 55 OW L (bL QD) [iM 1 cw x,iM 1 cw y] []:=km h
noncomputable def Rq (x y:Sq ByteArray) (k:Nat):VS:=⟨[(0,(lN x),[]),(1,(lN y),[]),(12,(nL x),[]),(13,int k,[])],[],[]⟩
theorem Ps (L:LP) (QD:D->Prop) (x y:Sq ByteArray) (k:Nat) (h:br (decide ((↑k:Int)<(↑x.n:Int))) (nd (cM (↑k:Int) x.1) (nd (cM (↑k:Int) y.1) (br (!(x.2 k).toList==(y.2 k).toList) (QD (bool false)) (L (ai 55 4) ⟨[(nV x),(1,((lN y),[])),(12,((nL x),[])),(13,((int (IntKind.i64.wrap ((↑k:Int)+1))),[]))],[],[]⟩)))) (QD (bool true))):cB O2 55 OW L (bL QD) 4 (Rq x y k):=km h
theorem aG7 (x y:Sq ByteArray) (a:Bool) (hx:x.n<=maxLen) (hxy:x.n=y.n):∀ k,k<=x.n->cn (λi=>jR (x.get i) (y.get i)) (x.n-k) k=a->af 55 0 (bF (bool a)) (ai 55 4) (Rq x y k):=by
 refine aU (λk hk ih ha=>?_) (λha=>?_)
 .have e:x.n-k=(x.n-(k+1))+1:=by omega
  rw [e] at ha
  refine aR (X:=O2) (stop:=OW) (Ps _ _ x y k ?_)
  refine aq (λh=>?_) (λh=>(dec_lt h hk).elim)
  refine aC (a8 (by omega)) ?_
  refine aC (a8 (by omega)) ?_
  refine aq (λh1=>?_) (λh1=>?_)
  .rw [eN (p:=(λi=>jR (x.get i) (y.get i))) (by simpa [jR] using h1)] at ha
   subst ha
   exact bh.refl _
  .rw [fR (p:=(λi=>jR (x.get i) (y.get i))) (by simpa [jR] using h1)] at ha
   rw [dr hk hx]
   exact ih ha
 .rw [Nat.sub_self] at ha
  refine aR (X:=O2) (stop:=OW) (Ps _ _ x y _ ?_)
  refine aq (λh=>?_) (λh=>?_)
  .exact bS h
  .subst ha
   exact bh.refl _
theorem Wi (x y:Sq ByteArray):LC 55 [iM 1 cw x,iM 1 cw y] [] (bool (bU jR x y)) []:=
 bP.with af5 (p:=x.n<=maxLen) (λE av w vs h=>by cases h with|cons q _=>exact qy q) λhx=>
  pv (X:=O2) (stop:=OW) af5 (aG3 _ _ x y (by
   refine aq (λh=>?_) (λh=>?_)
   .rw [int_ne] at h
    simp only [Bool.not_eq_true'] at h
    have e:bU jR x y=false:=by simp only [bU,h,Bool.false_and]
    rw [e]; exact bh.refl _
   .rw [int_ne] at h
    simp only [Bool.not_eq_false'] at h
    have e:bU jR x y=dh (λi=>jR (x.get i) (y.get i)) x.n:=by simp only [bU,h,Bool.true_and]
    rw [e]
    exact aG7 x y _ hx (eq_of_beq h) 0 (bu _) rfl))
noncomputable def NH:fN:={ F:=F1 }
def RB:Nat->Bool:=λi=>Nat.beq i 4
theorem an6:Fn 45:={}
noncomputable abbrev yF:fp:=(5,((int 0),[]))
theorem aI2 (L:LP) (QD:D->Prop) (x y:Sq ByteArray) (h:br ((↑x.1:Int)!=(↑y.1:Int)) (QD (bool false)) (L (ai 45 4) ⟨[(nV x),(1,((lN y),[])),yF],[],[]⟩)):fx NH 45 RB L (bL QD) [iM 1 cw x,iM 1 cw y] []:=km h
noncomputable def Ox (x y:Sq ByteArray) (k:Nat):VS:=⟨[(0,(lN x),[]),(1,(lN y),[]),(5,int k,[])],[],[]⟩
theorem Pv (L:LP) (QD:D->Prop) (x y:Sq ByteArray) (k:Nat) (h:br (decide ((↑k:Int)<(↑x.n:Int))) (nd (cM (↑k:Int) x.1) (nd (cM (↑k:Int) y.1) (br (!(x.2 k).toList==(y.2 k).toList) (QD (bool false)) (L (ai 45 4) ⟨[(nV x),(1,((lN y),[])),(5,((int (IntKind.i64.wrap ((↑k:Int)+1))),[]))],[],[]⟩)))) (QD (bool true))):cB NH 45 RB L (bL QD) 4 (Ox x y k):=km h
theorem aE2 (x y:Sq ByteArray) (a:Bool) (hx:x.n<=maxLen) (hxy:x.n=y.n):∀ k,k<=x.n->cn (λi=>jR (x.get i) (y.get i)) (x.n-k) k=a->af 45 0 (bF (bool a)) (ai 45 4) (Ox x y k):=by
 refine aU (λk hk ih ha=>?_) (λha=>?_)
 .have e:x.n-k=(x.n-(k+1))+1:=by omega
  rw [e] at ha
  refine aR (X:=NH) (stop:=RB) (Pv _ _ x y k ?_)
  refine aq (λh=>?_) (λh=>(dec_lt h hk).elim)
  refine aC (a8 (by omega)) ?_
  refine aC (a8 (by omega)) ?_
  refine aq (λh1=>?_) (λh1=>?_)
  .rw [eN (p:=(λi=>jR (x.get i) (y.get i))) (by simpa [jR] using h1)] at ha
   subst ha
   exact bh.refl _
  .rw [fR (p:=(λi=>jR (x.get i) (y.get i))) (by simpa [jR] using h1)] at ha
   rw [dr hk hx]
   exact ih ha
 .rw [Nat.sub_self] at ha
  refine aR (X:=NH) (stop:=RB) (Pv _ _ x y _ ?_)
  refine aq (λh=>?_) (λh=>?_)
  .exact bS h
  .subst ha
   exact bh.refl _
theorem Xa (x y:Sq ByteArray):LC 45 [iM 1 cw x,iM 1 cw y] [] (bool (bU jR x y)) []:=
 bP.with an6 (p:=x.n<=maxLen) (λE av w vs h=>by cases h with|cons q _=>exact qy q) λhx=>
  pv (X:=NH) (stop:=RB) an6 (aI2 _ _ x y (by
   refine aq (λh=>?_) (λh=>?_)
   .rw [int_ne] at h
    simp only [Bool.not_eq_true'] at h
    have e:bU jR x y=false:=by simp only [bU,h,Bool.false_and]
    rw [e]; exact bh.refl _
   .rw [int_ne] at h
    simp only [Bool.not_eq_false'] at h
    have e:bU jR x y=dh (λi=>jR (x.get i) (y.get i)) x.n:=by simp only [bU,h,Bool.true_and]
    rw [e]
    exact aE2 x y _ hx (eq_of_beq h) 0 (bu _) rfl))
noncomputable def ND:fN:={ F:=F1 }
def Qr:Nat->Bool:=λi=>Nat.beq i 4
theorem af1:Fn 44:={}
theorem aH7 (L:LP) (QD:D->Prop) (x y:Sq Int) (h:br ((↑x.1:Int)!=(↑y.1:Int)) (QD (bool false)) (L (ai 44 4) ⟨[(0,((nj x),[])),(1,((nj y),[])),yF],[],[]⟩)):fx ND 44 Qr L (bL QD) [iM 1 bA x,iM 1 bA y] []:=km h
noncomputable def N7 (x y:Sq Int) (k:Nat):VS:=⟨[(0,(nj x),[]),(1,(nj y),[]),(5,int k,[])],[],[]⟩
theorem OG (L:LP) (QD:D->Prop) (x y:Sq Int) (k:Nat) (h:br (decide ((↑k:Int)<(↑x.n:Int))) (nd (cM (↑k:Int) x.1) (nd (cM (↑k:Int) y.1) (br (x.2 k != y.2 k) (QD (bool false)) (L (ai 44 4) ⟨[(0,((nj x),[])),(1,((nj y),[])),(5,((int (IntKind.i64.wrap ((↑k:Int)+1))),[]))],[],[]⟩)))) (QD (bool true))):cB ND 44 Qr L (bL QD) 4 (N7 x y k):=km h
theorem aK6 (x y:Sq Int) (a:Bool) (hx:x.n<=maxLen) (hxy:x.n=y.n):∀ k,k<=x.n->cn (λi=>(λa b:Int=>a==b) (x.get i) (y.get i)) (x.n-k) k=a->af 44 0 (bF (bool a)) (ai 44 4) (N7 x y k):=by
 refine aU (λk hk ih ha=>?_) (λha=>?_)
 .have e:x.n-k=(x.n-(k+1))+1:=by omega
  rw [e] at ha
  refine aR (X:=ND) (stop:=Qr) (OG _ _ x y k ?_)
  refine aq (λh=>?_) (λh=>(dec_lt h hk).elim)
  refine aC (a8 (by omega)) ?_
  refine aC (a8 (by omega)) ?_
  refine aq (λh1=>?_) (λh1=>?_)
  .rw [eN (p:=(λi=>(λa b:Int=>a==b) (x.get i) (y.get i))) (by simpa [jR] using h1)] at ha
   subst ha
   exact bh.refl _
  .rw [fR (p:=(λi=>(λa b:Int=>a==b) (x.get i) (y.get i))) (by simpa [jR] using h1)] at ha
   rw [dr hk hx]
   exact ih ha
 .rw [Nat.sub_self] at ha
  refine aR (X:=ND) (stop:=Qr) (OG _ _ x y _ ?_)
  refine aq (λh=>?_) (λh=>?_)
  .exact bS h
  .subst ha
   exact bh.refl _
theorem Ou (x y:Sq Int):LC 44 [iM 1 bA x,iM 1 bA y] [] (bool (bU (λa b:Int=>a==b) x y)) []:=
 bP.with af1 (p:=x.n<=maxLen) (λE av w vs h=>by cases h with|cons q _=>exact qy q) λhx=>
  pv (X:=ND) (stop:=Qr) af1 (aH7 _ _ x y (by
   refine aq (λh=>?_) (λh=>?_)
   .rw [int_ne] at h
    simp only [Bool.not_eq_true'] at h
    have e:bU (λa b:Int=>a==b) x y=false:=by simp only [bU,h,Bool.false_and]
    rw [e]; exact bh.refl _
   .rw [int_ne] at h
    simp only [Bool.not_eq_false'] at h
    have e:bU (λa b:Int=>a==b) x y=dh (λi=>(λa b:Int=>a==b) (x.get i) (y.get i)) x.n:=by simp only [bU,h,Bool.true_and]
    rw [e]
    exact aK6 x y _ hx (eq_of_beq h) 0 (bu _) rfl))
end Go.Proofs.Ytgbbdaegmfjahaa
namespace Go.Proofs
open Go.Shelf
open Go.RowKit Go.Lib in
open Go.RowKit Go.Lib in
def Try.C9:Go.Shelf.Ren:=⟨λ|17=>85|15=>89|20=>92|n=>n,λ|9=>9|23=>132|4=>4|3=>3|0=>0|21=>21|n=>n,λ|n=>n⟩
theorem Try.Sj:Go.Proofs.LaysGw.n17 Try.prog Try.C9:={
 mixed:=by kernel_rfl
 f15:=Try.func89.trans (congrArg some (by kernel_rfl))
 f17:=Try.func85.trans (congrArg some (by kernel_rfl))
 f20:=Try.func92.trans (congrArg some (by kernel_rfl))
 t0:=Try.underlying0
 a0:=Try.isAgg0
 z0:=Try.sizeOf0
 v0:=Try.zeroValue0
 i0:=by kernel_rfl
 t3:=Try.underlying3
 a3:=Try.isAgg3
 z3:=Try.sizeOf3
 v3:=Try.zeroValue3
 i3:=by kernel_rfl
 t4:=Try.underlying4
 a4:=Try.isAgg4
 z4:=Try.sizeOf4
 v4:=Try.zeroValue4
 i4:=by kernel_rfl
 t9:=Try.underlying9
 a9:=Try.isAgg9
 z9:=Try.sizeOf9
 v9:=Try.zeroValue9
 i9:=by kernel_rfl
 t21:=Try.underlying21
 a21:=Try.isAgg21
 z21:=Try.sizeOf21
 v21:=Try.zeroValue21
 i21:=by kernel_rfl
 t23:=Try.underlying132
 a23:=Try.isAgg132
 z23:=Try.sizeOf132
 v23:=Try.zeroValue132
 i23:=by kernel_rfl }
open Go.RowKit Go.Lib in
theorem Try.strings_ContainsFunc (g:Nat) (lb:Array Value) (eg:∀ args w,(callFunc g args).run Try.prog w=.ok (.enter g args) w) (p:Nat->Bool) (s:ByteArray) (w:World) (hp:PredAt Try.prog g lb encR p w) :
  Calls Try.prog 85 #[.string s,.func (.func g) #[] lb] w λe w'=>e=.returned (.bool (decide (0<=Lib.idxFunc p true s)))/\Below w.heap.size w w':=Any.strings_ContainsFunc Try.Sj g lb eg p s w hp
end Go.Proofs
namespace Go.Proofs.Ytgbbdaegmfjahaa
open Go Go.RowKit
def wE (r:Nat):Bool:=decide ((r:Int)<32)||decide ((r:Int)>126)
theorem aa0 (w:World):PredAt Try.prog 86 #[] encR wE w:=λW r _=>by
 unfold FnGives
 unfold wE
 by_cases h1:(r:Int)<32<;>by_cases h2:(r:Int)>126
 all_goals
  go_enter Try.func86,Try.ntmps86
  go_wp2
  all_goals first|(exfalso; omega)|(go_ret; exact ⟨by simp [h1,h2],0,rfl⟩)
def odd (s:ByteArray):Bool:=decide (0<=Lib.idxFunc wE true s)
theorem fz {a b:Bool} (h:a=b):Ending.returned (.bool a)=.returned (.bool b):=by rw [h]
def KI (kind n:Int):Bool:=if kind=0∨kind=1 then decide (n=0) else if kind=2 then decide (0<=n/\n<=1) else if kind=3 then decide (-1000000000000000<=n/\n<=1000000000000000)
 else if kind=5 then decide (0<=n/\n<=1000000000) else if kind=6 then decide (0<=n/\n<=23) else false
def gz (kind n:Int) (s:ByteArray):Bool:=if kind=4 then (decide (n=0)&&(decide (s.size<=200) && !odd s)) else (decide (s.toList=[])&&KI kind n)
set_option maxHeartbeats 4000000 in
theorem OQ (kind n:Int) (s:ByteArray) (w:World):Calls Try.prog 74 #[.agg #[.int .i64 kind,.int .i64 n,.string s]] w λe w'=>e=.returned (.bool (gz kind n s))/\Below w.heap.size w w':=by
 have hC:∀ W,Calls Try.prog 85 #[.string s,.func (.func 86) #[] #[]] W λe w'=>e=.returned (.bool (odd s))/\Below W.heap.size W w':=λW=>Try.strings_ContainsFunc 86 #[] (enters_of Try.func86 (by kernel_rfl) rfl) wE s W (aa0 W)
 by_cases k4:kind=4
 .subst k4
  obtain ⟨o,ho⟩:∃ o,odd s=o:=⟨_,rfl⟩
  have hv:gz 4 n s=(decide (n=0)&&(decide (s.size<=200) && !o)):=by simp [gz,ho]
  rw [hv]
  simp only [ho] at hC
  clear hv
  by_cases hn:n=0
  .subst hn
   by_cases h2:(s.size:Int)<=200
   .have hd:decide (s.size<=200)=true:=by simp; omega
    rw [hd]
    clear hd ho
    cases o
    all_goals
     go_enter Try.func74,Try.ntmps74
     go_wp2_with (go_at_call 85; refine (hC _).mono ?_; rintro e w' ⟨rfl,hb⟩; have hb1:w'.cell? ⟨w.heap.size,1,none⟩=some (.int .i64 0):=(hb.cell (p:=⟨w.heap.size,1,none⟩) (by simp)).trans (by simp); have hb2:w'.cell? ⟨w.heap.size,2,none⟩=some (.string s):=(hb.cell (p:=⟨w.heap.size,2,none⟩) (by simp)).trans (by simp))
     go_ret
     exact ⟨rfl,((Below.refl _ w).alloc (bG _) _).trans (hb.mono (by simp))⟩
   .have hd:decide (s.size<=200)=false:=by simp; omega
    rw [hd]
    clear hd ho
    go_enter Try.func74,Try.ntmps74
    go_wp2_with (go_at_call 85; refine (hC _).mono ?_; rintro e w' ⟨rfl,hb⟩; have hb1:w'.cell? ⟨w.heap.size,1,none⟩=some (.int .i64 0):=(hb.cell (p:=⟨w.heap.size,1,none⟩) (by simp)).trans (by simp); have hb2:w'.cell? ⟨w.heap.size,2,none⟩=some (.string s):=(hb.cell (p:=⟨w.heap.size,2,none⟩) (by simp)).trans (by simp))
    go_ret
    exact ⟨rfl,((Below.refl _ w).alloc (bG _) _).trans (hb.mono (by simp))⟩
  .have hd:decide (n=0)=false:=by simpa using hn
   rw [hd]
   clear hd ho
   go_enter Try.func74,Try.ntmps74
   go_wp2_with (go_at_call 85; refine (hC _).mono ?_; rintro e w' ⟨rfl,hb⟩; have hb1:w'.cell? ⟨w.heap.size,1,none⟩=some (.int .i64 n):=(hb.cell (p:=⟨w.heap.size,1,none⟩) (by simp)).trans (by simp); have hb2:w'.cell? ⟨w.heap.size,2,none⟩=some (.string s):=(hb.cell (p:=⟨w.heap.size,2,none⟩) (by simp)).trans (by simp))
   go_ret
   exact ⟨rfl,((Below.refl _ w).alloc (bG _) _).trans (hb.mono (by simp))⟩
 clear hC
 by_cases k0:kind=0
 .subst k0
  by_cases hs:s.toList=[]<;>by_cases h1:0<=n<;>by_cases h2:n<=0
  all_goals first
  | (exfalso; omega)
  | (go_enter Try.func74,Try.ntmps74
     go_wp2
     go_ret
     exact ⟨by first|(refine fz ?_; simp [gz,KI,hs]; done)|(refine fz ?_; simp [gz,KI,hs]; omega),(Below.refl _ w).alloc (bG _) _⟩)
 by_cases k1:kind=1
 .subst k1
  by_cases hs:s.toList=[]<;>by_cases h1:0<=n<;>by_cases h2:n<=0
  all_goals first
  | (exfalso; omega)
  | (go_enter Try.func74,Try.ntmps74
     go_wp2
     go_ret
     exact ⟨by first|(refine fz ?_; simp [gz,KI,hs]; done)|(refine fz ?_; simp [gz,KI,hs]; omega),(Below.refl _ w).alloc (bG _) _⟩)
 by_cases k2:kind=2
 .subst k2
  by_cases hs:s.toList=[]<;>by_cases h1:0<=n<;>by_cases h2:n<=1
  all_goals first
  | (exfalso; omega)
  | (go_enter Try.func74,Try.ntmps74
     go_wp2
     go_ret
     exact ⟨by first|(refine fz ?_; simp [gz,KI,hs]; done)|(refine fz ?_; simp [gz,KI,hs]; omega),(Below.refl _ w).alloc (bG _) _⟩)
 by_cases k3:kind=3
 .subst k3
  by_cases hs:s.toList=[]<;>by_cases h1 : -1000000000000000<=n<;>by_cases h2:n<=1000000000000000
  all_goals first
  | (exfalso; omega)
  | (go_enter Try.func74,Try.ntmps74
     go_wp2
     go_ret
     exact ⟨by first|(refine fz ?_; simp [gz,KI,hs]; done)|(refine fz ?_; simp [gz,KI,hs]; omega),(Below.refl _ w).alloc (bG _) _⟩)
 by_cases k5:kind=5
 .subst k5
  by_cases hs:s.toList=[]<;>by_cases h1:0<=n<;>by_cases h2:n<=1000000000
  all_goals first
  | (exfalso; omega)
  | (go_enter Try.func74,Try.ntmps74
     go_wp2
     go_ret
     exact ⟨by first|(refine fz ?_; simp [gz,KI,hs]; done)|(refine fz ?_; simp [gz,KI,hs]; omega),(Below.refl _ w).alloc (bG _) _⟩)
 by_cases k6:kind=6
 .subst k6
  by_cases hs:s.toList=[]<;>by_cases h1:0<=n<;>by_cases h2:n<=23
  all_goals first
  | (exfalso; omega)
  | (go_enter Try.func74,Try.ntmps74
     go_wp2
     go_ret
     exact ⟨by first|(refine fz ?_; simp [gz,KI,hs]; done)|(refine fz ?_; simp [gz,KI,hs]; omega),(Below.refl _ w).alloc (bG _) _⟩)
 go_enter Try.func74,Try.ntmps74
 go_wp2
 go_ret
 exact ⟨by refine fz ?_; simp [gz,KI,k0,k1,k2,k3,k4,k5,k6],(Below.refl _ w).alloc (bG _) _⟩
open Go Go.V
theorem Uo {E:Env} {av:Nat->Prop} {w:World} {v:iL} {x:Value} (h:aZ E av w (TL v) x):x=.agg #[.int .i64 v.kind,.int .i64 v.n,.string v.s]:=by
 obtain ⟨⟨l⟩,rfl,h⟩:=h
 cases h with
 | cons h1 h=>cases h with
   | cons h2 h=>cases h with
     | cons h3 h=>cases h with
       | nil=>rw [h1.1,h2.1,h3.1]
theorem aj9:Fn 74:={}
noncomputable def yO (v:iL):Bool:=gz v.kind v.n v.s
theorem Zj (v:iL):LC 74 [TL v] [] (bool (yO v)) []:=
 ⟨aj9.enters,λN ay w0 sp sl df a w E vs hR hv=>by
  cases hv with
  | cons q k=>
    cases k
    rw [Uo q]
    refine (OQ v.kind v.n v.s w).mono ?_
    rintro en w' ⟨rfl,hb⟩
    exact ⟨_,E,rfl,Kept.refl E,hR.grown hb,rfl,rfl⟩⟩
noncomputable def F2L:List (Nat×(List D->List ag->Out)):=[
 (57,λds rs=>(int (oc (λi=>aI ds 1==(Qo ds 0).get i) (Qo ds 0).n),[],[])),
 (83,λds rs=>(int (oc (λi=>(aS ds 1).toList==((I4 ds 0).get i).toList) (I4 ds 0).n),[],[])),
 (55,λds rs=>(bool (bU jR (I4 ds 0) (I4 ds 1)),[],[])),
 (45,λds rs=>(bool (bU jR (I4 ds 0) (I4 ds 1)),[],[])),
 (44,λds rs=>(bool (bU (λa b:Int=>a==b) (Qo ds 0) (Qo ds 1)),[],[])),
 (74,λds rs=>(bool (yO (ag1 ds 0)),[],[]))]
noncomputable def F2:FuncId->List D->List ag->Out:=λf ds rs=>match findF f F2L with
 | some g=>g ds rs
 | none=>F1 f ds rs
abbrev xQ:=List (Nat×(List D->List ag->Out))
noncomputable def ext (F:FuncId->List D->List ag->Out) (l:xQ):FuncId->List D->List ag->Out:=λf ds rs=>match findF f l with
 | some g=>g ds rs
 | none=>F f ds rs
def nH (v:Int) (x:Sq Int):Bool:=decide (oc (λi=>v==x.get i) x.n≥0)
def eD (v:Int):List Int->Bool
 | []=>false
 | y::l=>(v==y)||eD v l
theorem EU {v:Int}:∀ {l:List Int},eD v l=true↔v∈l
 | []=>by simp [eD]
 | y::l=>by simp [eD,EU]
theorem OZ {v:Int} {x:Sq Int}:nH v x=true↔∃ i,i<x.n/\v=x.get i:=by
 unfold nH
 rcases pU (λi=>v==x.get i) x.n with ⟨h1,h2⟩|⟨i,h1,h2,h3,_⟩
 .rw [h1]
  constructor
  .intro h; simp at h
  .rintro ⟨i,hi,e⟩
   have:=h2 i hi
   simp [e] at this
 .rw [h1]
  constructor
  .intro _; exact ⟨i,h2,by simpa using h3⟩
  .intro _; simp
theorem Qy {v:Int} {x:Sq Int} (l:List Int) (hn:x.n=l.length) (h:∀ i,i<l.length->x.get i=l.getD i 0):nH v x=eD v l:=by
 rw [eB,OZ,EU]
 constructor
 .rintro ⟨i,hi,e⟩
  rw [hn] at hi
  rw [e,h i hi,List.getD_eq_getElem?_getD,eK hi]
  simp
 .intro hm
  obtain ⟨i,hi,e⟩:=List.getElem_of_mem hm
  refine ⟨i,by omega,?_⟩
  rw [h i hi,List.getD_eq_getElem?_getD,eK hi,<- e]
  simp
theorem Wt {n sz:Nat} {get get':Nat->Nat->I} (h:∀ i,i<n->∀ j,j<sz->cH (get i j) (get' i j)):bh (.c (.im (.sl sz n get))) (.c (.im (.sl sz n get'))):=by
 rintro E av w v ⟨a,cap,rfl,h1,h2,h3⟩
 refine ⟨a,cap,rfl,h1,h2,λh0=>?_⟩
 obtain ⟨ad,h4,h5,h6,h7,h8⟩:=h3 h0
 refine ⟨ad,h4,h5,h6,h7,λi hi j hj=>?_⟩
 obtain ⟨x,h9,qj⟩:=h8 i hi j hj
 exact ⟨x,h9,h i hi j hj _ _ _ qj⟩
theorem YJ {n:Nat} {get:Nat->Nat->I} (h:∀ i,i<n->∃ m,get i 0=iI m):bh (.c (.im (.sl 1 n get))) (iM 1 bA ⟨n,λi=>rI (get i)⟩):=
 Wt λi hi j hj=>by
  obtain ⟨m,e⟩:=h i hi
  have hj0:j=0:=by omega
  subst hj0
  show cH (get i 0) (iI (cJ (get i 0)))
  rw [e]
  exact cH.refl _
theorem sk {q:Nat}:∀ {l:List Int},q<l.length->iv (l.map iI) q=iI (l.getD q 0)
 | [],h=>by simp at h
 | y::l,h=>by
   cases q with
   | zero=>rfl
   | succ q=>exact sk (q:=q) (l:=l) (by simpa using h)
theorem Ic (l:List Int):bh (.c (.im (.sl 1 l.length (flat 1 (l.map iI))))) (iM 1 bA ⟨l.length,λi=>rI (flat 1 (l.map iI) i)⟩):=
 YJ λi hi=>⟨_,by show iv (l.map iI) (i*1+0)=_; rw [Nat.mul_one]; exact sk hi⟩
theorem BJ (v:Int) (l:List Int):nH v ⟨l.length,λi=>rI (flat 1 (l.map iI) i)⟩=eD v l:=
 Qy l rfl λi hi=>by
  show cJ (iv (l.map iI) (i*1+0))=_
  rw [Nat.mul_one,Nat.add_zero,sk hi]; rfl
theorem Yq {f:FuncId} {a a':D} {l:List D} {rs aJ:List ag} {d:D} (h:bh a a') (k:LC f (a'::l) rs d aJ):LC f (a::l) rs d aJ:=
 bP.pre k (.cons h (allRefl l))
where allRefl:∀ l:List D,aB bh l l
 | []=>.nil
 | _::l=>.cons (bh.refl _) (allRefl l)
open Go Go.V
noncomputable def bz (x:aj):Sq Int:=bif x.op==20 then x.args else ⟨(gh x.op).toNat,λi=>[x.a,x.b,x.c].getD i 0⟩
noncomputable def MB (x:Sq aj):Int:=oc (λi=>R3 (x.get i)) x.n
noncomputable def nG (x:Sq aj):Nat:=Ak (λi=>R3 (x.get i)) x.n 0
def sU (op:Int):Bool:=eD op [5,6,7,8,9,15,18,21]||(op==3||op==4)
noncomputable def iq (v:iL):Bool:=yO v&&(v.kind != 0 && v.kind != 5)
noncomputable def G3:ByteArray:=ByteArray.mk #[]
noncomputable def vD (x:Sq ByteArray) (k:Nat):Bool := !jR (x.get k) G3&&(oc (λi=>jR (x.get i) (x.get k)) x.n==(k:Int))
noncomputable def lG (x:Sq ByteArray):Bool:=dh (vD x) x.n&&decide ((x.n:Int)<=64)
noncomputable def gu (op:Int):Int×Int:=
 bif op==3 then (3,4) else bif op==4 then (5,14) else bif op==5 then (0,1) else bif op==6 then (1,6) else bif op==10 then (0,63) else bif op==11 then (0,63) else bif op==15 then (0,600) else bif op==18 then (1,200)
 else bif op==7 then (0,9223372036854775807) else bif op==16 then (0,9223372036854775807) else bif op==17 then (0,9223372036854775807) else (0,0)
def Wh (x:Int×Int):D:=.t [(false,[.im (iI x.1)]),(false,[.im (iI x.2)])]
noncomputable def F3L:xQ:=[
 (35,λds rs=>(bool (nH (aI ds 1) (Qo ds 0)),[],[])),
 (65,λds rs=>(bool (eD (aI ds 0) [1,2,3,4,10,12,14,16,17]),[],[])),
 (51,λds rs=>(bool (eD (aI ds 0) [5,6,7,8,9,15,18,21]),[],[])),
 (49,λds rs=>(bool (eD (aI ds 0) [2,3,4,5,6,7,8,9,10,12,14]),[],[])),
 (46,λds rs=>(int (MB (ML j6 (gD (aD ds 0) 0))),[],[])),
 (50,λds rs=>(bool (sU (aI ds 0)),[],[])),
 (27,λds rs=>(int (nG (fj ds 0).ins),[],[])),
 (64,λds rs=>(bool (iq (ag1 ds 0)),[],[])),
 (70,λds rs=>(Wh (gu (aI ds 0)),[],[])),
 (72,λds rs=>(bool (lG (I4 ds 0)),[],[])),
 (52,λds rs=>(iM 1 bA (bz (Dk ds 0)),[],[]))]
noncomputable def F3:=ext F2 F3L
noncomputable def W6 (j:Int):fN:={ F:=ext F2 [(71,λds rs=>(int j,[],[]))] }
noncomputable def ac9:fN:={ F:=F3 }
def al5:Nat->Bool:=cE
theorem aD8:Fn 35:={}
theorem aK4 (L:LP) (QD:D->Prop) (x:Sq Int) (v:Int) (h:(LC 57 [(nj x),(int v)] [] (int (oc (λi=>v==x.2 i) x.1)) []/\QD (bool (decide (oc (λi=>v==x.2 i) x.1≥0))))):fx ac9 35 al5 L (bL QD) [iM 1 bA x,int v] []:=km h
theorem Eo (x:Sq Int) (v:Int):LC 35 [iM 1 bA x,int v] [] (bool (nH v x)) []:=
 pv (X:=ac9) (stop:=al5) aD8 (aK4 _ _ x v ⟨as4 _ _,bh.refl _⟩)
noncomputable def V7:fN:={ F:=F3 }
def W9:Nat->Bool:=cE
theorem ae8:Fn 65:={}
noncomputable abbrev Wj (aw:Int):D:=bool (nH aw { n:=9,get:=λi=>rI (flat 1 [I.v (Value.int IntKind.i64 1),I.v (Value.int IntKind.i64 2),I.v (Value.int IntKind.i64 3),I.v (Value.int IntKind.i64 4),I.v (Value.int IntKind.i64 10),I.v (Value.int IntKind.i64 12),I.v (Value.int IntKind.i64 14),I.v (Value.int IntKind.i64 16),I.v (Value.int IntKind.i64 17)] i) })
theorem ak0 (L:LP) (QD:D->Prop) (op:Int) (h:(LC 35 [(.c (.im (.sl 1 9 (flat 1 [I.v (Value.int IntKind.i64 1),I.v (Value.int IntKind.i64 2),I.v (Value.int IntKind.i64 3),I.v (Value.int IntKind.i64 4),I.v (Value.int IntKind.i64 10),I.v (Value.int IntKind.i64 12),I.v (Value.int IntKind.i64 14),I.v (Value.int IntKind.i64 16),I.v (Value.int IntKind.i64 17)])))),(int op)] [] (Wj op) []/\QD (Wj op))):fx V7 65 W9 L (bL QD) [int op] []:=km h
theorem ud (op:Int):LC 65 [int op] [] (bool (eD op [1,2,3,4,10,12,14,16,17])) []:=by
 refine pv (X:=V7) (stop:=W9) ae8 (ak0 _ _ op ⟨Yq (Ic [1,2,3,4,10,12,14,16,17]) (Eo _ _),?_⟩)
 have e:=BJ op [1,2,3,4,10,12,14,16,17]
 rw [<- e]
 exact bh.refl _
noncomputable def ap4:fN:={ F:=F3 }
def ap9:Nat->Bool:=cE
theorem aE0:Fn 51:={}
noncomputable abbrev Nz (aw:Int):D:=bool (nH aw { n:=8,get:=λi=>rI (flat 1 [I.v (Value.int IntKind.i64 5),I.v (Value.int IntKind.i64 6),I.v (Value.int IntKind.i64 7),I.v (Value.int IntKind.i64 8),I.v (Value.int IntKind.i64 9),I.v (Value.int IntKind.i64 15),I.v (Value.int IntKind.i64 18),I.v (Value.int IntKind.i64 21)] i) })
theorem aH8 (L:LP) (QD:D->Prop) (op:Int) (h:(LC 35 [(.c (.im (.sl 1 8 (flat 1 [I.v (Value.int IntKind.i64 5),I.v (Value.int IntKind.i64 6),I.v (Value.int IntKind.i64 7),I.v (Value.int IntKind.i64 8),I.v (Value.int IntKind.i64 9),I.v (Value.int IntKind.i64 15),I.v (Value.int IntKind.i64 18),I.v (Value.int IntKind.i64 21)])))),(int op)] [] (Nz op) []/\QD (Nz op))):fx ap4 51 ap9 L (bL QD) [int op] []:=km h
theorem Wo (op:Int):LC 51 [int op] [] (bool (eD op [5,6,7,8,9,15,18,21])) []:=by
 refine pv (X:=ap4) (stop:=ap9) aE0 (aH8 _ _ op ⟨Yq (Ic [5,6,7,8,9,15,18,21]) (Eo _ _),?_⟩)
 have e:=BJ op [5,6,7,8,9,15,18,21]
 rw [<- e]
 exact bh.refl _
noncomputable def af3:fN:={ F:=F3 }
def ah5:Nat->Bool:=cE
theorem aA9:Fn 49:={}
noncomputable abbrev WE (aw:Int):D:=bool (nH aw { n:=11,get:=λi=>rI (flat 1 [I.v (Value.int IntKind.i64 2),I.v (Value.int IntKind.i64 3),I.v (Value.int IntKind.i64 4),I.v (Value.int IntKind.i64 5),I.v (Value.int IntKind.i64 6),I.v (Value.int IntKind.i64 7),I.v (Value.int IntKind.i64 8),I.v (Value.int IntKind.i64 9),I.v (Value.int IntKind.i64 10),I.v (Value.int IntKind.i64 12),I.v (Value.int IntKind.i64 14)] i) })
theorem aK5 (L:LP) (QD:D->Prop) (op:Int) (h:(LC 35 [(.c (.im (.sl 1 11 (flat 1 [I.v (Value.int IntKind.i64 2),I.v (Value.int IntKind.i64 3),I.v (Value.int IntKind.i64 4),I.v (Value.int IntKind.i64 5),I.v (Value.int IntKind.i64 6),I.v (Value.int IntKind.i64 7),I.v (Value.int IntKind.i64 8),I.v (Value.int IntKind.i64 9),I.v (Value.int IntKind.i64 10),I.v (Value.int IntKind.i64 12),I.v (Value.int IntKind.i64 14)])))),(int op)] [] (WE op) []/\QD (WE op))):fx af3 49 ah5 L (bL QD) [int op] []:=km h
theorem Xb (op:Int):LC 49 [int op] [] (bool (eD op [2,3,4,5,6,7,8,9,10,12,14])) []:=by
 refine pv (X:=af3) (stop:=ah5) aA9 (aK5 _ _ op ⟨Yq (Ic [2,3,4,5,6,7,8,9,10,12,14]) (Eo _ _),?_⟩)
 have e:=BJ op [2,3,4,5,6,7,8,9,10,12,14]
 rw [<- e]
 exact bh.refl _
noncomputable def ah1:fN:={ F:=F3 }
def as3:Nat->Bool:=cE
theorem aA5:Fn 50:={}
theorem az7 (L:LP) (QD:D->Prop) (op:Int) (h:(LC 51 [(int op)] [] (bool (eD op [5,6,7,8,9,15,18,21])) []/\br (eD op [5,6,7,8,9,15,18,21]) (QD (bool true)) (br (op==3) (QD (bool true)) (QD (bool (op==4)))))):fx ah1 50 as3 L (bL QD) [int op] []:=km h
theorem al7 (op:Int):LC 50 [int op] [] (bool (sU op)) []:=by
 refine pv (X:=ah1) (stop:=as3) aA5 (az7 _ _ op ⟨Wo _,?_⟩)
 refine aq (λh=>?_) (λh=>aq (λh2=>?_) (λh2=>?_))
 .have e:sU op=true:=by simp only [sU,h,Bool.true_or]
  rw [e]; exact bh.refl _
 .have e:sU op=true:=by simp only [sU,h2,Bool.true_or,Bool.or_true]
  rw [e]; exact bh.refl _
 .have e:sU op=(op==4):=by simp only [sU,h,h2,Bool.false_or]
  rw [e]; exact bh.refl _
noncomputable def Pc:fN:={ F:=F3 }
def RV:Nat->Bool:=λi=>Nat.beq i 2
theorem an2:Fn 46:={}
noncomputable abbrev Cx (aw:Sq aj):D:=.c (.im (.sl 14 aw.1 (λi=>fT (aw.2 i))))
noncomputable abbrev eh (aw:Sq aj):D:=int (↑aw.1:Int)
theorem aH6 (L:LP) (QD:D->Prop) (x:Sq aj) (h:L (ai 46 2) ⟨[(0,((Cx x),[])),(1,((.c (.im (.fn 47 0 (λx=>I.v (Value.bool false))))),[])),(7,((eh x),[])),(8,((int 0),[]))],[],[]⟩):fx Pc 46 RV L (bL QD) [iM 14 fT x,.c (.im (.fn 47 0 λ_=>.v (.bool false)))] []:=km h
noncomputable def Rk (x:Sq aj) (k:Nat):VS:=⟨[(0,(Cx x),[]),(1,(.c (.im (.fn 47 0 (λx=>I.v (Value.bool false))))),[]),(7,(eh x),[]),(8,int k,[])],[],[]⟩
theorem Pe (L:LP) (QD:D->Prop) (x:Sq aj) (k:Nat) (h:br (decide ((↑k:Int)<(↑x.1:Int))) (nd (cM (↑k:Int) x.1) ((LC 47 [(.a (lift (aN (x.2 k))))] [] (bool (R3 (x.2 k))) []/\br (R3 (x.2 k)) (QD (int (↑k:Int))) (L (ai 46 2) ⟨[(0,((Cx x),[])),(1,((.c (.im (.fn 47 0 (λx=>I.v (Value.bool false))))),[])),(7,((eh x),[])),(8,((int (IntKind.i64.wrap ((↑k:Int)+1))),[]))],[],[]⟩)))) (QD (int (-1)))):cB Pc 46 RV L (bL QD) 2 (Rk x k):=km h
theorem ay9 (x:Sq aj) (a:Int) (hx:x.n<=maxLen):∀ k,k<=x.n->iR (λi=>R3 (x.get i)) (x.n-k) k=a->af 46 0 (bF (int a)) (ai 46 2) (Rk x k):=by
 refine aU (λk hk ih ha=>?_) (λha=>?_)
 .have e:x.n-k=(x.n-(k+1))+1:=by omega
  rw [e] at ha
  refine aR (X:=Pc) (stop:=RV) (Pe _ _ x k ?_)
  refine aq (λh=>?_) (λh=>(dec_lt h hk).elim)
  refine aC (a8 hk) ⟨am6 _,?_⟩
  refine aq (λh1=>?_) (λh1=>?_)
  .rw [pJ (p:=λi=>R3 (x.get i)) h1] at ha
   subst ha; exact bh.refl _
  .rw [nt (p:=λi=>R3 (x.get i)) h1] at ha
   rw [dr hk hx]
   exact ih ha
 .rw [Nat.sub_self] at ha
  refine aR (X:=Pc) (stop:=RV) (Pe _ _ x _ ?_)
  refine aq (λh=>bS h) (λh=>?_)
  subst ha; exact bh.refl _
theorem aj1 (x:Sq aj):LC 46 [iM 14 fT x,.c (.im (.fn 47 0 λ_=>.v (.bool false)))] [] (int (MB x)) []:=
 bP.with an2 (p:=x.n<=maxLen) (λE av w vs h=>by cases h with|cons q _=>exact qy q) λhx=>
  pv (X:=Pc) (stop:=RV) an2 (aH6 _ _ x (ay9 x _ hx 0 (bu _) rfl))
noncomputable def ae1:fN:={ F:=F3 }
def ag3:Nat->Bool:=cE
theorem aH2:Fn 27:={}
noncomputable abbrev iw (aw:ae):D:=int (↑aw.2.1:Int)
theorem aC7 (L:LP) (QD:D->Prop) (t:ae) (h:(LC 46 [(.c (.im (.sl 14 t.2.1 (λi=>fT (t.ins.2 i))))),(.c (.im (.fn 47 0 (λx=>I.v (Value.bool false)))))] [] (int (MB t.2)) []/\br (decide (MB t.2<0)) (QD (iw t)) (QD (int (MB t.2))))):fx ae1 27 ag3 L (bL QD) [a7 t] []:=km h
theorem af9 (t:ae):LC 27 [a7 t] [] (int (nG t.ins)) []:=by
 have key:=Kc (p:=λi=>R3 (t.ins.get i)) (m:=t.ins.n) (k:=0)
 rw [Nat.zero_add] at key
 refine pv (X:=ae1) (stop:=ag3) aH2 (aC7 _ _ t ⟨aj1 _,?_⟩)
 refine aq (λh=>?_) (λh=>?_)
 .have e:(nG t.ins:Int)=(t.ins.n:Int):=by unfold nG; rw [<- key]; exact (congrArg (λb=>bif b then _ else _) h)
  rw [e]; exact bh.refl _
 .have e:(nG t.ins:Int)=MB t.ins:=by unfold nG; rw [<- key]; exact (congrArg (λb=>bif b then _ else _) h)
  rw [e]; exact bh.refl _
noncomputable def WS:fN:={ F:=F3 }
def Wg:Nat->Bool:=cE
theorem al1:Fn 64:={}
theorem am1 (L:LP) (QD:D->Prop) (v:iL) (h:(LC 74 [(.a (lift (PG (v))))] [] (bool (yO v)) []/\br (yO v) (br (v.1 != 0) (QD (bool (v.1 != 5))) (QD (bool false))) (QD (bool false)))):fx WS 64 Wg L (bL QD) [TL v] []:=km h
theorem tH (v:iL):LC 64 [TL v] [] (bool (iq v)) []:=by
 refine pv (X:=WS) (stop:=Wg) al1 (am1 _ _ v ⟨Zj _,?_⟩)
 refine aq (λh=>aq (λh2=>?_) (λh2=>?_)) (λh=>?_)
 .have e:iq v=(v.kind != 5):=by simp only [iq,h,show (v.kind != 0)=true from h2,Bool.true_and]
  rw [e]; exact bh.refl _
 .have e:iq v=false:=by simp only [iq,h,show (v.kind != 0)=false from h2,Bool.true_and,Bool.false_and]
  rw [e]; exact bh.refl _
 .have e:iq v=false:=by simp only [iq,h,Bool.false_and]
  rw [e]; exact bh.refl _
noncomputable def Wl:fN:={ F:=F3 }
def W4:Nat->Bool:=cE
theorem au7:Fn 70:={}
noncomputable abbrev Hm:D:=.t [(.false,[(ci 0)]),(.false,[(ci 9223372036854775807)])]
theorem ac8 (L:LP) (QD:D->Prop) (op:Int) (h:br (op==3) (QD (.t [(.false,[(ci 3)]),(.false,[(ci 4)])])) (br (op==4) (QD (.t [(.false,[(ci 5)]),(.false,[(ci 14)])])) (br (op==5) (QD (.t [(.false,[(ci 0)]),(.false,[(ci 1)])])) (br (op==6) (QD (.t [(.false,[(ci 1)]),(.false,[(ci 6)])])) (br (op==10) (QD (.t [(.false,[(ci 0)]),(.false,[(ci 63)])])) (br (op==11) (QD (.t [(.false,[(ci 0)]),(.false,[(ci 63)])])) (br (op==15) (QD (.t [(.false,[(ci 0)]),(.false,[(ci 600)])])) (br (op==18) (QD (.t [(.false,[(ci 1)]),(.false,[(ci 200)])])) (br (op==7) (QD Hm) (br (op==16) (QD Hm) (br (op==17) (QD Hm) (QD (.t [(.false,[(ci 0)]),(.false,[(ci 0)])]))))))))))))):fx Wl 70 W4 L (bL QD) [int op] []:=km h
theorem Xt (op:Int):LC 70 [int op] [] (Wh (gu op)) []:=by
 refine pv (X:=Wl) (stop:=W4) au7 (ac8 _ _ op ?_)
 repeat' (refine aq (λh=>?_) (λh=>?_))
 all_goals (simp only [gu, *,cond_true,cond_false]; exact bh.refl _)
noncomputable def Gg:fN:={ F:=F3 }
def ER:Nat->Bool:=λi=>Nat.beq i 2
theorem WM:Fn 72:={}
theorem af8 (L:LP) (QD:D->Prop) (x:Sq ByteArray) (h:L (ai 72 2) ⟨[(nV x),(5,((lN x),[])),(6,((nL x),[])),(7,((int 0),[]))],[],[]⟩):fx Gg 72 ER L (bL QD) [iM 1 cw x] []:=km h
noncomputable def KE (x:Sq ByteArray) (k:Nat):VS:=⟨[(0,(lN x),[]),(5,(lN x),[]),(6,(nL x),[]),(7,int k,[])],[],[]⟩
theorem J2 (L:LP) (QD:D->Prop) (x:Sq ByteArray) (k:Nat) (h:br (decide ((↑k:Int)<(↑x.1:Int))) (nd (cM (↑k:Int) x.1) (br ((x.2 k).toList==(ByteArray.mk #[]).toList) (QD (bool false)) ((LC 83 [(lN x),(.c (.im (.v (.string (x.2 k)))))] [] (int (oc (λi=>(x.2 k).toList==(x.2 i).toList) x.1)) []/\br (oc (λi=>(x.2 k).toList==(x.2 i).toList) x.1 != (↑k:Int)) (QD (bool false)) (L (ai 72 2) ⟨[(nV x),(5,((lN x),[])),(6,((nL x),[])),(7,((int (IntKind.i64.wrap ((↑k:Int)+1))),[]))],[],[]⟩))))) (QD (bool (decide ((↑x.1:Int)<=64))))):cB Gg 72 ER L (bL QD) 2 (KE x k):=km h
theorem ao7 (x:Sq ByteArray) (a:Bool) (hx:x.n<=maxLen):∀ k,k<=x.n->(cn (vD x) (x.n-k) k&&decide ((x.n:Int)<=64))=a->af 72 0 (bF (bool a)) (ai 72 2) (KE x k):=by
 refine aU (λk hk ih ha=>?_) (λha=>?_)
 .have e:x.n-k=(x.n-(k+1))+1:=by omega
  rw [e] at ha
  refine aR (X:=Gg) (stop:=ER) (J2 _ _ x k ?_)
  refine aq (λh=>?_) (λh=>(dec_lt h hk).elim)
  refine aC (a8 hk) (aq (λh1=>?_) (λh1=>?_))
  .rw [eN (p:=vD x) (by unfold vD; rw [show jR (x.get k) G3=true from h1]; rfl)] at ha
   subst ha; exact bh.refl _
  .refine ⟨ZE _ _,?_⟩
   have ee:oc (λi=>(x.get k).toList==(x.get i).toList) x.n=oc (λi=>jR (x.get i) (x.get k)) x.n:=congrArg (λp=>oc p x.n) (funext λi=>FB _ _)
   refine aq (λh2=>?_) (λh2=>?_)
   .rw [eN (p:=vD x) (by unfold vD; rw [<- ee]; simp only [bne,Bool.not_eq_true'] at h2; rw [h2,Bool.and_false])] at ha
    subst ha; exact bh.refl _
   .rw [fR (p:=vD x) (by unfold vD; rw [<- ee]; simp only [bne,Bool.not_eq_false'] at h2; rw [h2,show jR (x.get k) G3=false from h1]; rfl)] at ha
    rw [dr hk hx]
    exact ih ha
 .rw [Nat.sub_self] at ha
  refine aR (X:=Gg) (stop:=ER) (J2 _ _ x _ ?_)
  refine aq (λh=>bS h) (λh=>?_)
  subst ha; exact bh.refl _
theorem Ik (x:Sq ByteArray):LC 72 [iM 1 cw x] [] (bool (lG x)) []:=
 bP.with WM (p:=x.n<=maxLen) (λE av w vs h=>by cases h with|cons q _=>exact qy q) λhx=>
  pv (X:=Gg) (stop:=ER) WM (af8 _ _ x (ao7 x _ hx 0 (bu _) rfl))
open Go Go.V
noncomputable def cp (x y:aj):Bool:=x.op==y.op&&(x.a==y.a&&(x.b==y.b&&(x.c==y.c&&(x.n==y.n&&((x.k.kind==y.k.kind&&(x.k.n==y.k.n&&(x.k.s==y.k.s&&true)))&&((x.place.fn==y.place.fn&&(x.place.line==y.place.line&&true))&&(x.exit==y.exit&&((x.once==y.once)&&(bU (λa b=>a==b) x.args y.args&&bU jR x.names y.names)))))))))
noncomputable def qJ (x:aj):Bool := !(decide (x.op<0)||(decide (x.op>21)||(decide (x.n<(gu x.op).1)||decide (x.n>(gu x.op).2))))
noncomputable def p9 (x:aj):Bool := !((decide (gh x.op<1)&&x.a != 0)||((decide (gh x.op<2)&&x.b != 0)||((decide (gh x.op<3)&&x.c != 0)||(x.op != 20&&decide ((x.args.n:Int)>0)))))
noncomputable def oG (x:aj):Bool := !((x.op==1&&(x.k.kind != 3 || (decide (x.k.n<0)||(decide (x.k.n≥24) || !(x.k.s.toList==(ByteArray.mk #[]).toList)))))||(x.op==2 && !iq x.k))
noncomputable def zeroV (v:iL):Bool:=v.kind==0&&(v.n==0&&(v.s==(ByteArray.mk ⟨[]⟩)&&true))
noncomputable def eH (p:HC):Bool:=p.fn==0&&(p.line==0&&true)
noncomputable def nQ (x:aj):Bool := !(x.op != 1 && (x.op != 2 && !zeroV x.k))
noncomputable def ft (x:aj):Bool := !(decide (x.place.fn<0)||(decide (x.place.line<0)||(x.op != 19 && !eH x.place)))
noncomputable def eT (x:aj):Bool:=bif x.op==7||(x.op==16||x.op==17) then lG x.names else ((x.names.n:Int)==0)
noncomputable def bo (x:aj):Bool:=qJ x&&(p9 x&&(oG x&&(nQ x&&(ft x&&eT x))))
noncomputable def LB (x:Sq cG) (v:Int):Int:=oc (λi=>(x.get i).value==v) x.n
noncomputable def e6 (t:ae) (n before:Int):Bool:=decide (n≥0)&&(decide (n<before)&&vT (t.ins.get n.toNat).op)
noncomputable def F4L:xQ:=[
 (25,λds rs=>(bool (cp (Dk ds 0) (Dk ds 1)),[],[])),
 (48,λds rs=>(bool (bo (Dk ds 0)),[],[]))]
noncomputable def F4:=ext F3 F4L
def Fj:Nat->Bool:=cE
theorem U1:Fn 52:={}
noncomputable abbrev uo (aw:aj):D:=.c (.im (.sl 1 aw.6.1 (λi=>bA (aw.args.2 i))))
theorem Xi (L:LP) (QD:D->Prop) (x:aj) (h:br (x.1==20) (QD (uo x)) ((LC 71 [(int x.1)] [] (int 0) []/\(LC 71 [(int x.1)] [] (int 0) []/\QD (.c (.im (.sl 1 0 (flat 1 [])))))))):fx (W6 0) 52 Fj L (bL QD) [gL x] []:=km h
theorem Yi (L:LP) (QD:D->Prop) (x:aj) (h:br (x.1==20) (QD (uo x)) ((LC 71 [(int x.1)] [] (int 1) []/\(LC 71 [(int x.1)] [] (int 1) []/\QD (.c (.im (.sl 1 1 (flat 1 [iI x.2])))))))):fx (W6 1) 52 Fj L (bL QD) [gL x] []:=km h
theorem YU (L:LP) (QD:D->Prop) (x:aj) (h:br (x.1==20) (QD (uo x)) ((LC 71 [(int x.1)] [] (int 2) []/\(LC 71 [(int x.1)] [] (int 2) []/\QD (.c (.im (.sl 1 2 (flat 1 [iI x.2,iI x.3])))))))):fx (W6 2) 52 Fj L (bL QD) [gL x] []:=km h
theorem Y0 (L:LP) (QD:D->Prop) (x:aj) (h:br (x.1==20) (QD (uo x)) ((LC 71 [(int x.1)] [] (int 3) []/\(LC 71 [(int x.1)] [] (int 3) []/\QD (.c (.im (.sl 1 3 (flat 1 [iI x.2,iI x.3,iI x.4])))))))):fx (W6 3) 52 Fj L (bL QD) [gL x] []:=km h
theorem ae5 {b:Bool} {x y:Int} (hx:x=0∨x=1∨x=2∨x=3) (hy:y=0∨y=1∨y=2∨y=3):(bif b then x else y)=0∨(bif b then x else y)=1∨(bif b then x else y)=2∨(bif b then x else y)=3:=by
 cases b
 .exact hy
 .exact hx
theorem uw (op:Int):gh op=0∨gh op=1∨gh op=2∨gh op=3:=by
 unfold gh
 iterate 13 (refine ae5 (by omega) ?_)
 omega
theorem CE (l m:List Int) (n:Nat) (hn:n<=l.length) (hm:∀ i,i<n->l.getD i 0=m.getD i 0):bh (.c (.im (.sl 1 n (flat 1 (l.map iI))))) (iM 1 bA ⟨n,λi=>m.getD i 0⟩):=Wt λi hi j hj=>by
 have:j=0:=by omega
 subst this
 show cH (iv (l.map iI) (i*1+0)) (iI (m.getD i 0))
 rw [Nat.mul_one,Nat.add_zero,sk (by omega),hm i hi]
 exact cH.refl _
theorem an4 (x:aj):LC 52 [gL x] [] (iM 1 bA (bz x)) []:=by
 have key:∀ n:Nat,gh x.op=n->(x.op==20)=false->bz x=⟨n,λi=>[x.a,x.b,x.c].getD i 0⟩:=λn h1 h2=>by
  unfold bz; rw [h1,h2]; rfl
 have lp:(x.op==20)=true->bz x=x.args:=λh=>by unfold bz; rw [h]; rfl
 have c95:∀ n:Nat,gh x.op=n->LC 71 [int x.op] [] (int (n:Int)) []:=λn h=>h▸Ae x.op
 have hl:[gL x].length<=(wv 52).ntmps:=aQ (by kernel_rfl)
 rcases uw x.op with h|h|h|h
 .refine ta (X:=W6 0) (stop:=Fj) U1 hl (Xi _ _ x (aq (λh1=>?_) (λh1=>⟨c95 0 h,c95 0 h,?_⟩)))
  .rw [lp h1]; exact bh.refl _
  .rw [key 0 h h1]; exact CE [] [x.a,x.b,x.c] 0 (bG _) λi hi=>by omega
 .refine ta (X:=W6 1) (stop:=Fj) U1 hl (Yi _ _ x (aq (λh1=>?_) (λh1=>⟨c95 1 h,c95 1 h,?_⟩)))
  .rw [lp h1]; exact bh.refl _
  .rw [key 1 h h1]; exact CE [x.a] [x.a,x.b,x.c] 1 (bG _) λi hi=>by
    match i,hi with
    | 0,_=>rfl
 .refine ta (X:=W6 2) (stop:=Fj) U1 hl (YU _ _ x (aq (λh1=>?_) (λh1=>⟨c95 2 h,c95 2 h,?_⟩)))
  .rw [lp h1]; exact bh.refl _
  .rw [key 2 h h1]; exact CE [x.a,x.b] [x.a,x.b,x.c] 2 (bG _) λi hi=>by
    match i,hi with
    | 0,_=>rfl
    | 1,_=>rfl
 .refine ta (X:=W6 3) (stop:=Fj) U1 hl (Y0 _ _ x (aq (λh1=>?_) (λh1=>⟨c95 3 h,c95 3 h,?_⟩)))
  .rw [lp h1]; exact bh.refl _
  .rw [key 3 h h1]; exact CE [x.a,x.b,x.c] [x.a,x.b,x.c] 3 (bG _) λi hi=>rfl
noncomputable def ad9:fN:={ F:=F4 }
def ad0:Nat->Bool:=cE
theorem aK2:Fn 25:={}
noncomputable abbrev rE (aw:aj):D:=.c (.im (.sl 1 aw.8.1 (λi=>cw (aw.names.2 i))))
theorem aB3 (L:LP) (QD:D->Prop) (x y:aj) (h:br (x.1==y.1) (br (x.2==y.2) (br (x.3==y.3) (br (x.4==y.4) (br (x.5==y.5) (br (x.7.1==y.7.1&&(x.7.2==y.7.2&&(x.7.3==y.7.3&&true))) (br (x.9.1==y.9.1&&(x.9.2==y.9.2&&true)) (br (x.10==y.10) (br (x.11==y.11) ((LC 44 [(uo x),(uo y)] [] (bool (bU (λa b=>a==b) x.6 y.6)) []/\br (bU (λa b=>a==b) x.6 y.6) ((LC 45 [(rE x),(rE y)] [] (bool (bU jR x.8 y.8)) []/\QD (bool (bU jR x.8 y.8)))) (QD (bool false)))) (QD (bool false))) (QD (bool false))) (QD (bool false))) (QD (bool false))) (QD (bool false))) (QD (bool false))) (QD (bool false))) (QD (bool false))) (QD (bool false))):fx ad9 25 ad0 L (bL QD) [gL x,gL y] []:=km h
theorem as9 (x y:aj):LC 25 [gL x,gL y] [] (bool (cp x y)) []:=by
 refine pv (X:=ad9) (stop:=ad0) aK2 (aB3 _ _ x y ?_)
 repeat' (first|refine aq (λh=>?_) (λh=>?_)|refine ⟨Ou _ _,?_⟩|refine ⟨Xa _ _,?_⟩|done)
 all_goals (try simp only [Bool.and_true] at *)
 all_goals first
  | (rw [show cp x y=false from by simp only [cp, *,aL]]; exact bh.refl _)
  | (rw [show cp x y=bU jR x.names y.names from by simp only [cp, *,aL]]; exact bh.refl _)
noncomputable def sm:fN:={ F:=F4 }
def sQ:Nat->Bool:=λi=>Nat.beq i 3||Nat.beq i 5||Nat.beq i 7||Nat.beq i 9||Nat.beq i 11||Nat.beq i 13
theorem aB0:Fn 48:={}
noncomputable abbrev dN:fp:=(1,((.c (.rt 0 0 0)),[]))
noncomputable abbrev ez (aw:aj):ag:=.box (lift (aN (aw)))
theorem aG9 (L:LP) (QD:D->Prop) (x:aj) (h:(LC 70 [(int x.1)] [] (.t [(.false,[(ci ((gu x.1).1))]),(.false,[(ci ((gu x.1).2))])]) []/\(LC 71 [(int x.1)] [] (int (gh x.1)) []/\L (ai 48 3) ⟨[dN,(3,((int ((gu x.1).1)),[])),(4,((int ((gu x.1).2)),[])),(5,((int (gh x.1)),[]))],[(ez x)],[]⟩))):fx sm 48 sQ L (bL QD) [gL x] []:=km h
noncomputable abbrev uB:fp:=(1,(.c (.rt 0 0 0)),[])
noncomputable def R5 (x:aj)  : VS:=⟨[uB,(3,(int ((gu x.1).1)),[]),(4,(int ((gu x.1).2)),[]),(5,(int (gh x.1)),[])],[(ez x)],[]⟩
theorem YI (L:LP) (QD:D->Prop) (x:aj)  (h:br (decide (x.1<0)) (QD (bool false)) (br (decide (x.1>21)) (QD (bool false)) (br (decide (x.5<(gu x.1).1)) (QD (bool false)) (br (decide (x.5>(gu x.1).2)) (QD (bool false)) (L (ai 48 5) ⟨[dN,(5,((int (gh x.1)),[])),(15,((bool false),[]))],[(ez x)],[]⟩))))):cB sm 48 sQ L (bL QD) 3 (R5 x ):=km h
noncomputable def GW (x:aj)  : VS:=⟨[uB,(5,(int (gh x.1)),[]),(15,(bool false),[])],[(ez x)],[]⟩
noncomputable abbrev aj0:aK:=[dN,(36,((bool false),[]))]
noncomputable abbrev gT (aw:aj):VS:=⟨aj0,[(ez aw)],[]⟩
theorem XJ (L:LP) (QD:D->Prop) (x:aj)  (h:br (decide (gh x.1<1)) (br (x.2 != 0) (QD (bool false)) (br (decide (gh x.1<2)) (br (x.3 != 0) (QD (bool false)) (br (decide (gh x.1<3)) (br (x.4 != 0) (QD (bool false)) (br (x.1 != 20) (br (decide ((↑x.6.1:Int)>0)) (QD (bool false)) (L (ai 48 7) (gT x))) (L (ai 48 7) (gT x)))) (br (x.1 != 20) (br (decide ((↑x.6.1:Int)>0)) (QD (bool false)) (L (ai 48 7) (gT x))) (L (ai 48 7) (gT x))))) (br (decide (gh x.1<3)) (br (x.4 != 0) (QD (bool false)) (br (x.1 != 20) (br (decide ((↑x.6.1:Int)>0)) (QD (bool false)) (L (ai 48 7) (gT x))) (L (ai 48 7) (gT x)))) (br (x.1 != 20) (br (decide ((↑x.6.1:Int)>0)) (QD (bool false)) (L (ai 48 7) (gT x))) (L (ai 48 7) (gT x)))))) (br (decide (gh x.1<2)) (br (x.3 != 0) (QD (bool false)) (br (decide (gh x.1<3)) (br (x.4 != 0) (QD (bool false)) (br (x.1 != 20) (br (decide ((↑x.6.1:Int)>0)) (QD (bool false)) (L (ai 48 7) (gT x))) (L (ai 48 7) (gT x)))) (br (x.1 != 20) (br (decide ((↑x.6.1:Int)>0)) (QD (bool false)) (L (ai 48 7) (gT x))) (L (ai 48 7) (gT x))))) (br (decide (gh x.1<3)) (br (x.4 != 0) (QD (bool false)) (br (x.1 != 20) (br (decide ((↑x.6.1:Int)>0)) (QD (bool false)) (L (ai 48 7) (gT x))) (L (ai 48 7) (gT x)))) (br (x.1 != 20) (br (decide ((↑x.6.1:Int)>0)) (QD (bool false)) (L (ai 48 7) (gT x))) (L (ai 48 7) (gT x)))))):cB sm 48 sQ L (bL QD) 5 (GW x ):=km h
noncomputable def I5 (x:aj)  : VS:=⟨[uB,(36,(bool false),[])],[(ez x)],[]⟩
noncomputable abbrev Cj (aw:aj):VS:=⟨[dN,(73,((bool false),[]))],[(ez aw)],[]⟩
theorem XM (L:LP) (QD:D->Prop) (x:aj)  (h:br (x.1==1) (br (x.7.1 != 3) (QD (bool false)) (br (decide (x.7.2<0)) (QD (bool false)) (br (decide (x.7.2≥24)) (QD (bool false)) (br (!x.7.3.toList==(ByteArray.mk #[]).toList) (QD (bool false)) (br (x.1==2) ((LC 64 [(.a (lift (PG (x.7))))] [] (bool (iq x.7)) []/\br (!iq x.7) (QD (bool false)) (L (ai 48 9) (Cj x)))) (L (ai 48 9) (Cj x))))))) (br (x.1==2) ((LC 64 [(.a (lift (PG (x.7))))] [] (bool (iq x.7)) []/\br (!iq x.7) (QD (bool false)) (L (ai 48 9) (Cj x)))) (L (ai 48 9) (Cj x)))):cB sm 48 sQ L (bL QD) 7 (I5 x ):=km h
noncomputable def HO (x:aj)  : VS:=⟨[uB,(73,(bool false),[])],[(ez x)],[]⟩
noncomputable abbrev H8 (aw:aj):VS:=⟨[dN,(112,((bool false),[]))],[(ez aw)],[]⟩
theorem ZF (L:LP) (QD:D->Prop) (x:aj)  (h:br (x.1 != 1) (br (x.1 != 2) (br (!(x.7.1==0&&(x.7.2==0&&(x.7.3=={ data:={ toList:=[] } }&&true)))) (QD (bool false)) (L (ai 48 11) (H8 x))) (L (ai 48 11) (H8 x))) (L (ai 48 11) (H8 x))):cB sm 48 sQ L (bL QD) 9 (HO x ):=km h
noncomputable def Dx (x:aj)  : VS:=⟨[uB,(112,(bool false),[])],[(ez x)],[]⟩
theorem T4 (L:LP) (QD:D->Prop) (x:aj)  (h:br (decide (x.9.1<0)) (QD (bool false)) (br (decide (x.9.2<0)) (QD (bool false)) (br (x.1 != 19) (br (!(x.9.1==0&&(x.9.2==0&&true))) (QD (bool false)) (L (ai 48 13) ⟨[dN,(127,((bool false),[]))],[(ez x)],[]⟩)) (L (ai 48 13) ⟨[dN,(127,((bool false),[]))],[(ez x)],[]⟩)))):cB sm 48 sQ L (bL QD) 11 (Dx x ):=km h
noncomputable def Cl (x:aj)  : VS:=⟨[uB,(127,(bool false),[])],[(ez x)],[]⟩
theorem Tx (L:LP) (QD:D->Prop) (x:aj)  (h:br (x.1==7) ((LC 72 [(rE x)] [] (bool (lG x.8)) []/\QD (bool (lG x.8)))) (br (x.1==16) ((LC 72 [(rE x)] [] (bool (lG x.8)) []/\QD (bool (lG x.8)))) (br (x.1==17) ((LC 72 [(rE x)] [] (bool (lG x.8)) []/\QD (bool (lG x.8)))) (QD (bool ((↑x.8.1:Int)==0)))))):cB sm 48 sQ L (bL QD) 13 (Cl x ):=km h
theorem UJ (x:aj):af 48 0 (bF (bool (eT x))) (ai 48 13) (Cl x):=by
 refine aR (X:=sm) (stop:=sQ) (Tx _ _ x ?_)
 refine aq (λh=>?_) (λh=>aq (λh2=>?_) (λh2=>aq (λh3=>?_) (λh3=>?_)))
 .refine ⟨Ik _,?_⟩
  rw [show eT x=lG x.names from by simp only [eT,show (x.op==7)=true from h,Bool.true_or,cond_true]]; exact bh.refl _
 .refine ⟨Ik _,?_⟩
  rw [show eT x=lG x.names from by simp only [eT,show (x.op==16)=true from h2,Bool.true_or,Bool.or_true,cond_true]]; exact bh.refl _
 .refine ⟨Ik _,?_⟩
  rw [show eT x=lG x.names from by simp only [eT,show (x.op==17)=true from h3,Bool.or_true,cond_true]]; exact bh.refl _
 .rw [show eT x=((x.names.n:Int)==0) from by simp only [eT,show (x.op==7)=false from h,show (x.op==16)=false from h2,show (x.op==17)=false from h3,Bool.or_false,cond_false]]; exact bh.refl _
theorem Vr (x:aj):af 48 0 (bF (bool (ft x&&(eT x)))) (ai 48 11) (Dx x):=by
 refine aR (X:=sm) (stop:=sQ) (T4 _ _ x ?_)
 have no:ft x=false->bh (bool false) (bool (ft x&&(eT x))):=λe=>by rw [e]; exact bh.refl _
 have go:ft x=true->af 48 0 (bF (bool (ft x&&(eT x)))) (ai 48 13) (Cl x):=λe=>by rw [e]; exact UJ x
 repeat' (first|refine aq (λh=>?_) (λh=>?_)|refine ⟨tH _,?_⟩|done)
 all_goals (try simp only [Bool.and_true,Bool.not_eq_true',Bool.not_eq_false'] at *)
 all_goals first
  | exact no (by simp only [ft,zeroV,eH,Bool.and_true, *,aL])
  | exact go (by simp only [ft,zeroV,eH,Bool.and_true, *,aL])
theorem ZO (x:aj):af 48 0 (bF (bool (nQ x&&(ft x&&(eT x))))) (ai 48 9) (HO x):=by
 refine aR (X:=sm) (stop:=sQ) (ZF _ _ x ?_)
 have no:nQ x=false->bh (bool false) (bool (nQ x&&(ft x&&(eT x)))):=λe=>by rw [e]; exact bh.refl _
 have go:nQ x=true->af 48 0 (bF (bool (nQ x&&(ft x&&(eT x))))) (ai 48 11) (Dx x):=λe=>by rw [e]; exact Vr x
 repeat' (first|refine aq (λh=>?_) (λh=>?_)|refine ⟨tH _,?_⟩|done)
 all_goals (try simp only [Bool.and_true,Bool.not_eq_true',Bool.not_eq_false'] at *)
 all_goals first
  | exact no (by simp only [nQ,zeroV,eH,Bool.and_true, *,aL])
  | exact go (by simp only [nQ,zeroV,eH,Bool.and_true, *,aL])
theorem Yu (x:aj):af 48 0 (bF (bool (oG x&&(nQ x&&(ft x&&(eT x)))))) (ai 48 7) (I5 x):=by
 refine aR (X:=sm) (stop:=sQ) (XM _ _ x ?_)
 have no:oG x=false->bh (bool false) (bool (oG x&&(nQ x&&(ft x&&(eT x))))):=λe=>by rw [e]; exact bh.refl _
 have go:oG x=true->af 48 0 (bF (bool (oG x&&(nQ x&&(ft x&&(eT x)))))) (ai 48 9) (HO x):=λe=>by rw [e]; exact ZO x
 repeat' (first|refine aq (λh=>?_) (λh=>?_)|refine ⟨tH _,?_⟩|done)
 all_goals (try simp only [Bool.and_true,Bool.not_eq_true',Bool.not_eq_false'] at *)
 all_goals first
  | exact no (by simp only [oG,zeroV,eH,Bool.and_true, *,aL])
  | exact go (by simp only [oG,zeroV,eH,Bool.and_true, *,aL])
theorem XT (x:aj):af 48 0 (bF (bool (p9 x&&(oG x&&(nQ x&&(ft x&&(eT x))))))) (ai 48 5) (GW x):=by
 refine aR (X:=sm) (stop:=sQ) (XJ _ _ x ?_)
 have no:p9 x=false->bh (bool false) (bool (p9 x&&(oG x&&(nQ x&&(ft x&&(eT x)))))):=λe=>by rw [e]; exact bh.refl _
 have go:p9 x=true->af 48 0 (bF (bool (p9 x&&(oG x&&(nQ x&&(ft x&&(eT x))))))) (ai 48 7) (I5 x):=λe=>by rw [e]; exact Yu x
 repeat' (first|refine aq (λh=>?_) (λh=>?_)|refine ⟨tH _,?_⟩|done)
 all_goals (try simp only [Bool.and_true,Bool.not_eq_true',Bool.not_eq_false'] at *)
 all_goals first
  | exact no (by simp only [p9,zeroV,eH,Bool.and_true, *,aL])
  | exact go (by simp only [p9,zeroV,eH,Bool.and_true, *,aL])
theorem Y1 (x:aj):af 48 0 (bF (bool (qJ x&&(p9 x&&(oG x&&(nQ x&&(ft x&&(eT x)))))))) (ai 48 3) (R5 x):=by
 refine aR (X:=sm) (stop:=sQ) (YI _ _ x ?_)
 have no:qJ x=false->bh (bool false) (bool (qJ x&&(p9 x&&(oG x&&(nQ x&&(ft x&&(eT x))))))):=λe=>by rw [e]; exact bh.refl _
 have go:qJ x=true->af 48 0 (bF (bool (qJ x&&(p9 x&&(oG x&&(nQ x&&(ft x&&(eT x)))))))) (ai 48 5) (GW x):=λe=>by rw [e]; exact XT x
 repeat' (first|refine aq (λh=>?_) (λh=>?_)|refine ⟨tH _,?_⟩|done)
 all_goals (try simp only [Bool.and_true,Bool.not_eq_true',Bool.not_eq_false'] at *)
 all_goals first
  | exact no (by simp only [qJ,zeroV,eH,Bool.and_true, *,aL])
  | exact go (by simp only [qJ,zeroV,eH,Bool.and_true, *,aL])
theorem Wp (x:aj):LC 48 [gL x] [] (bool (bo x)) []:=
 pv (X:=sm) (stop:=sQ) aB0 (aG9 _ _ x ⟨Xt _,Ae _,Y1 x⟩)
theorem sN {n:Int} {m:Nat} (h0:0<=n) (h1:n<(m:Int)):cM n m=true:=by
 obtain ⟨k,rfl⟩:=Int.eq_ofNat_of_zero_le h0
 exact a8 (by omega)
open Go Go.V
noncomputable def F5L:xQ:=[]
noncomputable def F5:=ext F4 F5L
noncomputable def vS (x y:aj):aj×Bool:=
 bif x.1==3 then
  bif x.5==3 then
   ({ op:=y.1,a:=y.2,b:=y.3,c:=y.4,n:=x.5,args:=y.6,k:=y.7,names:=y.8,place:=y.9,exit:=y.10,once:=y.11 },true)
  else
   ({ op:=y.1,a:=y.2,b:=y.3,c:=y.4,n:=x.5,args:=y.6,k:=y.7,names:=y.8,place:=y.9,exit:=y.10,once:=y.11 },(x.5==4))
 else
  bif x.1==4 then
   ({ op:=y.1,a:=y.2,b:=y.3,c:=y.4,n:=x.5,args:=y.6,k:=y.7,names:=y.8,place:=y.9,exit:=y.10,once:=y.11 },(gI x.5 5 14))
  else
   bif x.1==5 then
    ({ op:=y.1,a:=y.2,b:=y.3,c:=y.4,n:=x.5,args:=y.6,k:=y.7,names:=y.8,place:=y.9,exit:=y.10,once:=y.11 },(gI x.5 0 1))
   else
    bif x.1==6 then
     ({ op:=y.1,a:=y.2,b:=y.3,c:=y.4,n:=x.5,args:=y.6,k:=y.7,names:=y.8,place:=y.9,exit:=y.10,once:=y.11 },(gI x.5 1 6))
    else
     bif x.1==10 then
      ({ op:=y.1,a:=y.2,b:=y.3,c:=y.4,n:=x.5,args:=y.6,k:=y.7,names:=y.8,place:=y.9,exit:=y.10,once:=y.11 },(gI x.5 0 63))
     else
      bif x.1==11 then
       ({ op:=y.1,a:=y.2,b:=y.3,c:=y.4,n:=x.5,args:=y.6,k:=y.7,names:=y.8,place:=y.9,exit:=y.10,once:=y.11 },(gI x.5 0 63))
      else
       bif x.1==15 then
        ({ op:=y.1,a:=y.2,b:=y.3,c:=y.4,n:=x.5,args:=y.6,k:=y.7,names:=y.8,place:=y.9,exit:=y.10,once:=y.11 },(gI x.5 0 600))
       else
        bif x.1==18 then
         ({ op:=y.1,a:=y.2,b:=y.3,c:=y.4,n:=x.5,args:=y.6,k:=y.7,names:=y.8,place:=y.9,exit:=y.10,once:=y.11 },(gI x.5 1 200))
        else
         bif x.1==7 then
          bif decide (x.5≥0) then
           ({ op:=y.1,a:=y.2,b:=y.3,c:=y.4,n:=x.5,args:=y.6,k:=y.7,names:=x.8,place:=y.9,exit:=y.10,once:=y.11 },(lG x.8))
          else
           ({ op:=y.1,a:=y.2,b:=y.3,c:=y.4,n:=x.5,args:=y.6,k:=y.7,names:=x.8,place:=y.9,exit:=y.10,once:=y.11 },false)
         else
          bif x.1==16 then
           bif decide (x.5≥0) then
            ({ op:=y.1,a:=y.2,b:=y.3,c:=y.4,n:=x.5,args:=y.6,k:=y.7,names:=x.8,place:=y.9,exit:=y.10,once:=y.11 },(lG x.8))
           else
            ({ op:=y.1,a:=y.2,b:=y.3,c:=y.4,n:=x.5,args:=y.6,k:=y.7,names:=x.8,place:=y.9,exit:=y.10,once:=y.11 },false)
          else
           bif x.1==17 then
            bif decide (x.5≥0) then
             ({ op:=y.1,a:=y.2,b:=y.3,c:=y.4,n:=x.5,args:=y.6,k:=y.7,names:=x.8,place:=y.9,exit:=y.10,once:=y.11 },(lG x.8))
            else
             ({ op:=y.1,a:=y.2,b:=y.3,c:=y.4,n:=x.5,args:=y.6,k:=y.7,names:=x.8,place:=y.9,exit:=y.10,once:=y.11 },false)
           else
            bif x.1==1 then
             bif x.7.1==3 then
              bif gI x.7.2 0 23 then
               ({ op:=y.1,a:=y.2,b:=y.3,c:=y.4,n:=y.5,args:=y.6,k:=x.7,names:=y.8,place:=y.9,exit:=y.10,once:=y.11 },(x.7.3.toList==(ByteArray.mk #[]).toList))
              else
               ({ op:=y.1,a:=y.2,b:=y.3,c:=y.4,n:=y.5,args:=y.6,k:=x.7,names:=y.8,place:=y.9,exit:=y.10,once:=y.11 },false)
             else
              ({ op:=y.1,a:=y.2,b:=y.3,c:=y.4,n:=y.5,args:=y.6,k:=x.7,names:=y.8,place:=y.9,exit:=y.10,once:=y.11 },false)
            else
             bif x.1==2 then
              ({ op:=y.1,a:=y.2,b:=y.3,c:=y.4,n:=y.5,args:=y.6,k:=x.7,names:=y.8,place:=y.9,exit:=y.10,once:=y.11 },(iq x.7))
             else
              bif x.1==19 then
               bif decide (x.9.1≥0) then
                ({ op:=y.1,a:=y.2,b:=y.3,c:=y.4,n:=y.5,args:=y.6,k:=y.7,names:=y.8,place:=x.9,exit:=y.10,once:=y.11 },(decide (x.9.2≥0)))
               else
                ({ op:=y.1,a:=y.2,b:=y.3,c:=y.4,n:=y.5,args:=y.6,k:=y.7,names:=y.8,place:=x.9,exit:=y.10,once:=y.11 },false)
              else
               (y,true)
noncomputable def j7 (x y:aj):Bool:=(vS x y).2&&(gI x.op 0 21&&cp x (vS x y).1)
noncomputable def cy:ByteArray:=ByteArray.mk ⟨[]⟩
noncomputable def yA (x:aj):aj:=
 bif x.1 != 20 then
  bif decide ((↑(bz x).1:Int)>0) then
   bif decide ((↑(bz x).1:Int)>1) then
    bif decide ((↑(bz x).1:Int)>2) then
     ⟨x.1,x.2,x.3,x.4,0,⟨0,λ_=>0⟩,⟨0,0,cy⟩,⟨0,λ_=>cy⟩,⟨0,0⟩,x.10,x.11⟩
    else
     ⟨x.1,x.2,x.3,0,0,⟨0,λ_=>0⟩,⟨0,0,cy⟩,⟨0,λ_=>cy⟩,⟨0,0⟩,x.10,x.11⟩
   else
    bif decide ((↑(bz x).1:Int)>2) then
     ⟨x.1,x.2,0,x.4,0,⟨0,λ_=>0⟩,⟨0,0,cy⟩,⟨0,λ_=>cy⟩,⟨0,0⟩,x.10,x.11⟩
    else
     ⟨x.1,x.2,0,0,0,⟨0,λ_=>0⟩,⟨0,0,cy⟩,⟨0,λ_=>cy⟩,⟨0,0⟩,x.10,x.11⟩
  else
   bif decide ((↑(bz x).1:Int)>1) then
    bif decide ((↑(bz x).1:Int)>2) then
     ⟨x.1,0,x.3,x.4,0,⟨0,λ_=>0⟩,⟨0,0,cy⟩,⟨0,λ_=>cy⟩,⟨0,0⟩,x.10,x.11⟩
    else
     ⟨x.1,0,x.3,0,0,⟨0,λ_=>0⟩,⟨0,0,cy⟩,⟨0,λ_=>cy⟩,⟨0,0⟩,x.10,x.11⟩
   else
    bif decide ((↑(bz x).1:Int)>2) then
     ⟨x.1,0,0,x.4,0,⟨0,λ_=>0⟩,⟨0,0,cy⟩,⟨0,λ_=>cy⟩,⟨0,0⟩,x.10,x.11⟩
    else
     ⟨x.1,0,0,0,0,⟨0,λ_=>0⟩,⟨0,0,cy⟩,⟨0,λ_=>cy⟩,⟨0,0⟩,x.10,x.11⟩
 else
  ⟨x.1,0,0,0,0,x.args,⟨0,0,cy⟩,⟨0,λ_=>cy⟩,⟨0,0⟩,x.10,x.11⟩
noncomputable def bB (x:aj):Bool:=j7 x (yA x)
open Go Go.V
noncomputable def F6L:xQ:=[]
noncomputable def F6:=ext F5 F6L
noncomputable def ek {α:Type} (x y:Sq α):Sq α:=⟨x.n+y.n,λi=>Bool.rec (y.get (i-x.n)) (x.get i) (Nat.blt i x.n)⟩
theorem JB {α:Type} (x y:Sq α) (e:α->Nat->I):gA x.n (λi=>e (x.get i)) (λi=>e (y.get i))=λi=>e ((ek x y).get i):=by
 funext i j
 show (Bool.rec (e (y.get (i-x.n)) j) (e (x.get i) j) (Nat.blt i x.n):I)=e (Bool.rec (y.get (i-x.n)) (x.get i) (Nat.blt i x.n)) j
 cases Nat.blt i x.n<;>rfl
theorem ug (el sz:Nat) (g g':Nat->Nat->I):aO (.arr el sz 0 g) (.arr el sz 0 g'):=aO.arr λi hi=>by omega
noncomputable def Fz {α:Type} (g:Nat->Sq α):Nat->Nat->Sq α->Sq α
 | 0,_,l=>l
 | m+1,k,l=>Fz g m (k+1) (ek l (g k))
def bc {α:Type} (a:α):Sq α:=⟨0,λ_=>a⟩
noncomputable def MO (f:cK):Bool := !(decide (f.fn<0)||(decide (f.line<0)||decide ((f.vars.n:Int)>24)))
noncomputable def obR (t:ae) (e:ah) (k:Int) (j:Nat):Bool := !(!e6 t (e.ax.get j).value k||((t.ins.get (e.ax.get j).value.toNat).op != 17||(LB e.ax (e.ax.get j).value != (j:Int)||((e.ax.get j).cls != (t.ins.get (e.ax.get j).value.toNat).n||(!bU jR (e.ax.get j).names (t.ins.get (e.ax.get j).value.toNat).names||(((e.ax.get j).items.n:Int)!=((e.ax.get j).names.n:Int)))))))
noncomputable def usR (t:ae) (e:ah) (k v:Int):Bool:=v == -1 || !(!e6 t v k||((t.ins.get v.toNat).op==17&&decide (LB e.ax v<0)))
noncomputable def x21 (t:ae) (e:ah) (k:Int) (l:Sq Int):Bool:=dh (λi=>usR t e k (l.get i)) l.n
noncomputable def x12 (t:ae) (e:ah) (k:Int) (l:Sq Int):Bool:=dh (obR t e k) e.ax.n&&x21 t e k (Fz (λj=>(e.ax.get j).items) e.ax.n 0 l)
noncomputable def Ot (t:ae) (e:ah) (k:Int):Bool := !(decide ((e.frames.n:Int)<1)||(decide ((e.frames.n:Int)>6)||decide (e.back<0)))&&(dh (λj=>MO (e.frames.get j)) e.frames.n&&x12 t e k (Fz (λj=>(e.frames.get j).vars) e.frames.n 0 (bc 0)))
structure gS (e:ah):Prop where
 frames:e.frames.n<=1000
 vars:∀ j,j<e.frames.n->(e.frames.get j).vars.n<=1000
 ax:e.ax.n<=1000
 names:∀ j,j<e.ax.n->(e.ax.get j).names.n<=1000
 items:∀ j,j<e.ax.n->(e.ax.get j).items.n<=1000
structure bj (t:ae):Prop where
 ins:t.ins.n<=1000
 aa:t.aa.n<=1000
 args:∀ k,k<t.ins.n->(t.ins.get k).args.n<=1000
 names:∀ k,k<t.ins.n->(t.ins.get k).names.n<=1000
 str:∀ k,k<t.ins.n->(t.ins.get k).k.s.size<=1000
 ex:∀ k,k<t.aa.n->gS (t.aa.get k)
theorem UK {t:ae} {v k:Int} (h:e6 t v k=true):0<=v/\v<k:=by
 simp only [e6,dJ,decide_eq_true_eq] at h
 omega
theorem wq {t:ae} {v k:Int} (h:e6 t v k=true) (hk:k<=t.ins.n):cM v t.ins.n=true:=by
 have:=UK h
 exact sN this.1 (by omega)
theorem cZ {n:Nat} {b:Nat} (h:n<=2000000) (hb:b<=1000):b5 n b=true:=by
 have h2:n*b<=2000000*1000:=Nat.mul_le_mul h hb
 unfold b5
 simp only [dJ]
 exact ⟨Nat.ble_eq_true_of_le (cW h (by decide)),Nat.ble_eq_true_of_le (cW h2 (by decide))⟩
theorem dP {a b:Nat} (h:a<b):Nat.blt a b=true:=by simpa [kD] using h
open Go Go.V
noncomputable def F7L:xQ:=[]
noncomputable def F7:=ext F6 F7L
theorem Te (x:aj) (h:x.args.n<=1000):(bz x).n<=1000:=by
 unfold bz
 cases x.op==20
 .show (gh x.op).toNat<=1000
  rcases uw x.op with h|h|h|h<;>rw [h]<;>decide
 .exact h
def xM (x:aj):Bool:=x.op==20||x.op==21
noncomputable def a6 (t:ae) (k:Nat):Bool := !(xM (t.ins.get k)!=((k:Int)==(t.ins.n:Int)-1))&&(!((t.ins.get k).op==1&&decide ((k:Int)≥(nG t.ins:Int)))&&bB (t.ins.get k))
noncomputable def a12 (t:ae) (k:Nat):Bool := !((t.ins.get k).op==1&&(decide ((k:Int)>0)&&decide ((t.ins.get k).k.n<=(t.ins.get (k-1)).k.n))) && !((t.ins.get k).op==20&&(((t.ins.get k).args.n:Int)!=(nG t.ins:Int)))
noncomputable def u16 (t:ae) (k:Nat) (v:Int):Bool:=e6 t v k && !((t.ins.get v.toNat).op==17)
noncomputable def MP (t:ae) (k:Nat):Bool:=dh (λj=>u16 t k ((bz (t.ins.get k)).get j)) (bz (t.ins.get k)).n
noncomputable def a20 (t:ae) (k:Nat):Bool := !((t.ins.get k).once && !m80 (t.ins.get k).op)&&(!decide ((t.ins.get k).exit < -1)&&(!decide ((t.ins.get k).exit≥(t.aa.n:Int))&&(!(decide ((t.ins.get k).exit≥0)&&MD (t.ins.get k).op==0) && !(decide ((t.ins.get k).exit<0)&&MD (t.ins.get k).op==2))))
def nM (t:ae) (k:Nat) (i:Nat):Bool := !dh (λj => !((t.ins.get j).exit==(i:Int))) k
noncomputable def a22 (t:ae) (k:Nat):Bool := !decide ((t.ins.get k).exit≥0)||(!nM t k (t.ins.get k).exit.toNat&&Ot t (t.aa.get (t.ins.get k).exit.toNat) k)
noncomputable def uD (t:ae) (k:Nat):Bool:=a6 t k&&(a12 t k&&(MP t k&&(a20 t k&&a22 t k)))
noncomputable def Eu (t:ae):Bool := !(decide (t.place.fn<0)||(decide (t.place.line<0)||((t.ins.n:Int)==0)))&&dh (uD t) t.ins.n
theorem vc {p q:Nat->Bool}:∀ {m k:Nat},(∀ i,k<=i->i<k+m->p i=q i)->cn p m k=cn q m k
 | 0,k,_=>rfl
 | m+1,k,h=>by
   unfold cn
   rw [h k (bG _) (by omega),vc λi h1 h2=>h i (by omega) (by omega)]
theorem Ba {p:Nat->Bool}:∀ {m k:Nat},cn p (m+1) k=(cn p m k&&p (k+m))
 | 0,k=>by simp [cn]
 | m+1,k=>by
   rw [show cn p (m+1+1) k=(bif p k then cn p (m+1) (k+1) else false) from rfl,Ba (m:=m) (k:=k+1),show cn p (m+1) k=(bif p k then cn p m (k+1) else false) from rfl,show k+1+m=k+(m+1) by omega]
   cases p k<;>simp
theorem vB (t:ae) (k i:Nat):nM t (k+1) i=(nM t k i||((t.ins.get k).exit==(i:Int))):=by
 unfold nM dh
 rw [Ba,Nat.zero_add]
 cases cn (λj => !((t.ins.get j).exit==(i:Int))) k 0<;>simp
theorem Mh {n:Nat} (h:0<n) (hn:n<=1000):IntKind.i64.wrap ((n:Int)-1)=(n:Int)-1:=iV (by omega) (by omega)
open Go Go.V
noncomputable def F8L:xQ:=[
 (53,λds rs=>(bool (e6 (fj ds 0) (aI ds 1) (aI ds 2)),[],[])),
 (73,λds rs=>(.c (.dM 84 [rs.length]),[],[.box (lift (bn (RZ ds 0)))]))]
noncomputable def F8:=ext F7 F8L
noncomputable def dA (t:ae) (q:Nat):List C:=[.im (iI t.place.fn),.im (iI t.place.line),.im (zK 14 fT t.ins),.im (zK 3 dw t.aa),.mp q]
noncomputable def zJ (t:ae) (q:Nat):D:=.a (dA t q)
theorem Tg (op:Int):eD op [1,2,3,4,10,12,14,16,17]=vT op:=by
 simp [eD,vT]
noncomputable def X8:fN:={ F:=F8 }
noncomputable def tL (t:ae):Int:=bif decide ((t.ins.n:Int)>200) then 2 else bif decide ((t.aa.n:Int)>60) then 2 else bif Eu t then 0 else 31
noncomputable def ah7:fN:={ F:=F8 }
def ai7:Nat->Bool:=cE
theorem aF2:Fn 73:={}
theorem aB8 (L:LP) (QE:D->List ag->Prop) (e:ah) (r0 r1 r2 r3 r4 r5 r6 r7 r8 r9 ej ed:ag) (h:QE (.c (.dM 84 [12])) [r0,r1,r2,r3,r4,r5,r6,r7,r8,r9,ej,ed,(.box (lift (bn (e))))]):fx ah7 73 ai7 L QE [qw e] [r0,r1,r2,r3,r4,r5,r6,r7,r8,r9,ej,ed]:=km h
theorem ag0 (e:ah) (r0 r1 r2 r3 r4 r5 r6 r7 r8 r9 ej ed:ag):LC 73 [qw e] [r0,r1,r2,r3,r4,r5,r6,r7,r8,r9,ej,ed] (.c (.dM 84 [12])) [r0,r1,r2,r3,r4,r5,r6,r7,r8,r9,ej,ed,.box (lift (bn e))]:=
 gZ aF2 (aQ (by kernel_rfl)) (dc (X:=ah7) (stop:=ai7) (aB8 _ _ e r0 r1 r2 r3 r4 r5 r6 r7 r8 r9 ej ed ⟨13,aQ rfl,aQ rfl,rfl,rfl,bh.refl _,by repeat' (first|exact trivial|refine ⟨.inl (.inl rfl),?_⟩|refine ⟨rfl,?_⟩|done)⟩))
def Lm:Nat->Bool:=cE
theorem YR:Fn 53:={}
noncomputable abbrev HE (aw:ae) (aG:Int):D:=bool (eD (aw.ins.2 aG.toNat).1 [1,2,3,4,10,12,14,16,17])
theorem X2 (L:LP) (QE:D->List ag->Prop) (t:ae) (n before:Int) (r0 r1 r2 r3 r4:ag) (h:br (decide (n≥0)) (br (decide (n<before)) (nd (cM n t.2.1) ((LC 65 [(int ((t.ins.2 n.toNat).1))] [] (HE t n) []/\QE (bool (eD (t.ins.2 n.toNat).1 [1,2,3,4,10,12,14,16,17])) [r0,r1,r2,r3,r4,(.box (dA (t) 1))]))) (QE (bool false) [r0,r1,r2,r3,r4,(.box (dA (t) 1))])) (QE (bool false) [r0,r1,r2,r3,r4,(.box (dA (t) 1))])):fx X8 53 Lm L QE [zJ t 1,int n,int before] [r0,r1,r2,r3,r4]:=km h
theorem SH (t:ae) (n before:Int) (r0 r1 r2 r3 r4:ag) (hb:before<=t.ins.n):LC 53 [zJ t 1,int n,int before] [r0,r1,r2,r3,r4] (bool (e6 t n before)) [r0,r1,r2,r3,r4]:=by
 refine gZ YR (aQ (by kernel_rfl)) (dc (X:=X8) (stop:=Lm) (X2 _ _ t n before r0 r1 r2 r3 r4 ?_))
 refine aq (λh=>aq (λh2=>aC (sN (of_decide_eq_true h) (by have:=of_decide_eq_true h2; omega)) ⟨ud _,?_⟩) (λh2=>?_)) (λh=>?_)
 .rw [show e6 t n before=eD (t.ins.get n.toNat).op [1,2,3,4,10,12,14,16,17] from by simp only [e6,show decide (n≥0)=true from h,show decide (n<before)=true from h2,Bool.true_and,Tg]]; exact ⟨5,aQ rfl,aQ rfl,rfl,rfl,bh.refl _,bC _ _⟩
 .rw [show e6 t n before=false from by simp only [e6,show decide (n<before)=false from h2,Bool.false_and,Bool.and_false]]; exact ⟨5,aQ rfl,aQ rfl,rfl,rfl,bh.refl _,bC _ _⟩
 .rw [show e6 t n before=false from by simp only [e6,show decide (n≥0)=false from h,Bool.false_and]]; exact ⟨5,aQ rfl,aQ rfl,rfl,rfl,bh.refl _,bC _ _⟩
theorem TK (L:LP) (QE:D->List ag->Prop) (t:ae) (n before:Int) (r0 r1 r2 r3 r4 r5 r6 r7 r8 r9 ej ed EO:ag) (h:br (decide (n≥0)) (br (decide (n<before)) (nd (cM n t.2.1) ((LC 65 [(int ((t.ins.2 n.toNat).1))] [] (HE t n) []/\QE (bool (eD (t.ins.2 n.toNat).1 [1,2,3,4,10,12,14,16,17])) [r0,r1,r2,r3,r4,r5,r6,r7,r8,r9,ej,ed,EO,(.box (dA (t) 1))]))) (QE (bool false) [r0,r1,r2,r3,r4,r5,r6,r7,r8,r9,ej,ed,EO,(.box (dA (t) 1))])) (QE (bool false) [r0,r1,r2,r3,r4,r5,r6,r7,r8,r9,ej,ed,EO,(.box (dA (t) 1))])):fx X8 53 Lm L QE [zJ t 1,int n,int before] [r0,r1,r2,r3,r4,r5,r6,r7,r8,r9,ej,ed,EO]:=km h
theorem NP (t:ae) (n before:Int) (r0 r1 r2 r3 r4 r5 r6 r7 r8 r9 ej ed EO:ag) (hb:before<=t.ins.n):LC 53 [zJ t 1,int n,int before] [r0,r1,r2,r3,r4,r5,r6,r7,r8,r9,ej,ed,EO] (bool (e6 t n before)) [r0,r1,r2,r3,r4,r5,r6,r7,r8,r9,ej,ed,EO]:=by
 refine gZ YR (aQ (by kernel_rfl)) (dc (X:=X8) (stop:=Lm) (TK _ _ t n before r0 r1 r2 r3 r4 r5 r6 r7 r8 r9 ej ed EO ?_))
 refine aq (λh=>aq (λh2=>aC (sN (of_decide_eq_true h) (by have:=of_decide_eq_true h2; omega)) ⟨ud _,?_⟩) (λh2=>?_)) (λh=>?_)
 .rw [show e6 t n before=eD (t.ins.get n.toNat).op [1,2,3,4,10,12,14,16,17] from by simp only [e6,show decide (n≥0)=true from h,show decide (n<before)=true from h2,Bool.true_and,Tg]]; exact ⟨13,aQ rfl,aQ rfl,rfl,rfl,bh.refl _,bC _ _⟩
 .rw [show e6 t n before=false from by simp only [e6,show decide (n<before)=false from h2,Bool.false_and,Bool.and_false]]; exact ⟨13,aQ rfl,aQ rfl,rfl,rfl,bh.refl _,bC _ _⟩
 .rw [show e6 t n before=false from by simp only [e6,show decide (n≥0)=false from h,Bool.false_and]]; exact ⟨13,aQ rfl,aQ rfl,rfl,rfl,bh.refl _,bC _ _⟩
theorem Uv (L:LP) (QE:D->List ag->Prop) (t:ae) (n before:Int) (r0 r1 r2 r3 r4 r5 r6 r7 r8 r9 ej ed EO eZ Ws V3:ag) (h:br (decide (n≥0)) (br (decide (n<before)) (nd (cM n t.2.1) ((LC 65 [(int ((t.ins.2 n.toNat).1))] [] (HE t n) []/\QE (bool (eD (t.ins.2 n.toNat).1 [1,2,3,4,10,12,14,16,17])) [r0,r1,r2,r3,r4,r5,r6,r7,r8,r9,ej,ed,EO,eZ,Ws,V3,(.box (dA (t) 1))]))) (QE (bool false) [r0,r1,r2,r3,r4,r5,r6,r7,r8,r9,ej,ed,EO,eZ,Ws,V3,(.box (dA (t) 1))])) (QE (bool false) [r0,r1,r2,r3,r4,r5,r6,r7,r8,r9,ej,ed,EO,eZ,Ws,V3,(.box (dA (t) 1))])):fx X8 53 Lm L QE [zJ t 1,int n,int before] [r0,r1,r2,r3,r4,r5,r6,r7,r8,r9,ej,ed,EO,eZ,Ws,V3]:=km h
theorem Pg (t:ae) (n before:Int) (r0 r1 r2 r3 r4 r5 r6 r7 r8 r9 ej ed EO eZ Ws V3:ag) (hb:before<=t.ins.n):LC 53 [zJ t 1,int n,int before] [r0,r1,r2,r3,r4,r5,r6,r7,r8,r9,ej,ed,EO,eZ,Ws,V3] (bool (e6 t n before)) [r0,r1,r2,r3,r4,r5,r6,r7,r8,r9,ej,ed,EO,eZ,Ws,V3]:=by
 refine gZ YR (aQ (by kernel_rfl)) (dc (X:=X8) (stop:=Lm) (Uv _ _ t n before r0 r1 r2 r3 r4 r5 r6 r7 r8 r9 ej ed EO eZ Ws V3 ?_))
 refine aq (λh=>aq (λh2=>aC (sN (of_decide_eq_true h) (by have:=of_decide_eq_true h2; omega)) ⟨ud _,?_⟩) (λh2=>?_)) (λh=>?_)
 .rw [show e6 t n before=eD (t.ins.get n.toNat).op [1,2,3,4,10,12,14,16,17] from by simp only [e6,show decide (n≥0)=true from h,show decide (n<before)=true from h2,Bool.true_and,Tg]]; exact ⟨16,aQ rfl,aQ rfl,rfl,rfl,bh.refl _,bC _ _⟩
 .rw [show e6 t n before=false from by simp only [e6,show decide (n<before)=false from h2,Bool.false_and,Bool.and_false]]; exact ⟨16,aQ rfl,aQ rfl,rfl,rfl,bh.refl _,bC _ _⟩
 .rw [show e6 t n before=false from by simp only [e6,show decide (n≥0)=false from h,Bool.false_and]]; exact ⟨16,aQ rfl,aQ rfl,rfl,rfl,bh.refl _,bC _ _⟩
open Go Go.V
def Wq:Code->Option (List Tmp×Code×Code)
 | .rangeFunc _ ps a b=>some (ps.toList,a,b)
 | .seq a b=>match Wq a with
   | some x=>some x
   | none=>Wq b
 | .cond _ a b=>match Wq a with
   | some x=>some x
   | none=>Wq b
 | .block _ a=>Wq a
 | .loop a=>Wq a
 | _=>none
noncomputable def gr (f:FuncId):Code:=match Wq (oo f) with
 | some x=>x.2.1
 | none=>.skip
noncomputable def gq (f:FuncId):Code:=match Wq (oo f) with
 | some x=>x.2.2
 | none=>.skip
noncomputable def vcY (X:fN) (f:FuncId) (r:Nat) (Q:D->List ag->Prop) (sl:aK) (rs:List ag):Prop:=
 uP my Try.prog X hints (wv f).ntmps f (some r) cE (λ_ _=>False) (Nl r Q) 10000 false [.code (gr f),.beginRound,.code (gq f)] ⟨sl,rs,[]⟩
theorem Wz {X:fN} {f:FuncId} {r:Nat} {wJ A5:aK} {ps:List Tmp} {ds:List D} {rs:List ag} {d:D} {aJ:List ag} (hr:rs[r]?=some (.loop f (wv f).ntmps wJ ps (gr f) (gq f) .ready none)) (HK:Lg (wv f).ntmps ps ds wJ=some A5) (h:vcY X f r (Go.V.Ends rs d aJ) A5 rs):mO my Try.prog r ds rs d aJ:=
 Aa qi hr HK λb cs hb=>wH (L:=λ_ _=>False) qi mixed hb (λ_ _ q=>q.elim) (λ_ _ q=>q) 10000 h
def E9 (b:Bool) (x:Option ag):ag:=match x with
 | some (.loop f N sl ps c d _ _)=>.loop f N sl ps c d (bif b then .ready else .done) (bif b then none else some .ret)
 | _=>.dead
noncomputable def KJ (n:Nat) (sl:aK):Bool:=List.rec true (λx _ ih=>Bool.rec false ih (jz n x.2.1)) sl
theorem uQ {n:Nat}:∀ {sl:aK},KJ n sl=true->∀ x∈sl,jz n x.2.1=true
 | [],_,x,hx=>by cases hx
 | y::l,h,x,hx=>by
   obtain ⟨h1,h2⟩:=Bool.gC (show (Bool.rec false (KJ n l) (jz n y.2.1):Bool)=true from h)
   rcases List.mem_cons.1 hx with rfl|hx
   .exact h1
   .exact uQ h2 x hx
def eP (n:Nat):List ag->Prop
 | []=>True
 | x::l=>jd n x/\eP n l
theorem eP.mem {n:Nat}:∀ {l:List ag},eP n l->∀ x∈l,jd n x
 | [],_,x,hx=>by cases hx
 | y::l,h,x,hx=>by
   rcases List.mem_cons.1 hx with rfl|hx
   .exact h.1
   .exact eP.mem h.2 x hx
theorem eP.mono {n m:Nat} (hnm:n<=m):∀ {l:List ag},eP n l->eP m l
 | [],_=>trivial
 | _::_,h=>⟨h.1.mono hnm,eP.mono hnm h.2⟩
theorem sA {n:Nat} {f N:Nat} {sl:aK} {ps:List Tmp} {a b:Code} {st:LoopState} {pd:Option Code} (h:KJ n sl=true):jd n (.loop f N sl ps a b st pd):=
 .inr ⟨f,N,sl,ps,a,b,st,pd,rfl,λt d c q=>uQ h _ (iE q)⟩
theorem af.cut {f:FuncId} {n0:Nat} {Q:D->List ag->Prop} {todo:List Item} {s:VS} (n:Nat) (h0:n0<=n) (hn:n<=s.rs.length) (KR:KJ n s.sl=true) (MM:s.df=[]) (Et:eP n (s.rs.take n)) (g:af f n0 Q todo ⟨s.sl,s.rs.take n,s.df⟩):af f n0 Q todo s:=
 λb cs hb=>Goal.ghost (g b cs hb) λay w0 sp a w E dy tr hR qN=>by
  refine ⟨E.take n,by rw [List.take_take,Nat.min_eq_left h0],?_,qN⟩
  exact hR.cut hn (λx hx=>pT h0 (dy x hx)) (λt d q=>uQ KR _ (iE q)) (λt d c q=>qN _ (iE q)) (by rw [MM]; intro r hr; cases hr) (λq x e=>Et.mem x (List.mem_of_getElem? e))
open Go Go.V
noncomputable def Ku (p:Int->Bool):fN:={ F:=F8,S:=[14],FY:=λr ds rs=>(bool (p (aI ds 0)),[(r,E9 (p (aI ds 0)) (aV rs r))],[]) }
def allM (p:Int->Bool) (e:ah):Bool:=dh (λj=>dh (λi=>p ((e.frames.get j).vars.get i)) (e.frames.get j).vars.n) e.frames.n&&dh (λj=>dh (λi=>p ((e.ax.get j).items.get i)) (e.ax.get j).items.n) e.ax.n
def sf:Nat->Bool:=λi=>Nat.beq i 1||Nat.beq i 4||Nat.beq i 10||Nat.beq i 13
theorem aK1:Fn 84:={}
noncomputable abbrev o4:fp:=(0,((.c (.yl 14)),[]))
noncomputable abbrev CR:fp:=(1,((.c (.rt 12 0 0)),[]))
noncomputable abbrev qU (aw:ah):D:=.c (.im (.sl 3 aw.1.1 (λi=>dg (aw.frames.2 i))))
noncomputable abbrev jH (aw:ah):D:=int (↑aw.1.1:Int)
noncomputable abbrev cP (aw:ah):ag:=.box (lift (bn (aw)))
noncomputable abbrev j4 (aw aG:Nat) (bk:aK) (bN:List Tmp) (dp fq:Code):ag:=.loop aw aG bk bN dp fq .ready none
theorem ay7 (L:LP) (QE:D->List ag->Prop) (p:Int->Bool) (e:ah) (r0 r1 r2 r3 r4 r5 r6 r7 r8 r9 ej ed eZ:ag) (f N:Nat) (sl:aK) (ps:List Tmp) (ca cb:Code) (h:L (ai 84 1) ⟨[o4,CR,(12,((qU e),[])),(13,((jH e),[])),(14,((int 0),[]))],[r0,r1,r2,r3,r4,r5,r6,r7,r8,r9,ej,ed,(cP e),eZ,(j4 f N sl ps ca cb)],[]⟩):fx (Ku p) 84 sf L QE [.c (.yl 14),.c (.rt 12 0 0)] [r0,r1,r2,r3,r4,r5,r6,r7,r8,r9,ej,ed,.box (lift (bn e)),eZ,.loop f N sl ps ca cb .ready none]:=km h
noncomputable abbrev DY:fp:=(0,(.c (.yl 14)),[])
noncomputable def Hx (p:Int->Bool) (e:ah) (r0 r1 r2 r3 r4 r5 r6 r7 r8 r9 ej ed eZ:ag) (f N:Nat) (sl:aK) (ps:List Tmp) (ca cb:Code) (j:Nat):VS:=⟨[DY,(1,(.c (.rt 12 0 0)),[]),(12,(qU e),[]),(13,(jH e),[]),(14,int j,[])],[r0,r1,r2,r3,r4,r5,r6,r7,r8,r9,ej,ed,(cP e),eZ,(j4 f N sl ps ca cb)],[]⟩
noncomputable abbrev xU (aw:ah) (aG:Nat):ag:=.box (lift (ka (aw.frames.2 aG)))
noncomputable abbrev tU (aw:ah):D:=.c (.im (.sl 4 aw.2.1 (λi=>eX (aw.ax.2 i))))
noncomputable abbrev jx (aw:ah):D:=int (↑aw.2.1:Int)
theorem Ol (L:LP) (QE:D->List ag->Prop) (p:Int->Bool) (e:ah) (r0 r1 r2 r3 r4 r5 r6 r7 r8 r9 ej ed eZ:ag) (f N:Nat) (sl:aK) (ps:List Tmp) (ca cb:Code) (j:Nat) (h:br (decide ((↑j:Int)<(↑e.1.1:Int))) (nd (cM (↑j:Int) e.1.1) (L (ai 84 4) ⟨[o4,CR,(12,((qU e),[])),(13,((jH e),[])),(14,((int (↑j:Int)),[])),(19,((.c (.im (.sl 1 ((e.frames.2 j).3.1) (λi=>bA ((e.frames.get (↑j:Int).toNat).vars.2 i))))),[])),(20,((int ((↑(e.frames.2 j).3.1:Int))),[])),(21,((int 0),[]))],[r0,r1,r2,r3,r4,r5,r6,r7,r8,r9,ej,ed,(cP e),eZ,(j4 f N sl ps ca cb),(xU e j)],[]⟩)) (L (ai 84 10) ⟨[o4,(32,((tU e),[])),(33,((jx e),[])),(34,((int 0),[]))],[r0,r1,r2,r3,r4,r5,r6,r7,r8,r9,ej,ed,(cP e),eZ,(j4 f N sl ps ca cb)],[]⟩)):cB (Ku p) 84 sf L QE 1 (Hx p e r0 r1 r2 r3 r4 r5 r6 r7 r8 r9 ej ed eZ f N sl ps ca cb j):=km h
noncomputable def MS (p:Int->Bool) (e:ah) (r0 r1 r2 r3 r4 r5 r6 r7 r8 r9 ej ed eZ:ag) (f N:Nat) (sl:aK) (ps:List Tmp) (ca cb:Code) (j i:Nat):VS:=⟨[DY,(1,(.c (.rt 12 0 0)),[]),(12,(.c (.im (.sl 3 e.1.1 (λi=>dg (e.frames.2 i))))),[]),(13,(jH e),[]),(14,int j,[]),(19,(.c (.im (.sl 1 ((e.frames.2 j).3.1) (λi=>bA ((e.frames.get (↑j:Int).toNat).vars.2 i))))),[]),(20,(int ((↑(e.frames.2 j).3.1:Int))),[]),(21,int i,[])],[r0,r1,r2,r3,r4,r5,r6,r7,r8,r9,ej,ed,(cP e),eZ,(j4 f N sl ps ca cb),(xU e j)],[]⟩
theorem RX (L:LP) (QE:D->List ag->Prop) (p:Int->Bool) (e:ah) (r0 r1 r2 r3 r4 r5 r6 r7 r8 r9 ej ed eZ:ag) (f N:Nat) (sl:aK) (ps:List Tmp) (ca cb:Code) (j i:Nat) (h:br (decide ((↑i:Int)<(↑(e.frames.2 j).3.1:Int))) (nd (cM (↑i:Int) (e.frames.2 j).3.1) ((mO my Try.prog 14 [(int ((e.frames.get (↑j:Int).toNat).vars.2 i))] [r0,r1,r2,r3,r4,r5,r6,r7,r8,r9,ej,ed,(.box (lift (bn (e)))),eZ,(.loop f N sl ps ca cb .ready none),(.box (lift (ka (e.frames.2 j))))] (bool (p ((e.frames.get (↑j:Int).toNat).vars.2 i))) [r0,r1,r2,r3,r4,r5,r6,r7,r8,r9,ej,ed,(.box (lift (bn (e)))),eZ,(.loop f N sl ps ca cb (bif p ((e.frames.get (↑j:Int).toNat).vars.2 i) then LoopState.ready else LoopState.done) (bif p ((e.frames.get (↑j:Int).toNat).vars.2 i) then none else some Code.ret)),(.box (lift (ka (e.frames.2 j))))]/\br (!p ((e.frames.get (↑j:Int).toNat).vars.2 i)) (QE (.t []) [r0,r1,r2,r3,r4,r5,r6,r7,r8,r9,ej,ed,(.box (lift (bn (e)))),eZ,(.loop f N sl ps ca cb (bif p ((e.frames.get (↑j:Int).toNat).vars.2 i) then LoopState.ready else LoopState.done) (bif p ((e.frames.get (↑j:Int).toNat).vars.2 i) then none else some Code.ret)),(.box (lift (ka (e.frames.2 j))))]) (L (ai 84 4) ⟨[o4,CR,(12,((.c (.im (.sl 3 e.1.1 (λi=>dg (e.frames.2 i))))),[])),(13,((jH e),[])),(14,((int (↑j:Int)),[])),(19,((.c (.im (.sl 1 ((e.frames.2 j).3.1) (λi=>bA ((e.frames.get (↑j:Int).toNat).vars.2 i))))),[])),(20,((int ((↑(e.frames.2 j).3.1:Int))),[])),(21,((int (IntKind.i64.wrap ((↑i:Int)+1))),[]))],[r0,r1,r2,r3,r4,r5,r6,r7,r8,r9,ej,ed,(cP e),eZ,(.loop f N sl ps ca cb (bif p ((e.frames.get (↑j:Int).toNat).vars.2 i) then LoopState.ready else LoopState.done) (bif p ((e.frames.get (↑j:Int).toNat).vars.2 i) then none else some Code.ret)),(xU e j)],[]⟩)))) (L (ai 84 1) ⟨[o4,CR,(12,((.c (.im (.sl 3 e.1.1 (λi=>dg (e.frames.2 i))))),[])),(13,((jH e),[])),(14,((int (IntKind.i64.wrap ((↑j:Int)+1))),[]))],[r0,r1,r2,r3,r4,r5,r6,r7,r8,r9,ej,ed,(cP e),eZ,(j4 f N sl ps ca cb),(xU e j)],[]⟩)):cB (Ku p) 84 sf L QE 4 (MS p e r0 r1 r2 r3 r4 r5 r6 r7 r8 r9 ej ed eZ f N sl ps ca cb j i):=km h
noncomputable def BX (p:Int->Bool) (e:ah) (r0 r1 r2 r3 r4 r5 r6 r7 r8 r9 ej ed eZ:ag) (f N:Nat) (sl:aK) (ps:List Tmp) (ca cb:Code) (j:Nat):VS:=⟨[DY,(32,(tU e),[]),(33,(jx e),[]),(34,int j,[])],[r0,r1,r2,r3,r4,r5,r6,r7,r8,r9,ej,ed,(cP e),eZ,(j4 f N sl ps ca cb)],[]⟩
noncomputable abbrev rD (aw:ah) (aG:Nat):ag:=.box (lift (lY (aw.ax.2 aG)))
theorem KF (L:LP) (QE:D->List ag->Prop) (p:Int->Bool) (e:ah) (r0 r1 r2 r3 r4 r5 r6 r7 r8 r9 ej ed eZ:ag) (f N:Nat) (sl:aK) (ps:List Tmp) (ca cb:Code) (j:Nat) (h:br (decide ((↑j:Int)<(↑e.2.1:Int))) (nd (cM (↑j:Int) e.2.1) (L (ai 84 13) ⟨[o4,(32,((tU e),[])),(33,((jx e),[])),(34,((int (↑j:Int)),[])),(39,((.c (.im (.sl 1 ((e.ax.2 j).4.1) (λi=>bA ((e.ax.get (↑j:Int).toNat).items.2 i))))),[])),(40,((int ((↑(e.ax.2 j).4.1:Int))),[])),(41,((int 0),[]))],[r0,r1,r2,r3,r4,r5,r6,r7,r8,r9,ej,ed,(cP e),eZ,(j4 f N sl ps ca cb),(rD e j)],[]⟩)) (QE (.t []) [r0,r1,r2,r3,r4,r5,r6,r7,r8,r9,ej,ed,(.box (lift (bn (e)))),eZ,(.loop f N sl ps ca cb .ready none)])):cB (Ku p) 84 sf L QE 10 (BX p e r0 r1 r2 r3 r4 r5 r6 r7 r8 r9 ej ed eZ f N sl ps ca cb j):=km h
noncomputable def KO (p:Int->Bool) (e:ah) (r0 r1 r2 r3 r4 r5 r6 r7 r8 r9 ej ed eZ:ag) (f N:Nat) (sl:aK) (ps:List Tmp) (ca cb:Code) (j i:Nat):VS:=⟨[DY,(32,(.c (.im (.sl 4 e.2.1 (λi=>eX (e.ax.2 i))))),[]),(33,(jx e),[]),(34,int j,[]),(39,(.c (.im (.sl 1 ((e.ax.2 j).4.1) (λi=>bA ((e.ax.get (↑j:Int).toNat).items.2 i))))),[]),(40,(int ((↑(e.ax.2 j).4.1:Int))),[]),(41,int i,[])],[r0,r1,r2,r3,r4,r5,r6,r7,r8,r9,ej,ed,(cP e),eZ,(j4 f N sl ps ca cb),(rD e j)],[]⟩
theorem J6 (L:LP) (QE:D->List ag->Prop) (p:Int->Bool) (e:ah) (r0 r1 r2 r3 r4 r5 r6 r7 r8 r9 ej ed eZ:ag) (f N:Nat) (sl:aK) (ps:List Tmp) (ca cb:Code) (j i:Nat) (h:br (decide ((↑i:Int)<(↑(e.ax.2 j).4.1:Int))) (nd (cM (↑i:Int) (e.ax.2 j).4.1) ((mO my Try.prog 14 [(int ((e.ax.get (↑j:Int).toNat).items.2 i))] [r0,r1,r2,r3,r4,r5,r6,r7,r8,r9,ej,ed,(.box (lift (bn (e)))),eZ,(.loop f N sl ps ca cb .ready none),(.box (lift (lY (e.ax.2 j))))] (bool (p ((e.ax.get (↑j:Int).toNat).items.2 i))) [r0,r1,r2,r3,r4,r5,r6,r7,r8,r9,ej,ed,(.box (lift (bn (e)))),eZ,(.loop f N sl ps ca cb (bif p ((e.ax.get (↑j:Int).toNat).items.2 i) then LoopState.ready else LoopState.done) (bif p ((e.ax.get (↑j:Int).toNat).items.2 i) then none else some Code.ret)),(.box (lift (lY (e.ax.2 j))))]/\br (!p ((e.ax.get (↑j:Int).toNat).items.2 i)) (QE (.t []) [r0,r1,r2,r3,r4,r5,r6,r7,r8,r9,ej,ed,(.box (lift (bn (e)))),eZ,(.loop f N sl ps ca cb (bif p ((e.ax.get (↑j:Int).toNat).items.2 i) then LoopState.ready else LoopState.done) (bif p ((e.ax.get (↑j:Int).toNat).items.2 i) then none else some Code.ret)),(.box (lift (lY (e.ax.2 j))))]) (L (ai 84 13) ⟨[o4,(32,((.c (.im (.sl 4 e.2.1 (λi=>eX (e.ax.2 i))))),[])),(33,((jx e),[])),(34,((int (↑j:Int)),[])),(39,((.c (.im (.sl 1 ((e.ax.2 j).4.1) (λi=>bA ((e.ax.get (↑j:Int).toNat).items.2 i))))),[])),(40,((int ((↑(e.ax.2 j).4.1:Int))),[])),(41,((int (IntKind.i64.wrap ((↑i:Int)+1))),[]))],[r0,r1,r2,r3,r4,r5,r6,r7,r8,r9,ej,ed,(cP e),eZ,(.loop f N sl ps ca cb (bif p ((e.ax.get (↑j:Int).toNat).items.2 i) then LoopState.ready else LoopState.done) (bif p ((e.ax.get (↑j:Int).toNat).items.2 i) then none else some Code.ret)),(rD e j)],[]⟩)))) (L (ai 84 10) ⟨[o4,(32,((.c (.im (.sl 4 e.2.1 (λi=>eX (e.ax.2 i))))),[])),(33,((jx e),[])),(34,((int (IntKind.i64.wrap ((↑j:Int)+1))),[]))],[r0,r1,r2,r3,r4,r5,r6,r7,r8,r9,ej,ed,(cP e),eZ,(j4 f N sl ps ca cb),(rD e j)],[]⟩)):cB (Ku p) 84 sf L QE 13 (KO p e r0 r1 r2 r3 r4 r5 r6 r7 r8 r9 ej ed eZ f N sl ps ca cb j i):=km h
theorem VO (p:Int->Bool) (e:ah) (r0 r1 r2 r3 r4 r5 r6 r7 r8 r9 ej ed eZ:ag) (f N:Nat) (sl:aK) (ps:List Tmp) (ca cb:Code) (hy:∀ (n:Int) (x:ag),mO my Try.prog 14 [int n] [r0,r1,r2,r3,r4,r5,r6,r7,r8,r9,ej,ed,.box (lift (bn e)),eZ,.loop f N sl ps ca cb .ready none,x] (bool (p n)) [r0,r1,r2,r3,r4,r5,r6,r7,r8,r9,ej,ed,.box (lift (bn e)),eZ,.loop f N sl ps ca cb (bif p n then .ready else .done) (bif p n then none else some .ret),x]) (hS:gS e) (hw:eP 15 [r0,r1,r2,r3,r4,r5,r6,r7,r8,r9,ej,ed,.box (lift (bn e)),eZ,.loop f N sl ps ca cb .ready none]) (a:Bool) (j:Nat) (hj:j<e.ax.n) (end_:cn (λj=>dh (λi=>p ((e.ax.get j).items.get i)) (e.ax.get j).items.n) (e.ax.n-(j+1)) (j+1)=a->af 84 15 (Go.V.Ends [r0,r1,r2,r3,r4,r5,r6,r7,r8,r9,ej,ed,.box (lift (bn e)),eZ,.loop f N sl ps ca cb .ready none] (.t []) [r0,r1,r2,r3,r4,r5,r6,r7,r8,r9,ej,ed,.box (lift (bn e)),eZ,.loop f N sl ps ca cb (bif a then .ready else .done) (bif a then none else some .ret)]) (ai 84 10) (BX p e r0 r1 r2 r3 r4 r5 r6 r7 r8 r9 ej ed eZ f N sl ps ca cb (j+1))):∀ i,i<=(e.ax.get j).items.n->(cn (λi=>p ((e.ax.get j).items.get i)) ((e.ax.get j).items.n-i) i&&cn (λj=>dh (λi=>p ((e.ax.get j).items.get i)) (e.ax.get j).items.n) (e.ax.n-(j+1)) (j+1))=a->af 84 15 (Go.V.Ends [r0,r1,r2,r3,r4,r5,r6,r7,r8,r9,ej,ed,.box (lift (bn e)),eZ,.loop f N sl ps ca cb .ready none] (.t []) [r0,r1,r2,r3,r4,r5,r6,r7,r8,r9,ej,ed,.box (lift (bn e)),eZ,.loop f N sl ps ca cb (bif a then .ready else .done) (bif a then none else some .ret)]) (ai 84 13) (KO p e r0 r1 r2 r3 r4 r5 r6 r7 r8 r9 ej ed eZ f N sl ps ca cb j i):=by
 have hV:(e.ax.get j).items.n<=1000:=hS.items j hj
 have hN:e.ax.n<=1000:=hS.ax
 refine aU (λi hi ih ha=>?_) (λha=>?_)
 .have q:(e.ax.get j).items.n-i=((e.ax.get j).items.n-(i+1))+1:=by omega
  rw [q] at ha
  refine aF (X:=Ku p) (stop:=sf) (J6 _ _ p e r0 r1 r2 r3 r4 r5 r6 r7 r8 r9 ej ed eZ f N sl ps ca cb j i ?_)
  rw [dr hi (cW hV (by decide))]
  refine aq (λh=>?_) (λh=>(dec_lt h hi).elim)
  refine aC (a8 hi) ⟨hy _ _,?_⟩
  refine aq (λh1=>?_) (λh1=>?_)
  .have h1:=(Bool.not_eq_true' _).mp h1
   rw [h1]
   rw [eN (p:=(λi=>p ((e.ax.get j).items.get i))) h1,Bool.false_and] at ha
   subst ha
   refine ⟨15,aQ rfl,aQ rfl,rfl,rfl,bh.refl _,?_⟩
   repeat' (first|exact trivial|refine ⟨.inl (.inl rfl),?_⟩|refine ⟨.inl (.inr ⟨_,_,_,_,_,_,_,_,_,_,rfl,rfl⟩),?_⟩|done)
  .have h1:=(Bool.not_eq_false' _▸h1:p _=true)
   rw [h1]
   rw [fR (p:=(λi=>p ((e.ax.get j).items.get i))) h1] at ha
   exact ih ha
 .rw [Nat.sub_self] at ha
  refine aF (X:=Ku p) (stop:=sf) (J6 _ _ p e r0 r1 r2 r3 r4 r5 r6 r7 r8 r9 ej ed eZ f N sl ps ca cb j _ ?_)
  rw [dr hj (cW hN (by decide))]
  refine aq (λh=>bS h) (λh=>?_)
  exact af.cut 15 (bG _) (aQ rfl) rfl rfl hw (end_ (by simpa [cn] using ha))
theorem VV (p:Int->Bool) (e:ah) (r0 r1 r2 r3 r4 r5 r6 r7 r8 r9 ej ed eZ:ag) (f N:Nat) (sl:aK) (ps:List Tmp) (ca cb:Code) (hy:∀ (n:Int) (x:ag),mO my Try.prog 14 [int n] [r0,r1,r2,r3,r4,r5,r6,r7,r8,r9,ej,ed,.box (lift (bn e)),eZ,.loop f N sl ps ca cb .ready none,x] (bool (p n)) [r0,r1,r2,r3,r4,r5,r6,r7,r8,r9,ej,ed,.box (lift (bn e)),eZ,.loop f N sl ps ca cb (bif p n then .ready else .done) (bif p n then none else some .ret),x]) (hS:gS e) (hw:eP 15 [r0,r1,r2,r3,r4,r5,r6,r7,r8,r9,ej,ed,.box (lift (bn e)),eZ,.loop f N sl ps ca cb .ready none]) (a:Bool):∀ j,j<=e.ax.n->(cn (λj=>dh (λi=>p ((e.ax.get j).items.get i)) (e.ax.get j).items.n) (e.ax.n-j) j)=a->af 84 15 (Go.V.Ends [r0,r1,r2,r3,r4,r5,r6,r7,r8,r9,ej,ed,.box (lift (bn e)),eZ,.loop f N sl ps ca cb .ready none] (.t []) [r0,r1,r2,r3,r4,r5,r6,r7,r8,r9,ej,ed,.box (lift (bn e)),eZ,.loop f N sl ps ca cb (bif a then .ready else .done) (bif a then none else some .ret)]) (ai 84 10) (BX p e r0 r1 r2 r3 r4 r5 r6 r7 r8 r9 ej ed eZ f N sl ps ca cb j):=by
 have hN:e.ax.n<=1000:=hS.ax
 refine aU (λj hj ih ha=>?_) (λha=>?_)
 .have q:e.ax.n-j=(e.ax.n-(j+1))+1:=by omega
  rw [q] at ha
  refine aF (X:=Ku p) (stop:=sf) (KF _ _ p e r0 r1 r2 r3 r4 r5 r6 r7 r8 r9 ej ed eZ f N sl ps ca cb j ?_)
  refine aq (λh=>?_) (λh=>(dec_lt h hj).elim)
  refine aC (a8 hj) ?_
  refine VO p e r0 r1 r2 r3 r4 r5 r6 r7 r8 r9 ej ed eZ f N sl ps ca cb hy hS hw a j hj (λq=>ih q) 0 (bu _) ?_
  have e2:cn (λj=>dh (λi=>p ((e.ax.get j).items.get i)) (e.ax.get j).items.n) (e.ax.n-(j+1)+1) j=(cn (λi=>p ((e.ax.get j).items.get i)) (e.ax.get j).items.n 0&&cn (λj=>dh (λi=>p ((e.ax.get j).items.get i)) (e.ax.get j).items.n) (e.ax.n-(j+1)) (j+1)):=by
   show (bif dh (λi=>p ((e.ax.get j).items.get i)) (e.ax.get j).items.n then cn (λj=>dh (λi=>p ((e.ax.get j).items.get i)) (e.ax.get j).items.n) (e.ax.n-(j+1)) (j+1) else false)=_
   unfold dh
   cases cn (λi=>p ((e.ax.get j).items.get i)) (e.ax.get j).items.n 0<;>rfl
  rw [e2] at ha
  rw [Nat.sub_zero]
  simpa [Bool.and_assoc] using ha
 .rw [Nat.sub_self] at ha
  refine aF (X:=Ku p) (stop:=sf) (KF _ _ p e r0 r1 r2 r3 r4 r5 r6 r7 r8 r9 ej ed eZ f N sl ps ca cb _ ?_)
  refine aq (λh=>bS h) (λh=>?_)
  have ha:true=a:=ha
  subst ha
  refine ⟨15,aQ rfl,aQ rfl,rfl,rfl,bh.refl _,?_⟩
  repeat' (first|exact trivial|refine ⟨.inl (.inl rfl),?_⟩|refine ⟨.inl (.inr ⟨_,_,_,_,_,_,_,_,_,_,rfl,rfl⟩),?_⟩|done)
theorem Zf (p:Int->Bool) (e:ah) (r0 r1 r2 r3 r4 r5 r6 r7 r8 r9 ej ed eZ:ag) (f N:Nat) (sl:aK) (ps:List Tmp) (ca cb:Code) (hy:∀ (n:Int) (x:ag),mO my Try.prog 14 [int n] [r0,r1,r2,r3,r4,r5,r6,r7,r8,r9,ej,ed,.box (lift (bn e)),eZ,.loop f N sl ps ca cb .ready none,x] (bool (p n)) [r0,r1,r2,r3,r4,r5,r6,r7,r8,r9,ej,ed,.box (lift (bn e)),eZ,.loop f N sl ps ca cb (bif p n then .ready else .done) (bif p n then none else some .ret),x]) (hS:gS e) (hw:eP 15 [r0,r1,r2,r3,r4,r5,r6,r7,r8,r9,ej,ed,.box (lift (bn e)),eZ,.loop f N sl ps ca cb .ready none]) (a:Bool) (j:Nat) (hj:j<e.frames.n) (end_:(cn (λj=>dh (λi=>p ((e.frames.get j).vars.get i)) (e.frames.get j).vars.n) (e.frames.n-(j+1)) (j+1)&&dh (λj=>dh (λi=>p ((e.ax.get j).items.get i)) (e.ax.get j).items.n) e.ax.n)=a->af 84 15 (Go.V.Ends [r0,r1,r2,r3,r4,r5,r6,r7,r8,r9,ej,ed,.box (lift (bn e)),eZ,.loop f N sl ps ca cb .ready none] (.t []) [r0,r1,r2,r3,r4,r5,r6,r7,r8,r9,ej,ed,.box (lift (bn e)),eZ,.loop f N sl ps ca cb (bif a then .ready else .done) (bif a then none else some .ret)]) (ai 84 1) (Hx p e r0 r1 r2 r3 r4 r5 r6 r7 r8 r9 ej ed eZ f N sl ps ca cb (j+1))):∀ i,i<=(e.frames.get j).vars.n->(cn (λi=>p ((e.frames.get j).vars.get i)) ((e.frames.get j).vars.n-i) i&&(cn (λj=>dh (λi=>p ((e.frames.get j).vars.get i)) (e.frames.get j).vars.n) (e.frames.n-(j+1)) (j+1)&&dh (λj=>dh (λi=>p ((e.ax.get j).items.get i)) (e.ax.get j).items.n) e.ax.n))=a->af 84 15 (Go.V.Ends [r0,r1,r2,r3,r4,r5,r6,r7,r8,r9,ej,ed,.box (lift (bn e)),eZ,.loop f N sl ps ca cb .ready none] (.t []) [r0,r1,r2,r3,r4,r5,r6,r7,r8,r9,ej,ed,.box (lift (bn e)),eZ,.loop f N sl ps ca cb (bif a then .ready else .done) (bif a then none else some .ret)]) (ai 84 4) (MS p e r0 r1 r2 r3 r4 r5 r6 r7 r8 r9 ej ed eZ f N sl ps ca cb j i):=by
 have hV:(e.frames.get j).vars.n<=1000:=hS.vars j hj
 have hN:e.frames.n<=1000:=hS.frames
 refine aU (λi hi ih ha=>?_) (λha=>?_)
 .have q:(e.frames.get j).vars.n-i=((e.frames.get j).vars.n-(i+1))+1:=by omega
  rw [q] at ha
  refine aF (X:=Ku p) (stop:=sf) (RX _ _ p e r0 r1 r2 r3 r4 r5 r6 r7 r8 r9 ej ed eZ f N sl ps ca cb j i ?_)
  rw [dr hi (cW hV (by decide))]
  refine aq (λh=>?_) (λh=>(dec_lt h hi).elim)
  refine aC (a8 hi) ⟨hy _ _,?_⟩
  refine aq (λh1=>?_) (λh1=>?_)
  .have h1:=(Bool.not_eq_true' _).mp h1
   rw [h1]
   rw [eN (p:=(λi=>p ((e.frames.get j).vars.get i))) h1,Bool.false_and] at ha
   subst ha
   refine ⟨15,aQ rfl,aQ rfl,rfl,rfl,bh.refl _,?_⟩
   repeat' (first|exact trivial|refine ⟨.inl (.inl rfl),?_⟩|refine ⟨.inl (.inr ⟨_,_,_,_,_,_,_,_,_,_,rfl,rfl⟩),?_⟩|done)
  .have h1:=(Bool.not_eq_false' _▸h1:p _=true)
   rw [h1]
   rw [fR (p:=(λi=>p ((e.frames.get j).vars.get i))) h1] at ha
   exact ih ha
 .rw [Nat.sub_self] at ha
  refine aF (X:=Ku p) (stop:=sf) (RX _ _ p e r0 r1 r2 r3 r4 r5 r6 r7 r8 r9 ej ed eZ f N sl ps ca cb j _ ?_)
  rw [dr hj (cW hN (by decide))]
  refine aq (λh=>bS h) (λh=>?_)
  exact af.cut 15 (bG _) (aQ rfl) rfl rfl hw (end_ (by simpa [cn] using ha))
theorem Ys (p:Int->Bool) (e:ah) (r0 r1 r2 r3 r4 r5 r6 r7 r8 r9 ej ed eZ:ag) (f N:Nat) (sl:aK) (ps:List Tmp) (ca cb:Code) (hy:∀ (n:Int) (x:ag),mO my Try.prog 14 [int n] [r0,r1,r2,r3,r4,r5,r6,r7,r8,r9,ej,ed,.box (lift (bn e)),eZ,.loop f N sl ps ca cb .ready none,x] (bool (p n)) [r0,r1,r2,r3,r4,r5,r6,r7,r8,r9,ej,ed,.box (lift (bn e)),eZ,.loop f N sl ps ca cb (bif p n then .ready else .done) (bif p n then none else some .ret),x]) (hS:gS e) (hw:eP 15 [r0,r1,r2,r3,r4,r5,r6,r7,r8,r9,ej,ed,.box (lift (bn e)),eZ,.loop f N sl ps ca cb .ready none]) (a:Bool):∀ j,j<=e.frames.n->(cn (λj=>dh (λi=>p ((e.frames.get j).vars.get i)) (e.frames.get j).vars.n) (e.frames.n-j) j&&dh (λj=>dh (λi=>p ((e.ax.get j).items.get i)) (e.ax.get j).items.n) e.ax.n)=a->af 84 15 (Go.V.Ends [r0,r1,r2,r3,r4,r5,r6,r7,r8,r9,ej,ed,.box (lift (bn e)),eZ,.loop f N sl ps ca cb .ready none] (.t []) [r0,r1,r2,r3,r4,r5,r6,r7,r8,r9,ej,ed,.box (lift (bn e)),eZ,.loop f N sl ps ca cb (bif a then .ready else .done) (bif a then none else some .ret)]) (ai 84 1) (Hx p e r0 r1 r2 r3 r4 r5 r6 r7 r8 r9 ej ed eZ f N sl ps ca cb j):=by
 have hN:e.frames.n<=1000:=hS.frames
 refine aU (λj hj ih ha=>?_) (λha=>?_)
 .have q:e.frames.n-j=(e.frames.n-(j+1))+1:=by omega
  rw [q] at ha
  refine aF (X:=Ku p) (stop:=sf) (Ol _ _ p e r0 r1 r2 r3 r4 r5 r6 r7 r8 r9 ej ed eZ f N sl ps ca cb j ?_)
  refine aq (λh=>?_) (λh=>(dec_lt h hj).elim)
  refine aC (a8 hj) ?_
  refine Zf p e r0 r1 r2 r3 r4 r5 r6 r7 r8 r9 ej ed eZ f N sl ps ca cb hy hS hw a j hj (λq=>ih q) 0 (bu _) ?_
  have e2:cn (λj=>dh (λi=>p ((e.frames.get j).vars.get i)) (e.frames.get j).vars.n) (e.frames.n-(j+1)+1) j=(cn (λi=>p ((e.frames.get j).vars.get i)) (e.frames.get j).vars.n 0&&cn (λj=>dh (λi=>p ((e.frames.get j).vars.get i)) (e.frames.get j).vars.n) (e.frames.n-(j+1)) (j+1)):=by
   show (bif dh (λi=>p ((e.frames.get j).vars.get i)) (e.frames.get j).vars.n then cn (λj=>dh (λi=>p ((e.frames.get j).vars.get i)) (e.frames.get j).vars.n) (e.frames.n-(j+1)) (j+1) else false)=_
   unfold dh
   cases cn (λi=>p ((e.frames.get j).vars.get i)) (e.frames.get j).vars.n 0<;>rfl
  rw [e2] at ha
  rw [Nat.sub_zero]
  simpa [Bool.and_assoc] using ha
 .rw [Nat.sub_self] at ha
  refine aF (X:=Ku p) (stop:=sf) (Ol _ _ p e r0 r1 r2 r3 r4 r5 r6 r7 r8 r9 ej ed eZ f N sl ps ca cb _ ?_)
  refine aq (λh=>bS h) (λh=>?_)
  exact VV p e r0 r1 r2 r3 r4 r5 r6 r7 r8 r9 ej ed eZ f N sl ps ca cb hy hS hw a 0 (bu _) (by simpa [cn,dh] using ha)
theorem ao4 (p:Int->Bool) (e:ah) (r0 r1 r2 r3 r4 r5 r6 r7 r8 r9 ej ed eZ:ag) (f N:Nat) (sl:aK) (ps:List Tmp) (ca cb:Code) (hy:∀ (n:Int) (x:ag),mO my Try.prog 14 [int n] [r0,r1,r2,r3,r4,r5,r6,r7,r8,r9,ej,ed,.box (lift (bn e)),eZ,.loop f N sl ps ca cb .ready none,x] (bool (p n)) [r0,r1,r2,r3,r4,r5,r6,r7,r8,r9,ej,ed,.box (lift (bn e)),eZ,.loop f N sl ps ca cb (bif p n then .ready else .done) (bif p n then none else some .ret),x]) (hS:gS e) (hw:eP 15 [r0,r1,r2,r3,r4,r5,r6,r7,r8,r9,ej,ed,.box (lift (bn e)),eZ,.loop f N sl ps ca cb .ready none]):LC 84 [.c (.yl 14),.c (.rt 12 0 0)] [r0,r1,r2,r3,r4,r5,r6,r7,r8,r9,ej,ed,.box (lift (bn e)),eZ,.loop f N sl ps ca cb .ready none] (.t []) [r0,r1,r2,r3,r4,r5,r6,r7,r8,r9,ej,ed,.box (lift (bn e)),eZ,.loop f N sl ps ca cb (bif allM p e then .ready else .done) (bif allM p e then none else some .ret)]:=
 gZ aK1 (aQ (by kernel_rfl)) (dc (X:=Ku p) (stop:=sf) (ay7 _ _ p e r0 r1 r2 r3 r4 r5 r6 r7 r8 r9 ej ed eZ f N sl ps ca cb (Ys p e r0 r1 r2 r3 r4 r5 r6 r7 r8 r9 ej ed eZ f N sl ps ca cb hy hS hw (allM p e) 0 (bu _) (by unfold allM dh; rfl))))
open Go Go.V
noncomputable def G0:aK:=[(3,.c (.rt 6 0 0),[]),(5,.c (.rt 8 0 0),[]),(6,.c (.rt 9 0 0),[]),(7,.c (.rt 11 0 0),[]),(110,.c (.dM 84 [12]),[])]
noncomputable def Su (p:Bool):fN:={ F:=F8,S:=[14],B:=λ_ _ _=>p,R1:=λ_ _ _=>(.t [],[],[]),R2:=λ_ ds rs=>(.t [],[(14,E9 false (aV rs 14))],[]) }
noncomputable def jZ (t:ae) (k:Int) (v:List Int) (n:Int):Bool:=n == -1||(e6 t n k && !((t.ins.get n.toNat).op==17 && !dX n v))
noncomputable def lk (x:Sq cG):Nat->List Int
 | 0=>[]
 | j+1=>sV (x.get j).value (lk x j)
noncomputable def L5 (t:ae) (e:ah) (k:Int) (j:Nat):Bool := !(!e6 t (e.ax.get j).value k||(dX (e.ax.get j).value (lk e.ax j)||((((e.ax.get j).items.n:Int)!=((e.ax.get j).names.n:Int))||(((t.ins.get (e.ax.get j).value.toNat).op != 17)||(((t.ins.get (e.ax.get j).value.toNat).n != (e.ax.get j).cls) || !bU jR (t.ins.get (e.ax.get j).value.toNat).names (e.ax.get j).names)))))
noncomputable def lK (t:ae) (e:ah) (k:Int):Bool := !(decide ((e.frames.n:Int)<1)||(decide ((e.frames.n:Int)>6)||decide (e.back<0)))&&(dh (L5 t e k) e.ax.n&&(dh (λj=>MO (e.frames.get j)) e.frames.n&&allM (jZ t k (lk e.ax e.ax.n)) e))
def zH:Nat->Bool:=λi=>Nat.beq i 5||Nat.beq i 15||Nat.beq i 20
theorem aL4:Fn 54:={}
noncomputable abbrev xZ:fp:=(3,((.c (.rt 6 0 0)),[]))
noncomputable abbrev zp:fp:=(4,((.c (.rt 7 0 0)),[]))
noncomputable abbrev yN:fp:=(5,((.c (.rt 8 0 0)),[]))
noncomputable abbrev yK:fp:=(6,((.c (.rt 9 0 0)),[]))
noncomputable abbrev xI:fp:=(7,((.c (.rt 11 0 0)),[]))
noncomputable abbrev eM (aw:ae):ag:=.box (dA (aw) 1)
noncomputable abbrev dS:C:=.im (.v (.bool false))
theorem aI1 (L:LP) (QE:D->List ag->Prop) (p:Bool) (t:ae) (e:ah) (k:Int) (r0 r1 r2 r3 r4 r5:ag) (h:br (decide ((↑e.1.1:Int)<1)) (QE (bool false) [r0,r1,r2,r3,r4,r5,(.box (dA (t) 1)),(.box (lift (bn (e)))),(.box [(ci k)]),(.box [(.im (.v (.bool false)))])]) (br (decide ((↑e.1.1:Int)>6)) (QE (bool false) [r0,r1,r2,r3,r4,r5,(.box (dA (t) 1)),(.box (lift (bn (e)))),(.box [(ci k)]),(.box [(.im (.v (.bool false)))])]) (br (decide (e.3<0)) (QE (bool false) [r0,r1,r2,r3,r4,r5,(.box (dA (t) 1)),(.box (lift (bn (e)))),(.box [(ci k)]),(.box [(.im (.v (.bool false)))])]) (L (ai 54 5) ⟨[xZ,zp,yN,yK,xI,(31,((tU e),[])),(32,((jx e),[])),(33,((int 0),[]))],[r0,r1,r2,r3,r4,r5,(eM t),(cP e),(.box [(ci k)]),(.box [dS]),(.set []),(.box [(.mp 10)])],[]⟩)))):fx (Su p) 54 zH L QE [zJ t 1,qw e,int k] [r0,r1,r2,r3,r4,r5]:=km h
noncomputable def Hb (p:Bool) (t:ae) (e:ah) (k:Int) (r0 r1 r2 r3 r4 r5:ag) (v:List Int) (j:Nat):VS:=⟨[(3,(.c (.rt 6 0 0)),[]),(4,(.c (.rt 7 0 0)),[]),(5,(.c (.rt 8 0 0)),[]),(6,(.c (.rt 9 0 0)),[]),(7,(.c (.rt 11 0 0)),[]),(31,(tU e),[]),(32,(jx e),[]),(33,int j,[])],[r0,r1,r2,r3,r4,r5,(eM t),(cP e),(.box [(ci k)]),(.box [dS]),.set v,(.box [(.mp 10)])],[]⟩
theorem M0 (L:LP) (QE:D->List ag->Prop) (p:Bool) (t:ae) (e:ah) (k:Int) (r0 r1 r2 r3 r4 r5:ag) (v:List Int) (j:Nat) (h:br (decide ((↑j:Int)<(↑e.2.1:Int))) (nd (cM (↑j:Int) e.2.1) ((LC 53 [(.a (dA (t) 1)),(int ((e.ax.2 j).1)),(int k)] [r0,r1,r2,r3,r4,r5,(eM t),(cP e),(.box [(ci k)]),(.box [dS]),(.set v),(.box [(.mp 10)]),(rD e j)] (bool (e6 t (e.ax.2 j).1 k)) [r0,r1,r2,r3,r4,r5,(eM t),(cP e),(.box [(ci k)]),(.box [dS]),(.set v),(.box [(.mp 10)]),(rD e j)]/\br (!e6 t (e.ax.2 j).1 k) (QE (bool false) [r0,r1,r2,r3,r4,r5,(.box (dA (t) 1)),(.box (lift (bn (e)))),(.box [(ci k)]),(.box [(.im (.v (.bool false)))]),(.set v),(.box [(.mp 10)]),(.box (lift (lY (e.ax.2 j))))]) (br (dX (e.ax.2 j).1 v) (QE (bool false) [r0,r1,r2,r3,r4,r5,(.box (dA (t) 1)),(.box (lift (bn (e)))),(.box [(ci k)]),(.box [(.im (.v (.bool false)))]),(.set v),(.box [(.mp 10)]),(.box (lift (lY (e.ax.2 j))))]) (br ((↑(e.ax.2 j).4.1:Int)!=(↑(e.ax.2 j).3.1:Int)) (QE (bool false) [r0,r1,r2,r3,r4,r5,(.box (dA (t) 1)),(.box (lift (bn (e)))),(.box [(ci k)]),(.box [(.im (.v (.bool false)))]),(.set v),(.box [(.mp 10)]),(.box (lift (lY (e.ax.2 j))))]) (nd (cM (e.ax.2 j).1 t.2.1) (br ((t.ins.2 (e.ax.2 j).1.toNat).1 != 17) (QE (bool false) [r0,r1,r2,r3,r4,r5,(.box (dA (t) 1)),(.box (lift (bn (e)))),(.box [(ci k)]),(.box [(.im (.v (.bool false)))]),(.set v),(.box [(.mp 10)]),(.box (lift (lY (e.ax.2 j)))),(.box (lift (aN (t.ins.2 (e.ax.2 j).1.toNat))))]) (br ((t.ins.2 (e.ax.2 j).1.toNat).5 != (e.ax.2 j).2) (QE (bool false) [r0,r1,r2,r3,r4,r5,(.box (dA (t) 1)),(.box (lift (bn (e)))),(.box [(ci k)]),(.box [(.im (.v (.bool false)))]),(.set v),(.box [(.mp 10)]),(.box (lift (lY (e.ax.2 j)))),(.box (lift (aN (t.ins.2 (e.ax.2 j).1.toNat))))]) ((LC 55 [(.c (.im (.sl 1 ((t.ins.2 (e.ax.2 j).1.toNat).8.1) (λi=>cw ((t.ins.get (e.ax.get (↑j:Int).toNat).value.toNat).names.2 i))))),(.c (.im (.sl 1 ((e.ax.2 j).3.1) (λi=>cw ((e.ax.get (↑j:Int).toNat).names.2 i)))))] [] (bool (bU jR (t.ins.2 (e.ax.2 j).1.toNat).8 (e.ax.2 j).3)) []/\br (!bU jR (t.ins.2 (e.ax.2 j).1.toNat).8 (e.ax.2 j).3) (QE (bool false) [r0,r1,r2,r3,r4,r5,(.box (dA (t) 1)),(.box (lift (bn (e)))),(.box [(ci k)]),(.box [(.im (.v (.bool false)))]),(.set v),(.box [(.mp 10)]),(.box (lift (lY (e.ax.2 j)))),(.box (lift (aN (t.ins.2 (e.ax.2 j).1.toNat))))]) (L (ai 54 5) ⟨[xZ,zp,yN,yK,xI,(31,((tU e),[])),(32,((jx e),[])),(33,((int (IntKind.i64.wrap ((↑j:Int)+1))),[]))],[r0,r1,r2,r3,r4,r5,(eM t),(cP e),(.box [(ci k)]),(.box [dS]),(.set (sV (e.ax.2 j).1 v)),(.box [(.mp 10)]),(rD e j),(.box (lift (aN (t.ins.2 (e.ax.2 j).1.toNat))))],[]⟩))))))))))) (L (ai 54 15) ⟨[xZ,zp,yN,yK,xI,(88,((qU e),[])),(89,((jH e),[])),(90,((int 0),[]))],[r0,r1,r2,r3,r4,r5,(eM t),(cP e),(.box [(ci k)]),(.box [dS]),(.set v),(.box [(.mp 10)])],[]⟩)):cB (Su p) 54 zH L QE 5 (Hb p t e k r0 r1 r2 r3 r4 r5 v j):=km h
noncomputable def Dj (p:Bool) (t:ae) (e:ah) (k:Int) (r0 r1 r2 r3 r4 r5:ag) (v:List Int) (j:Nat):VS:=⟨[(3,(.c (.rt 6 0 0)),[]),(4,(.c (.rt 7 0 0)),[]),(5,(.c (.rt 8 0 0)),[]),(6,(.c (.rt 9 0 0)),[]),(7,(.c (.rt 11 0 0)),[]),(88,(qU e),[]),(89,(jH e),[]),(90,int j,[])],[r0,r1,r2,r3,r4,r5,(eM t),(cP e),(.box [(ci k)]),(.box [dS]),.set v,(.box [(.mp 10)])],[]⟩
theorem Kj (L:LP) (QE:D->List ag->Prop) (p:Bool) (t:ae) (e:ah) (k:Int) (r0 r1 r2 r3 r4 r5:ag) (v:List Int) (j:Nat) (h:br (decide ((↑j:Int)<(↑e.1.1:Int))) (nd (cM (↑j:Int) e.1.1) (br (decide ((e.frames.2 j).1<0)) (QE (bool false) [r0,r1,r2,r3,r4,r5,(.box (dA (t) 1)),(.box (lift (bn (e)))),(.box [(ci k)]),(.box [(.im (.v (.bool false)))]),(.set v),(.box [(.mp 10)]),(.box (lift (ka (e.frames.2 j))))]) (br (decide ((e.frames.2 j).2<0)) (QE (bool false) [r0,r1,r2,r3,r4,r5,(.box (dA (t) 1)),(.box (lift (bn (e)))),(.box [(ci k)]),(.box [(.im (.v (.bool false)))]),(.set v),(.box [(.mp 10)]),(.box (lift (ka (e.frames.2 j))))]) (br (decide ((↑(e.frames.2 j).3.1:Int)>24)) (QE (bool false) [r0,r1,r2,r3,r4,r5,(.box (dA (t) 1)),(.box (lift (bn (e)))),(.box [(ci k)]),(.box [(.im (.v (.bool false)))]),(.set v),(.box [(.mp 10)]),(.box (lift (ka (e.frames.2 j))))]) (L (ai 54 15) ⟨[xZ,zp,yN,yK,xI,(88,((qU e),[])),(89,((jH e),[])),(90,((int (IntKind.i64.wrap ((↑j:Int)+1))),[]))],[r0,r1,r2,r3,r4,r5,(eM t),(cP e),(.box [(ci k)]),(.box [dS]),(.set v),(.box [(.mp 10)]),(xU e j)],[]⟩))))) (L (ai 54 20) ⟨[xZ,zp,yN,yK,xI,(88,((qU e),[])),(89,((jH e),[])),(90,((int (↑j:Int)),[])),(91,((bool false),[]))],[r0,r1,r2,r3,r4,r5,(eM t),(cP e),(.box [(ci k)]),(.box [dS]),(.set v),(.box [(.mp 10)])],[]⟩)):cB (Su p) 54 zH L QE 15 (Dj p t e k r0 r1 r2 r3 r4 r5 v j):=km h
noncomputable def BH (p:Bool) (t:ae) (e:ah) (k:Int) (r0 r1 r2 r3 r4 r5:ag) (v:List Int):VS:=⟨[(3,(.c (.rt 6 0 0)),[]),(4,(.c (.rt 7 0 0)),[]),(5,(.c (.rt 8 0 0)),[]),(6,(.c (.rt 9 0 0)),[]),(7,(.c (.rt 11 0 0)),[])],[r0,r1,r2,r3,r4,r5,(eM t),(cP e),(.box [(ci k)]),(.box [dS]),.set v,(.box [(.mp 10)])],[]⟩
noncomputable abbrev O6 (aw aG bk bN dp fq:ag) (gH:ae) (uV:ah) (p_8:Int) (Za:List Int):List ag:=[aw,aG,bk,bN,dp,fq,(eM gH),(cP uV),(.box [(ci p_8)]),(.box [dS]),(.set Za),(.box [(.mp 10)]),(cP uV),.kA,(.loop 54 137 [(3,((.c (.rt 6 0 0)),[])),(5,((.c (.rt 8 0 0)),[])),(6,((.c (.rt 9 0 0)),[])),(7,((.c (.rt 11 0 0)),[])),(110,((.c (.dM 84 [12])),[]))] [111] (gr 54) (gq 54) .ready none)]
theorem Vm (L:LP) (QE:D->List ag->Prop) (p:Bool) (t:ae) (e:ah) (k:Int) (r0 r1 r2 r3 r4 r5:ag) (v:List Int) (h:(LC 73 [(.a (lift (bn (e))))] [r0,r1,r2,r3,r4,r5,(eM t),(cP e),(.box [(ci k)]),(.box [dS]),(.set v),(.box [(.mp 10)])] (.c (.dM 84 [12])) [r0,r1,r2,r3,r4,r5,(eM t),(cP e),(.box [(ci k)]),(.box [dS]),(.set v),(.box [(.mp 10)]),(cP e)]/\br (p) ((LC 84 [(.c (.yl 14)),(.c (.rt 12 0 0))] (O6 r0 r1 r2 r3 r4 r5 t e k v) (.t []) (O6 r0 r1 r2 r3 r4 r5 t e k v)/\QE (bool true) [r0,r1,r2,r3,r4,r5,(.box (dA (t) 1)),(.box (lift (bn (e)))),(.box [(ci k)]),(.box [(.im (.v (.bool true)))]),(.set v),(.box [(.mp 10)]),(.box (lift (bn (e)))),.dead,.dead])) ((LC 84 [(.c (.yl 14)),(.c (.rt 12 0 0))] (O6 r0 r1 r2 r3 r4 r5 t e k v) (.t []) [r0,r1,r2,r3,r4,r5,(eM t),(cP e),(.box [(ci k)]),(.box [dS]),(.set v),(.box [(.mp 10)]),(cP e),.kA,(.loop 54 137 [(3,((.c (.rt 6 0 0)),[])),(5,((.c (.rt 8 0 0)),[])),(6,((.c (.rt 9 0 0)),[])),(7,((.c (.rt 11 0 0)),[])),(110,((.c (.dM 84 [12])),[]))] [111] (gr 54) (gq 54) .done (some .ret))]/\QE (bool false) [r0,r1,r2,r3,r4,r5,(.box (dA (t) 1)),(.box (lift (bn (e)))),(.box [(ci k)]),(.box [(.im (.v (.bool false)))]),(.set v),(.box [(.mp 10)]),(.box (lift (bn (e)))),.dead,.dead])))):cB (Su p) 54 zH L QE 20 (BH p t e k r0 r1 r2 r3 r4 r5 v):=km h
noncomputable abbrev Rf:ag:=.loop 54 137 [(3,((.c (.rt 6 0 0)),[])),(5,((.c (.rt 8 0 0)),[])),(6,((.c (.rt 9 0 0)),[])),(7,((.c (.rt 11 0 0)),[])),(110,((.c (.dM 84 [12])),[]))] [111] (gr 54) (gq 54) .busy none
theorem ae0 (QE:D->List ag->Prop) (t:ae) (e:ah) (k n:Int) (v:List Int) (r0 r1 r2 r3 r4 r5:ag) (x:ag) (h:br (n != -1) ((LC 53 [(.a (dA (t) 1)),(int n),(int k)] [r0,r1,r2,r3,r4,r5,(eM t),(cP e),(.box [(ci k)]),(.box [dS]),(.set v),(.box [(.mp 10)]),(cP e),.kA,Rf,x] (bool (e6 t n k)) [r0,r1,r2,r3,r4,r5,(eM t),(cP e),(.box [(ci k)]),(.box [dS]),(.set v),(.box [(.mp 10)]),(cP e),.kA,Rf,x]/\br (!e6 t n k) (QE (bool false) [r0,r1,r2,r3,r4,r5,(.box (dA (t) 1)),(.box (lift (bn (e)))),(.box [(ci k)]),(.box [(.im (.v (.bool false)))]),(.set v),(.box [(.mp 10)]),(.box (lift (bn (e)))),.kA,(.loop 54 137 [(3,((.c (.rt 6 0 0)),[])),(5,((.c (.rt 8 0 0)),[])),(6,((.c (.rt 9 0 0)),[])),(7,((.c (.rt 11 0 0)),[])),(110,((.c (.dM 84 [12])),[]))] [111] (gr 54) (gq 54) .done (some .ret)),x]) (nd (cM n t.2.1) (br ((t.ins.2 n.toNat).1==17) (br (!dX n v) (QE (bool false) [r0,r1,r2,r3,r4,r5,(.box (dA (t) 1)),(.box (lift (bn (e)))),(.box [(ci k)]),(.box [(.im (.v (.bool false)))]),(.set v),(.box [(.mp 10)]),(.box (lift (bn (e)))),.kA,(.loop 54 137 [(3,((.c (.rt 6 0 0)),[])),(5,((.c (.rt 8 0 0)),[])),(6,((.c (.rt 9 0 0)),[])),(7,((.c (.rt 11 0 0)),[])),(110,((.c (.dM 84 [12])),[]))] [111] (gr 54) (gq 54) .done (some .ret)),x]) (QE (bool true) [r0,r1,r2,r3,r4,r5,(.box (dA (t) 1)),(.box (lift (bn (e)))),(.box [(ci k)]),(.box [(.im (.v (.bool false)))]),(.set v),(.box [(.mp 10)]),(.box (lift (bn (e)))),.kA,(.loop 54 137 [(3,((.c (.rt 6 0 0)),[])),(5,((.c (.rt 8 0 0)),[])),(6,((.c (.rt 9 0 0)),[])),(7,((.c (.rt 11 0 0)),[])),(110,((.c (.dM 84 [12])),[]))] [111] (gr 54) (gq 54) .ready none),x])) (QE (bool true) [r0,r1,r2,r3,r4,r5,(.box (dA (t) 1)),(.box (lift (bn (e)))),(.box [(ci k)]),(.box [(.im (.v (.bool false)))]),(.set v),(.box [(.mp 10)]),(.box (lift (bn (e)))),.kA,(.loop 54 137 [(3,((.c (.rt 6 0 0)),[])),(5,((.c (.rt 8 0 0)),[])),(6,((.c (.rt 9 0 0)),[])),(7,((.c (.rt 11 0 0)),[])),(110,((.c (.dM 84 [12])),[]))] [111] (gr 54) (gq 54) .ready none),x]))))) (QE (bool true) [r0,r1,r2,r3,r4,r5,(.box (dA (t) 1)),(.box (lift (bn (e)))),(.box [(ci k)]),(.box [(.im (.v (.bool false)))]),(.set v),(.box [(.mp 10)]),(.box (lift (bn (e)))),.kA,(.loop 54 137 [(3,((.c (.rt 6 0 0)),[])),(5,((.c (.rt 8 0 0)),[])),(6,((.c (.rt 9 0 0)),[])),(7,((.c (.rt 11 0 0)),[])),(110,((.c (.dM 84 [12])),[]))] [111] (gr 54) (gq 54) .ready none),x])):vcY X8 54 14 QE ((111,int n,[])::G0) [r0,r1,r2,r3,r4,r5,.box (dA t 1),.box (lift (bn e)),.box [.im (iI k)],.box [.im (iB false)],.set v,.box [.mp 10],.box (lift (bn e)),.kA,.loop 54 137 G0 [111] (gr 54) (gq 54) .ready none,x]:=km h
theorem y93 (t:ae) (e:ah) (k n:Int) (v:List Int) (r0 r1 r2 r3 r4 r5:ag) (x:ag) (hk:k<=t.ins.n):mO my Try.prog 14 [int n] [r0,r1,r2,r3,r4,r5,.box (dA t 1),.box (lift (bn e)),.box [.im (iI k)],.box [.im (iB false)],.set v,.box [.mp 10],.box (lift (bn e)),.kA,.loop 54 137 G0 [111] (gr 54) (gq 54) .ready none,x] (bool (jZ t k v n)) [r0,r1,r2,r3,r4,r5,.box (dA t 1),.box (lift (bn e)),.box [.im (iI k)],.box [.im (iB false)],.set v,.box [.mp 10],.box (lift (bn e)),.kA,.loop 54 137 G0 [111] (gr 54) (gq 54) (bif jZ t k v n then .ready else .done) (bif jZ t k v n then none else some .ret),x]:=by
 refine Wz (X:=X8) (f:=54) (wJ:=G0) (A5:=(111,int n,[])::G0) (ps:=[111]) (by kernel_rfl) (by kernel_rfl) (ae0 _ t e k n v r0 r1 r2 r3 r4 r5 x ?_)
 refine aq (λh=>?_) (λh=>?_)
 .have h:(n == -1)=false:=(Bool.not_eq_true' _).mp h
  refine ⟨Pg _ _ _ _ _ _ _ _ _ _ _ _ _ _ _ _ _ _ _ hk,?_⟩
  refine aq (λh1=>?_) (λh1=>aC (wq (by simpa using h1) hk) ?_)
  .have e1:jZ t k v n=false:=by simp only [jZ,h,show e6 t n k=false from by simpa using h1,aL]
   rw [e1]
   exact ⟨16,aQ rfl,aQ rfl,rfl,rfl,bh.refl _,by repeat' (first|exact trivial|refine ⟨.inl (.inl rfl),?_⟩|refine ⟨.inl (.inr ⟨_,_,_,_,_,_,_,_,_,_,rfl,rfl⟩),?_⟩|done)⟩
  .have h1:e6 t n k=true:=by simpa using h1
   refine aq (λh2=>aq (λh3=>?_) (λh3=>?_)) (λh2=>?_)
   .have e1:jZ t k v n=false:=by simp only [jZ,h,h1,show ((t.ins.get n.toNat).op==17)=true from h2,show (!dX n v)=true from h3,aL]
    rw [e1]
    exact ⟨16,aQ rfl,aQ rfl,rfl,rfl,bh.refl _,by repeat' (first|exact trivial|refine ⟨.inl (.inl rfl),?_⟩|refine ⟨.inl (.inr ⟨_,_,_,_,_,_,_,_,_,_,rfl,rfl⟩),?_⟩|done)⟩
   .have e1:jZ t k v n=true:=by simp only [jZ,h,h1,show ((t.ins.get n.toNat).op==17)=true from h2,show (!dX n v)=false from h3,aL]
    rw [e1]
    exact ⟨16,aQ rfl,aQ rfl,rfl,rfl,bh.refl _,by repeat' (first|exact trivial|refine ⟨.inl (.inl rfl),?_⟩|refine ⟨.inl (.inr ⟨_,_,_,_,_,_,_,_,_,_,rfl,rfl⟩),?_⟩|done)⟩
   .have e1:jZ t k v n=true:=by simp only [jZ,h,h1,show ((t.ins.get n.toNat).op==17)=false from h2,aL]
    rw [e1]
    exact ⟨16,aQ rfl,aQ rfl,rfl,rfl,bh.refl _,by repeat' (first|exact trivial|refine ⟨.inl (.inl rfl),?_⟩|refine ⟨.inl (.inr ⟨_,_,_,_,_,_,_,_,_,_,rfl,rfl⟩),?_⟩|done)⟩
 .have h:(n == -1)=true:=(Bool.not_eq_false' _▸h:(n == -1)=true)
  have e1:jZ t k v n=true:=by simp only [jZ,h,aL]
  rw [e1]
  exact ⟨16,aQ rfl,aQ rfl,rfl,rfl,bh.refl _,by repeat' (first|exact trivial|refine ⟨.inl (.inl rfl),?_⟩|refine ⟨.inl (.inr ⟨_,_,_,_,_,_,_,_,_,_,rfl,rfl⟩),?_⟩|done)⟩
theorem Ud (p:Bool) (t:ae) (e:ah) (k:Int) (r0 r1 r2 r3 r4 r5:ag) (hk:k<=t.ins.n) (hS:gS e) (hw:eP 6 [r0,r1,r2,r3,r4,r5]) (v:List Int) (a:Bool) (hp:p=allM (jZ t k v) e) (ha:p=a):af 54 6 (Go.V.Ends [r0,r1,r2,r3,r4,r5] (bool a) [r0,r1,r2,r3,r4,r5]) (ai 54 20) (BH p t e k r0 r1 r2 r3 r4 r5 v):=by
 have c:=ao4 (jZ t k v) e (r0) (r1) (r2) (r3) (r4) (r5) (.box (dA t 1)) (.box (lift (bn e))) (.box [.im (iI k)]) (.box [.im (iB false)]) (.set v) (.box [.mp 10]) (.kA) 54 137 G0 [111] (gr 54) (gq 54) (λn x=>y93 t e k n v r0 r1 r2 r3 r4 r5 x hk) hS ⟨(hw.1).mono (by decide),(hw.2.1).mono (by decide),(hw.2.2.1).mono (by decide),(hw.2.2.2.1).mono (by decide),(hw.2.2.2.2.1).mono (by decide),(hw.2.2.2.2.2.1).mono (by decide),.inl rfl,.inl rfl,.inl rfl,.inl rfl,.inl rfl,.inl rfl,.inl rfl,.inl rfl,sA rfl,trivial⟩
 refine aF (X:=Su p) (stop:=zH) (Vm _ _ p t e k r0 r1 r2 r3 r4 r5 v ⟨ag0 _ _ _ _ _ _ _ _ _ _ _ _ _,?_⟩)
 rw [<- hp] at c
 refine aq (λh=>⟨?_,?_⟩) (λh=>⟨?_,?_⟩)
 .rw [h] at c; exact c
 .rw [<- ha,h]; exact ⟨6,aQ rfl,aQ rfl,rfl,rfl,bh.refl _,bC _ _⟩
 .rw [h] at c; exact c
 .rw [<- ha,h]; exact ⟨6,aQ rfl,aQ rfl,rfl,rfl,bh.refl _,bC _ _⟩
theorem Tz (p:Bool) (t:ae) (e:ah) (k:Int) (r0 r1 r2 r3 r4 r5:ag) (hk:k<=t.ins.n) (hS:gS e) (hw:eP 6 [r0,r1,r2,r3,r4,r5]) (v:List Int) (a:Bool) (hN:e.frames.n<=6) (hp:p=allM (jZ t k v) e):∀ j,j<=e.frames.n->(cn (λj=>MO (e.frames.get j)) (e.frames.n-j) j&&p)=a->af 54 6 (Go.V.Ends [r0,r1,r2,r3,r4,r5] (bool a) [r0,r1,r2,r3,r4,r5]) (ai 54 15) (Dj p t e k r0 r1 r2 r3 r4 r5 v j):=by
 refine aU (λj hj ih ha=>?_) (λha=>?_)
 .have q:e.frames.n-j=(e.frames.n-(j+1))+1:=by omega
  rw [q] at ha
  have no:MO (e.frames.get j)=false->a=false:=λq=>by rw [eN (p:=λj=>MO (e.frames.get j)) q,Bool.false_and] at ha; exact ha.symm
  have go:MO (e.frames.get j)=true->af 54 6 (Go.V.Ends [r0,r1,r2,r3,r4,r5] (bool a) [r0,r1,r2,r3,r4,r5]) (ai 54 15) (Dj p t e k r0 r1 r2 r3 r4 r5 v (j+1)):=λq=>by rw [fR (p:=λj=>MO (e.frames.get j)) q] at ha; exact ih ha
  refine aF (X:=Su p) (stop:=zH) (Kj _ _ p t e k r0 r1 r2 r3 r4 r5 v j ?_)
  rw [dr hj (cW hN (by decide))]
  refine aq (λh=>?_) (λh=>(dec_lt h hj).elim)
  refine aC (a8 hj) ?_
  refine aq (λh1=>?_) (λh1=>aq (λh2=>?_) (λh2=>aq (λh3=>?_) (λh3=>?_)))
  .rw [no (by simp only [MO,show decide ((e.frames.get j).fn<0)=true from h1,aL])]; exact ⟨6,aQ rfl,aQ rfl,rfl,rfl,bh.refl _,bC _ _⟩
  .rw [no (by simp only [MO,show decide ((e.frames.get j).line<0)=true from h2,aL])]; exact ⟨6,aQ rfl,aQ rfl,rfl,rfl,bh.refl _,bC _ _⟩
  .rw [no (by simp only [MO,show decide (((e.frames.get j).vars.n:Int)>24)=true from h3,aL])]; exact ⟨6,aQ rfl,aQ rfl,rfl,rfl,bh.refl _,bC _ _⟩
  .refine af.cut 12 (aQ rfl) (aQ rfl) rfl rfl ⟨(hw.1).mono (by decide),(hw.2.1).mono (by decide),(hw.2.2.1).mono (by decide),(hw.2.2.2.1).mono (by decide),(hw.2.2.2.2.1).mono (by decide),(hw.2.2.2.2.2.1).mono (by decide),.inl rfl,.inl rfl,.inl rfl,.inl rfl,.inl rfl,.inl rfl,trivial⟩ (go ?_)
   simp only [MO,show decide ((e.frames.get j).fn<0)=false from h1,show decide ((e.frames.get j).line<0)=false from h2,show decide (((e.frames.get j).vars.n:Int)>24)=false from h3,aL]
 .rw [Nat.sub_self] at ha
  refine aF (X:=Su p) (stop:=zH) (Kj _ _ p t e k r0 r1 r2 r3 r4 r5 v _ ?_)
  refine aq (λh=>bS h) (λh=>?_)
  exact af.lr (BH p t e k r0 r1 r2 r3 r4 r5 v) (Ud p t e k r0 r1 r2 r3 r4 r5 hk hS hw v a hp (by simpa [cn] using ha))
theorem Z0 (p:Bool) (t:ae) (e:ah) (k:Int) (r0 r1 r2 r3 r4 r5:ag) (hk:k<=t.ins.n) (hS:gS e) (hw:eP 6 [r0,r1,r2,r3,r4,r5]) (a:Bool) (hN:e.frames.n<=6) (hp:p=allM (jZ t k (lk e.ax e.ax.n)) e):∀ j,j<=e.ax.n->(cn (L5 t e k) (e.ax.n-j) j&&(dh (λj=>MO (e.frames.get j)) e.frames.n&&p))=a->af 54 6 (Go.V.Ends [r0,r1,r2,r3,r4,r5] (bool a) [r0,r1,r2,r3,r4,r5]) (ai 54 5) (Hb p t e k r0 r1 r2 r3 r4 r5 (lk e.ax j) j):=by
 have hO:=hS.ax
 refine aU (λj hj ih ha=>?_) (λha=>?_)
 .have q:e.ax.n-j=(e.ax.n-(j+1))+1:=by omega
  rw [q] at ha
  have no:L5 t e k j=false->a=false:=λq=>by rw [eN q,Bool.false_and] at ha; exact ha.symm
  have go:L5 t e k j=true->af 54 6 (Go.V.Ends [r0,r1,r2,r3,r4,r5] (bool a) [r0,r1,r2,r3,r4,r5]) (ai 54 5) (Hb p t e k r0 r1 r2 r3 r4 r5 (lk e.ax (j+1)) (j+1)):=λq=>by rw [fR q] at ha; exact ih ha
  refine aF (X:=Su p) (stop:=zH) (M0 _ _ p t e k r0 r1 r2 r3 r4 r5 (lk e.ax j) j ?_)
  rw [dr hj (cW hO (by decide))]
  refine aq (λh=>?_) (λh=>(dec_lt h hj).elim)
  refine aC (a8 hj) ⟨NP _ _ _ _ _ _ _ _ _ _ _ _ _ _ _ _ hk,?_⟩
  refine aq (λh1=>?_) (λh1=>?_)
  .rw [no (by simp only [L5,show (!e6 t (e.ax.get j).value k)=true from h1,aL])]; exact ⟨6,aQ rfl,aQ rfl,rfl,rfl,bh.refl _,bC _ _⟩
  have h1:e6 t (e.ax.get j).value k=true:=by simpa using h1
  refine aq (λh2=>?_) (λh2=>?_)
  .rw [no (by simp only [L5,h1,show dX (e.ax.get j).value (lk e.ax j)=true from h2,aL])]; exact ⟨6,aQ rfl,aQ rfl,rfl,rfl,bh.refl _,bC _ _⟩
  have h2:dX (e.ax.get j).value (lk e.ax j)=false:=h2
  refine aq (λh3=>?_) (λh3=>aC (wq h1 hk) ?_)
  .rw [no (by simp only [L5,h1,h2,show (((e.ax.get j).items.n:Int)!=((e.ax.get j).names.n:Int))=true from h3,aL])]; exact ⟨6,aQ rfl,aQ rfl,rfl,rfl,bh.refl _,bC _ _⟩
  have h3:(((e.ax.get j).items.n:Int)!=((e.ax.get j).names.n:Int))=false:=h3
  refine aq (λh4=>?_) (λh4=>?_)
  .rw [no (by simp only [L5,h1,h2,h3,show ((t.ins.get (e.ax.get j).value.toNat).op != 17)=true from h4,aL])]; exact ⟨6,aQ rfl,aQ rfl,rfl,rfl,bh.refl _,bC _ _⟩
  have h4:((t.ins.get (e.ax.get j).value.toNat).op != 17)=false:=h4
  refine aq (λh5=>?_) (λh5=>⟨Wi _ _,?_⟩)
  .rw [no (by simp only [L5,h1,h2,h3,h4,show ((t.ins.get (e.ax.get j).value.toNat).n != (e.ax.get j).cls)=true from h5,aL])]; exact ⟨6,aQ rfl,aQ rfl,rfl,rfl,bh.refl _,bC _ _⟩
  have h5:((t.ins.get (e.ax.get j).value.toNat).n != (e.ax.get j).cls)=false:=h5
  refine aq (λh6=>?_) (λh6=>?_)
  .rw [no (by simp only [L5,h1,h2,h3,h4,h5,show (!bU jR (t.ins.get (e.ax.get j).value.toNat).names (e.ax.get j).names)=true from h6,aL])]; exact ⟨6,aQ rfl,aQ rfl,rfl,rfl,bh.refl _,bC _ _⟩
  have h6:(!bU jR (t.ins.get (e.ax.get j).value.toNat).names (e.ax.get j).names)=false:=h6
  refine af.cut 12 (aQ rfl) (aQ rfl) rfl rfl ⟨(hw.1).mono (by decide),(hw.2.1).mono (by decide),(hw.2.2.1).mono (by decide),(hw.2.2.2.1).mono (by decide),(hw.2.2.2.2.1).mono (by decide),(hw.2.2.2.2.2.1).mono (by decide),.inl rfl,.inl rfl,.inl rfl,.inl rfl,.inl rfl,.inl rfl,trivial⟩ (go ?_)
  simp only [L5,h1,h2,h3,h4,h5,h6,aL]
 .rw [Nat.sub_self] at ha
  refine aF (X:=Su p) (stop:=zH) (M0 _ _ p t e k r0 r1 r2 r3 r4 r5 (lk e.ax _) _ ?_)
  refine aq (λh=>bS h) (λh=>?_)
  exact Tz p t e k r0 r1 r2 r3 r4 r5 hk hS hw _ a hN hp 0 (bu _) (by simpa [cn,dh] using ha)
theorem ag2 (t:ae) (e:ah) (k:Int) (r0 r1 r2 r3 r4 r5:ag) (hk:k<=t.ins.n) (hS:gS e) (hw:eP 6 [r0,r1,r2,r3,r4,r5]):LC 54 [zJ t 1,qw e,int k] [r0,r1,r2,r3,r4,r5] (bool (lK t e k)) [r0,r1,r2,r3,r4,r5]:=by
 refine gZ aL4 (aQ (by kernel_rfl)) (dc (X:=Su (allM (jZ t k (lk e.ax e.ax.n)) e)) (stop:=zH) (aI1 _ _ (allM (jZ t k (lk e.ax e.ax.n)) e) t e k r0 r1 r2 r3 r4 r5 ?_))
 refine aq (λh1=>?_) (λh1=>aq (λh2=>?_) (λh2=>aq (λh3=>?_) (λh3=>?_)))
 .rw [show lK t e k=false from by simp only [lK,show decide ((e.frames.n:Int)<1)=true from h1,aL]]; exact ⟨6,aQ rfl,aQ rfl,rfl,rfl,bh.refl _,bC _ _⟩
 .rw [show lK t e k=false from by simp only [lK,show decide ((e.frames.n:Int)>6)=true from h2,aL]]; exact ⟨6,aQ rfl,aQ rfl,rfl,rfl,bh.refl _,bC _ _⟩
 .rw [show lK t e k=false from by simp only [lK,show decide (e.back<0)=true from h3,aL]]; exact ⟨6,aQ rfl,aQ rfl,rfl,rfl,bh.refl _,bC _ _⟩
 .have hN:e.frames.n<=6:=by have:=of_decide_eq_false h2; omega
  refine Z0 _ t e k r0 r1 r2 r3 r4 r5 hk hS hw _ hN rfl 0 (bu _) ?_
  simp only [lK,dh,Nat.sub_zero,show decide ((e.frames.n:Int)<1)=false from h1,show decide ((e.frames.n:Int)>6)=false from h2,show decide (e.back<0)=false from h3,aL]
end Go.Proofs.Ytgbbdaegmfjahaa
