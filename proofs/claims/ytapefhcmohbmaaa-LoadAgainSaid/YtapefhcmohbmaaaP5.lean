/- '==' of the program's structs. -/
import Derived.Test.YtapefhcmohbmaaaP3
import Derived.Laws.StructEq
import Derived.Tactics
import Derived.Tactics2
import Derived.StillTactics
import Derived.KernelRfl
import Derived.Test.YtapefhcmohbmaaaProg
import Derived.Test.YtapefhcmohbmaaaP4
import Derived.Shelf.GgClosure.StringsIndexFunc
import Derived.Ground.GgwProg
import Derived.Shelf.GgClosure.StringsIndexFuncTop
import Derived.WalkKit
import Derived.Laws.RangeAny
import Derived.Laws.RangeString
import Derived.ProofKit
set_option linter.unusedVariables false
namespace Go.Proofs.Ytapefhcmohbmaaa
open Go.V
section
variable {k:List EK} {E:Env} (d:Nat) {av:Nat->Prop} {l m:List C} {b:Bool} {cs:List Value}
theorem AX (h:G6 [] l m=some b):l=[]/\m=[]/\b=true:=by
 unfold G6 at h
 split at h<;>simp_all
theorem jU (h:G6 (.int::k) l m=some b):∃ x y l' m' c,l=.im (.v (.int .i64 x))::l'/\m=.im (.v (.int .i64 y))::m'/\G6 k l' m'=some c/\b=((x==y)&&c):=by
 unfold G6 at h
 grind
theorem Iv (h:G6 (.str::k) l m=some b):∃ x y l' m' c,l=.im (.v (.string x))::l'/\m=.im (.v (.string y))::m'/\G6 k l' m'=some c/\b=((x==y)&&c):=by
 unfold G6 at h
 grind
theorem cN {w:World} {x:Value} (h:az (a7 E av w) (.im (.v x)::l) cs):∃ qR,cs=x::qR/\az (a7 E av w) l qR:=by
 cases h with
 | cons q k=>exact ⟨_,by rw [q.1],k⟩
theorem oW {w:World} (h:az (a7 E av w) [] cs):cs=[]:=by
 cases h; rfl
theorem az4 (p1 p2 q1 q2:Int) (w:World):(Op.equalIn (d+2) 25 (.agg #[.int .i64 p1,.int .i64 p2]) (.agg #[.int .i64 q1,.int .i64 q2])).run Try.prog w=.ok ((p1==q1)&&((p2==q2)&&true)) w:=by
 have u3:=Try.underlying3
 have a3:=Try.isAgg3
 have z3:=Try.sizeOf3
 have hS:Try.prog.underlying 25=some (.struct (Try.prog.fieldsOf 25)):=by kernel_rfl
 have hp:Try.prog.stoodInHeld 25=false:=by kernel_rfl
 rw [run_equalIn_agg w (d+1) 25 _ _ hS hp]
 simp only [Program.fieldsOf,Try.underlying25]
 go_simp
 grind
theorem YV (a1 a2 b1 b2:Int) (s1 s2:ByteArray) (w:World):(Op.equalIn (d+2) 37 (.agg #[.int .i64 a1,.int .i64 a2,.string s1]) (.agg #[.int .i64 b1,.int .i64 b2,.string s2])).run Try.prog w=.ok ((a1==b1)&&((a2==b2)&&((s1==s2)&&true))) w:=by
 have u3:=Try.underlying3
 have a3:=Try.isAgg3
 have z3:=Try.sizeOf3
 have u9:=Try.underlying9
 have a9:=Try.isAgg9
 have z9:=Try.sizeOf9
 have hS:Try.prog.underlying 37=some (.struct (Try.prog.fieldsOf 37)):=by kernel_rfl
 have hp:Try.prog.stoodInHeld 37=false:=by kernel_rfl
 rw [run_equalIn_agg w (d+1) 37 _ _ hS hp]
 simp only [Program.fieldsOf,Try.underlying37]
 go_simp
 grind [beq_toListBytes]
theorem ay2 (x1 x2 x3 y1 y2 y3 a1 a2 b1 b2:Int) (s1 s2:ByteArray) (w:World):(Op.equalIn (d+3) 44 (.agg #[.int .i64 x1,.int .i64 x2,.int .i64 x3,.int .i64 a1,.int .i64 a2,.string s1]) (.agg #[.int .i64 y1,.int .i64 y2,.int .i64 y3,.int .i64 b1,.int .i64 b2,.string s2])).run Try.prog w =
  .ok ((x1==y1)&&((x2==y2)&&((x3==y3)&&((a1==b1)&&((a2==b2)&&((s1==s2)&&true)))))) w:=by
 have u3:=Try.underlying3
 have a3:=Try.isAgg3
 have z3:=Try.sizeOf3
 have a44:=Try.isAgg37
 have z44:=Try.sizeOf37
 have e44:=YV d
 have hS:Try.prog.underlying 44=some (.struct (Try.prog.fieldsOf 44)):=by kernel_rfl
 have hp:Try.prog.stoodInHeld 44=false:=by kernel_rfl
 rw [run_equalIn_agg w (d+2) 44 _ _ hS hp]
 simp only [Program.fieldsOf,Try.underlying44]
 go_simp
 grind
theorem Ao {t:TypeId} {cs ds:Array Value} (hg:Try.prog.eqGuardType Try.prog.depth t=false) (h:∀ w,(Op.equalIn 10000 t (.agg cs) (.agg ds)).run Try.prog w=.ok b w) (w:World) (x y:Operand) :
  (do eqGuard .eql t x y (.agg cs) (.agg ds); binOp .eql t (.agg cs) (.agg ds)).run Try.prog w=.ok (.bool b) w/\
  (do eqGuard .neq t x y (.agg cs) (.agg ds); binOp .neq t (.agg cs) (.agg ds)).run Try.prog w=.ok (.bool (!b)) w:=by
 grind [Sem.run_bind,run_eqGuard_agg,Result.andThen_ok,run_eql_struct,run_neq_struct]
theorem Xj:∀ t ks,findF t [(44,[EK.int,.int,.int,.int,.int,.str]),(25,[EK.int,.int]),(37,[EK.int,.int,.str])]=some ks->∀ (l m:List C) (b:Bool),G6 ks l m=some b->∀ (E:Env) (av:Nat->Prop) (w:World) (cs ds:Array Value),az (a7 E av w) l cs.toList->az (a7 E av w) m ds.toList->∀ (x y:Operand),
  (do eqGuard .eql t x y (.agg cs) (.agg ds); binOp .eql t (.agg cs) (.agg ds)).run Try.prog w=.ok (.bool b) w/\
  (do eqGuard .neq t x y (.agg cs) (.agg ds); binOp .neq t (.agg cs) (.agg ds)).run Try.prog w=.ok (.bool (!b)) w:=by
 intro t ks ht l m b hb E av w cs ds hl hm x y
 have hmem:=lH ht
 obtain ⟨cs⟩:=cs
 obtain ⟨ds⟩:=ds
 simp only at hl hm
 rcases List.mem_cons.1 hmem with h|hmem
 .simp only [bs] at h
  obtain ⟨rfl,rfl⟩:=h
  obtain ⟨x1,y1,l,m,c,rfl,rfl,hb1,rfl⟩:=jU hb
  obtain ⟨x2,y2,l,m,c,rfl,rfl,hb2,rfl⟩:=jU hb1
  obtain ⟨x3,y3,l,m,c,rfl,rfl,hb3,rfl⟩:=jU hb2
  obtain ⟨x4,y4,l,m,c,rfl,rfl,hb4,rfl⟩:=jU hb3
  obtain ⟨x5,y5,l,m,c,rfl,rfl,hb5,rfl⟩:=jU hb4
  obtain ⟨x6,y6,l,m,c,rfl,rfl,hb6,rfl⟩:=Iv hb5
  obtain ⟨rfl,rfl,rfl⟩:=AX hb6
  obtain ⟨cs,rfl,hl1⟩:=cN hl
  obtain ⟨cs,rfl,hl2⟩:=cN hl1
  obtain ⟨cs,rfl,hl3⟩:=cN hl2
  obtain ⟨cs,rfl,hl4⟩:=cN hl3
  obtain ⟨cs,rfl,hl5⟩:=cN hl4
  obtain ⟨cs,rfl,hl6⟩:=cN hl5
  obtain rfl:=oW hl6
  obtain ⟨ds,rfl,hm1⟩:=cN hm
  obtain ⟨ds,rfl,hm2⟩:=cN hm1
  obtain ⟨ds,rfl,hm3⟩:=cN hm2
  obtain ⟨ds,rfl,hm4⟩:=cN hm3
  obtain ⟨ds,rfl,hm5⟩:=cN hm4
  obtain ⟨ds,rfl,hm6⟩:=cN hm5
  obtain rfl:=oW hm6
  exact Ao (by kernel_rfl) (λw=>ay2 9997 x1 x2 x3 y1 y2 y3 x4 x5 y4 y5 x6 y6 w) w x y
 .rcases List.mem_cons.1 hmem with h|hmem
  .simp only [bs] at h
   obtain ⟨rfl,rfl⟩:=h
   obtain ⟨x1,y1,l,m,c,rfl,rfl,hb1,rfl⟩:=jU hb
   obtain ⟨x2,y2,l,m,c,rfl,rfl,hb2,rfl⟩:=jU hb1
   obtain ⟨rfl,rfl,rfl⟩:=AX hb2
   obtain ⟨cs,rfl,hl1⟩:=cN hl
   obtain ⟨cs,rfl,hl2⟩:=cN hl1
   obtain rfl:=oW hl2
   obtain ⟨ds,rfl,hm1⟩:=cN hm
   obtain ⟨ds,rfl,hm2⟩:=cN hm1
   obtain rfl:=oW hm2
   exact Ao (by kernel_rfl) (λw=>az4 9998 x1 x2 y1 y2 w) w x y
  .rcases List.mem_cons.1 hmem with h|hmem
   .simp only [bs] at h
    obtain ⟨rfl,rfl⟩:=h
    obtain ⟨x1,y1,l,m,c,rfl,rfl,hb1,rfl⟩:=jU hb
    obtain ⟨x2,y2,l,m,c,rfl,rfl,hb2,rfl⟩:=jU hb1
    obtain ⟨x3,y3,l,m,c,rfl,rfl,hb3,rfl⟩:=Iv hb2
    obtain ⟨rfl,rfl,rfl⟩:=AX hb3
    obtain ⟨cs,rfl,hl1⟩:=cN hl
    obtain ⟨cs,rfl,hl2⟩:=cN hl1
    obtain ⟨cs,rfl,hl3⟩:=cN hl2
    obtain rfl:=oW hl3
    obtain ⟨ds,rfl,hm1⟩:=cN hm
    obtain ⟨ds,rfl,hm2⟩:=cN hm1
    obtain ⟨ds,rfl,hm3⟩:=cN hm2
    obtain rfl:=oW hm3
    exact Ao (by kernel_rfl) (λw=>YV 9998 x1 x2 y1 y2 x3 y3 w) w x y
   .cases hmem
end
end Go.Proofs.Ytapefhcmohbmaaa
set_option maxRecDepth 1000000
namespace Go.Proofs.Ytapefhcmohbmaaa
open Go Go.V
noncomputable section
def tyL:List (Nat×Ty):=[
 (3,⟨1,8,(.int .i64 0),.int⟩),
 (40,⟨14,152,(.agg ⟨[(.int .i64 0),(.int .i64 0),(.int .i64 0),(.int .i64 0),(.int .i64 0),(.slice none 0 0),(.int .i64 0),(.int .i64 0),(.string ⟨⟨[]⟩⟩),(.slice none 0 0),(.int .i64 0),(.int .i64 0),(.int .i64 0),(.bool false)]⟩),(.struct [(0,1),(1,1),(2,1),(3,1),(4,1),(5,1),(6,3),(9,1),(10,2),(12,1),(13,1)])⟩),
 (29,⟨4,64,(.agg ⟨[(.int .i64 0),(.int .i64 0),(.slice none 0 0),(.slice none 0 0)]⟩),(.struct [(0,2),(2,1),(3,1)])⟩),
 (26,⟨1,24,(.slice none 0 0),(.slice 40)⟩),
 (22,⟨1,24,(.slice none 0 0),(.slice 3)⟩),
 (4,⟨1,1,(.bool false),.bool⟩),
 (44,⟨6,56,(.agg ⟨[(.int .i64 0),(.int .i64 0),(.int .i64 0),(.int .i64 0),(.int .i64 0),(.string ⟨⟨[]⟩⟩)]⟩),(.struct [(0,1),(1,1),(2,1),(3,3)])⟩),
 (47,⟨1,8,(.pointer none),(.ptr 52)⟩),
 (38,⟨1,24,(.slice none 0 0),(.slice 9)⟩),
 (37,⟨3,32,(.agg ⟨[(.int .i64 0),(.int .i64 0),(.string ⟨⟨[]⟩⟩)]⟩),(.struct [(0,1),(1,1),(2,1)])⟩),
 (68,⟨3,56,(.agg ⟨[(.slice none 0 0),(.slice none 0 0),(.int .i64 0)]⟩),(.struct [(0,1),(1,1),(2,1)])⟩),
 (48,⟨1,8,(.pointer none),(.ptr 50)⟩),
 (52,⟨7,88,(.agg ⟨[(.pointer none),(.int .i64 0),(.int .i64 0),(.slice none 0 0),(.slice none 0 0),(.int .i64 0),(.int .i64 0)]⟩),(.struct [(0,1),(1,4),(5,1),(6,1)])⟩),
 (27,⟨1,24,(.slice none 0 0),(.slice 68)⟩),
 (93,⟨4,64,(.agg ⟨[(.int .i64 0),(.int .i64 0),(.slice none 0 0),(.slice none 0 0)]⟩),(.struct [(0,1),(1,1),(2,1),(3,1)])⟩),
 (66,⟨1,24,(.slice none 0 0),(.slice 93)⟩),
 (65,⟨1,24,(.slice none 0 0),(.slice 64)⟩),
 (64,⟨3,40,(.agg ⟨[(.int .i64 0),(.int .i64 0),(.slice none 0 0)]⟩),(.struct [(0,1),(1,1),(2,1)])⟩),
 (77,⟨5,72,(.agg ⟨[(.int .i64 0),(.int .i64 0),(.slice none 0 0),(.slice none 0 0),(.map none)]⟩),(.struct [(0,4),(4,1)])⟩),
 (136,⟨1,8,(.int .u64 0),.other⟩),
 (9,⟨1,16,(.string ⟨⟨[]⟩⟩),.str⟩),
 (31,⟨1,24,(.slice none 0 0),(.slice 44)⟩),
 (75,⟨1,8,(.map none),(.map 3 4)⟩),
 (115,⟨1,24,(.slice none 0 0),(.slice 116)⟩),
 (33,⟨1,8,(.int .i64 0),.int⟩),
 (50,⟨2,32,(.agg ⟨[(.slice none 0 0),(.int .i64 0)]⟩),(.struct [(0,1),(1,1)])⟩),
 (25,⟨2,16,(.agg ⟨[(.int .i64 0),(.int .i64 0)]⟩),(.struct [(0,1),(1,1)])⟩),
 (69,⟨1,8,(.int .i64 0),.int⟩),
 (117,⟨1,8,.nilFunc,.func⟩),
 (129,⟨1,8,(.int .u64 0),.other⟩),
 (58,⟨1,24,(.slice none 0 0),(.slice 57)⟩),
 (96,⟨1,8,.nilFunc,.func⟩),
 (127,⟨1,8,.nilFunc,.func⟩),
 (21,⟨1,4,(.int .i32 0),.other⟩),
 (57,⟨1,8,.nilFunc,.func⟩),
 (72,⟨1,24,(.slice none 0 0),(.slice 37)⟩),
 (120,⟨1,8,.nilFunc,.func⟩),
 (116,⟨1,8,(.pointer none),(.ptr 3)⟩),
 (133,⟨1,4,(.int .u32 0),.other⟩)
]
def eqL:List (Nat×List EK):=[(44,[.int,.int,.int,.int,.int,.str]),(25,[.int,.int]),(37,[.int,.int,.str])]
def lE:dk:=⟨λt=>findF t tyL,λt=>findF t eqL,λg=>none,λg=>none⟩
def ZJ:List (Nat×List (Nat×List Nat)):=[
 (3,[(0,[0]),(1,[0,3]),(2,[3,4]),(3,[3,4,5]),(4,[3,4,5,6,8]),(5,[3,4,5,6,33]),(6,[2]),(7,[3,4,5,6,9]),(8,[3,4,5,6,9,36,37]),(9,[3,4,5,6,9,36,37,38]),(10,[3,4,5,6,9,10,36,37]),(11,[3,4,5,6,9,36,37,52]),(12,[3,4,5,6,9,36,37]),(13,[3,4,5,6,9,36,37]),(14,[2])]),
 (4,[(0,[]),(1,[1]),(2,[1,2]),(3,[0])]),
 (5,[(0,[0,2]),(1,[2,3]),(2,[2,3]),(3,[2,3,4]),(4,[2,3,4,29]),(5,[2,3,4]),(6,[2,3,4]),(7,[2,3]),(8,[2,3,5]),(9,[2,3,5,6]),(10,[2,3,5,6]),(11,[2,3,5,6]),(12,[2,3,5]),(13,[2,3,5]),(14,[2,3,5,7]),(15,[2,3,5,7,8]),(16,[2,3,5,7,8,75]),(17,[2,3,5,7,8]),(18,[2,3,5,7,8]),(19,[2,3,5,85]),(20,[2,3,5]),(21,[2,3,5]),(22,[2,3]),(23,[2]),(24,[2,3,5]),(25,[2,3,5,9]),(26,[2,3,5,9,103]),(27,[2,3,5,9]),(28,[2,3,5,9,111]),(29,[2,3,5,9]),(30,[2,3,5,9]),(31,[2,3]),(32,[2])]),
 (6,[(0,[1]),(1,[1,13]),(2,[2]),(3,[1,3]),(4,[1,3,14,15,16]),(5,[1,3,14,15,16,17]),(6,[1,3,5,14,15,16]),(7,[1,3,5,14,15,16,22,23]),(8,[1,3,5,14,15,16,22,23,24]),(9,[1,3,5,6,14,15,16,22,23]),(10,[1,3,5,7,8,14,15,16,22,23]),(11,[1,3,5,7,14,15,16,22,23,34]),(12,[1,3,5,7,9,10,14,15,16,22,23]),(13,[1,3,5,7,9,14,15,16,22,23,42]),(14,[1,3,5,7,14,15,16,22,23]),(15,[1,3,5,14,15,16,22,23]),(16,[1,3,5,14,15,16,22,23]),(17,[1,3,14,15,16]),(18,[2])]),
 (7,[(0,[1,2,4]),(1,[1,2,4,12]),(2,[4,5,6]),(3,[1,2,4,17]),(4,[4,5,6]),(5,[1,4,7]),(6,[1,4,7,24,25,26]),(7,[1,4,7,24,25,26,27]),(8,[1,4,7,8,9,24,25,26]),(9,[1,4,7,8,10,11,24,25,26]),(10,[1,4,7,8,10,11,24,25,26,38]),(11,[4,5,6]),(12,[1,4,7,24,25,26]),(13,[1,4,7,24,25,26]),(14,[4,5,6])]),
 (8,[(0,[0]),(1,[0,1]),(2,[0,1,2]),(3,[0,1,2,3]),(4,[0,1,2,3,4]),(5,[0])]),
 (9,[(0,[1,2,3]),(1,[1,2,3,24]),(2,[6]),(3,[6])]),
 (10,[(0,[0,1]),(1,[0,1,10]),(2,[4]),(3,[0,1,5]),(4,[0,1,5,14]),(5,[0,1,5]),(6,[0,1,5,25]),(7,[4]),(8,[4])]),
 (11,[(0,[0,1]),(1,[0,1,18]),(2,[4]),(3,[0,1]),(4,[4])]),
 (12,[(0,[0,3]),(1,[0]),(2,[4])]),
 (13,[(0,[0]),(1,[0,3]),(2,[0,3,4]),(3,[0,3,4,12]),(4,[0,3,4]),(5,[0,3,4]),(6,[0,5]),(7,[0,5,40]),(8,[0,5]),(9,[0]),(10,[2])]),
 (14,[(0,[0,2]),(1,[0,2,20]),(2,[0,2,20,21]),(3,[]),(4,[0,2,20,38]),(5,[0,2,20,38]),(6,[0,2,20,38]),(7,[0,3]),(8,[0,3]),(9,[]),(10,[0,2,20,56]),(11,[0,4]),(12,[0,4]),(13,[]),(14,[0,2,20,70]),(15,[0,2,5]),(16,[0,2,5]),(17,[0,2,6]),(18,[0,7]),(19,[0,7]),(20,[]),(21,[0,2,20,98]),(22,[0,2,20,98]),(23,[0,2,8]),(24,[]),(25,[0,2,20,109]),(26,[0,2,9]),(27,[]),(28,[0,2,20,121]),(29,[0,2,20,121]),(30,[0,2,10]),(31,[0,2,10]),(32,[0,2]),(33,[0,2,11]),(34,[0,2,11]),(35,[]),(36,[0,2,20,153]),(37,[0,2,12]),(38,[0,2,12]),(39,[0,2,12]),(40,[0,12,168]),(41,[]),(42,[]),(43,[0,2,20,185]),(44,[0,13]),(45,[0,13]),(46,[0,13]),(47,[]),(48,[0,2,201]),(49,[0,2,14]),(50,[0,2,14]),(51,[0,2,14]),(52,[])]),
 (15,[(0,[0]),(1,[0,3]),(2,[0,3,4]),(3,[0,3,4,12]),(4,[0,3,4]),(5,[0,3,4,24]),(6,[0,3,4]),(7,[0,3,31]),(8,[2]),(9,[0,3,37]),(10,[2]),(11,[2])]),
 (16,[(0,[1]),(1,[1,15]),(2,[2]),(3,[1,31]),(4,[2]),(5,[1,3]),(6,[1,3,4]),(7,[3,4,39,40]),(8,[3,4,39,40,41]),(9,[3,4,5,39,40]),(10,[3,4,39,40,47]),(11,[2]),(12,[3,4,39,40]),(13,[2])]),
 (17,[(0,[1,2,4,5]),(1,[1,2,4,5,6]),(2,[1,2,4,5,6,7]),(3,[1,2,4,5,6,7,20]),(4,[4,5]),(5,[1,2,4,5,6,7,24]),(6,[4,5]),(7,[1,2,4,5,6,7,33]),(8,[1,2,4,5,6,7,8]),(9,[1,2,4,5,6,7,51]),(10,[4,5]),(11,[4,5,6,7,55]),(12,[4,5,6,7,10]),(13,[4,5,7,73]),(14,[4,5]),(15,[1,2,4,5,6,7,75]),(16,[4,5,6,7,81]),(17,[4,5,6,7,12]),(18,[4,5,7,94]),(19,[4,5]),(20,[4,5])]),
 (18,[(0,[1,2,4]),(1,[1,2,4,6]),(2,[1,2,4,6,19]),(3,[4,5]),(4,[1,2,4,6,7]),(5,[1,2,4,6,7,27]),(6,[1,2,4,6,7]),(7,[1,2,4,6,7,8]),(8,[1,2,4,6,7,8,9]),(9,[1,2,4,6,7,8,9,39]),(10,[4,5]),(11,[1,2,4,6,7,48]),(12,[4,5]),(13,[4,5])]),
 (19,[(0,[2,3,4]),(1,[2,3,4,9]),(2,[4,5]),(3,[2,3,4,21]),(4,[4,5]),(5,[3,4,6]),(6,[4,6,33]),(7,[4,5]),(8,[4,5])]),
 (20,[(0,[1,2]),(1,[1,2]),(2,[1,2,22,23,24]),(3,[1,2,22,23,24,25]),(4,[1,2,3,4,22,23,24]),(5,[1,2,22,23,24]),(6,[1,2,22,23,24]),(7,[1,2,47,48,49]),(8,[1,2,47,48,49,50]),(9,[1,2,5,6,47,48,49]),(10,[1,2,5,7,8,47,48,49]),(11,[1,2,5,7,8,47,48,49,60,61,62]),(12,[1,2,5,7,8,47,48,49,60,61,62,63]),(13,[1,2,5,7,8,9,10,47,48,49,60,61,62]),(14,[1,2,5,7,8,47,48,49,60,61,62]),(15,[1,2,5,7,8,47,48,49,60,61,62]),(16,[1,2,5,7,8,47,48,49,75,76,77]),(17,[1,2,5,7,8,47,48,49,75,76,77,78]),(18,[1,2,5,7,8,11,12,47,48,49,75,76,77]),(19,[1,2,5,7,8,47,48,49,75,76,77]),(20,[1,2,5,7,8,47,48,49,75,76,77]),(21,[1,2,47,48,49]),(22,[1,2,47,48,49]),(23,[2])]),
 (21,[(0,[1,2,3]),(1,[1,2,3]),(2,[1,3,7,8]),(3,[1,3,7,8,9]),(4,[1,3,7,8,28]),(5,[1,3,7,8,28]),(6,[6]),(7,[1,3,7,8,60]),(8,[6]),(9,[1,3,7,8,78]),(10,[10,11]),(11,[124]),(12,[6]),(13,[125]),(14,[6]),(15,[6])]),
 (22,[(0,[0,1]),(1,[1,5]),(2,[1,5,10]),(3,[4]),(4,[4])]),
 (23,[(0,[0]),(1,[0,3]),(2,[0,3,13]),(3,[0,3]),(4,[0,3]),(5,[3]),(6,[2])]),
 (24,[(0,[]),(1,[0])]),
 (25,[(0,[0]),(1,[3]),(2,[3,4]),(3,[3,4]),(4,[3,4]),(5,[3,4]),(6,[3,4]),(7,[3,4]),(8,[3,4]),(9,[3,4]),(10,[4]),(11,[2]),(12,[2])]),
 (26,[(0,[1]),(1,[1,3]),(2,[1,3,8]),(3,[2]),(4,[2])]),
 (27,[(0,[1,2,3]),(1,[1,2,3,7]),(2,[1,2,3,7,8]),(3,[1,2,3,7,24]),(4,[1,2,3,7,24]),(5,[1,2,3,7,24]),(6,[6]),(7,[1,2,3,7,46]),(8,[6]),(9,[1,3,7,74]),(10,[6]),(11,[1,3,7,85]),(12,[6]),(13,[1,3,7,120,121,122]),(14,[1,3,7,120,121,122,123]),(15,[1,3,7,10,120,121,122]),(16,[1,3,7,120,121,122,140]),(17,[6]),(18,[1,3,7,120,121,122]),(19,[1,3,7,144]),(20,[6]),(21,[1,3,7,149]),(22,[6]),(23,[1,3,7]),(24,[6])]),
 (28,[(0,[0]),(1,[2])]),
 (29,[(0,[2,3,4,5]),(1,[2,3,4,5,6]),(2,[2,3,4,5,6,18]),(3,[2,3,4,5,7,20]),(4,[2,3,4,5,7,8]),(5,[2,3,4,5,7,8,30]),(6,[3,4,5,7,8,9]),(7,[3,4,5,7,8,9,35]),(8,[4,5]),(9,[3,4,5,8,9,46]),(10,[4,5]),(11,[3,4,5,8,9,58]),(12,[4,5]),(13,[4,5,65]),(14,[4,5]),(15,[3,4,5,10]),(16,[4,5])]),
 (30,[(0,[2,3]),(1,[4])]),
 (31,[(0,[2,3]),(1,[4])]),
 (32,[(0,[0,1]),(1,[4])]),
 (33,[(0,[0]),(1,[2])]),
 (34,[(0,[2,3]),(1,[2,3,5]),(2,[2,3,5,6]),(3,[2,3,5,6,15]),(4,[4]),(5,[2,3,5,6,15,16]),(6,[3,5,30]),(7,[4]),(8,[]),(9,[2,3,5,6,15,40]),(10,[2,3,5,6,51]),(11,[4]),(12,[2,3,5,6,7]),(13,[2,3,5,6,87]),(14,[4]),(15,[5,6]),(16,[]),(17,[2,3,5,6,15,97]),(18,[5,6,132]),(19,[4]),(20,[]),(21,[2,3,5,15,136]),(22,[5,156]),(23,[4]),(24,[]),(25,[2,3,5,15,160]),(26,[5,173]),(27,[4]),(28,[]),(29,[2,3,177]),(30,[4]),(31,[4])]),
 (35,[(0,[0]),(1,[0,4]),(2,[2]),(3,[2])]),
 (36,[(0,[0]),(1,[0,4]),(2,[2]),(3,[2])]),
 (37,[(0,[0]),(1,[0,4]),(2,[2]),(3,[2])]),
 (38,[(0,[0]),(1,[0,4]),(2,[2]),(3,[2])]),
 (39,[(0,[0]),(1,[0,4]),(2,[2]),(3,[2])]),
 (40,[(0,[0]),(1,[0,4]),(2,[2]),(3,[2])]),
 (41,[(0,[0]),(1,[2])]),
 (42,[(0,[0]),(1,[2])]),
 (43,[(0,[1,2,3,4]),(1,[1,2,3,4,16]),(2,[8]),(3,[1,2,3,4,9]),(4,[1,2,3,4,26]),(5,[8]),(6,[1,2,3,4,42]),(7,[8]),(8,[2,3,4,10,11]),(9,[10,11,12,13]),(10,[8])]),
 (44,[(0,[0,1]),(1,[0,1,7,8]),(2,[0,1,7,8,9]),(3,[0,1,5,7,8]),(4,[0,1,5,7,8,16]),(5,[4]),(6,[0,1,7,8]),(7,[4])]),
 (45,[(0,[1]),(1,[2])]),
 (46,[(0,[1]),(1,[1,3,4]),(2,[1,3,4,5]),(3,[1,5,15]),(4,[2]),(5,[1,36]),(6,[2]),(7,[1,73]),(8,[2]),(9,[1,112]),(10,[2]),(11,[1,127]),(12,[2]),(13,[1,161]),(14,[2]),(15,[2])]),
 (47,[(0,[0]),(1,[2])]),
 (48,[(0,[0]),(1,[2])]),
 (49,[(0,[0]),(1,[2])]),
 (50,[(0,[1]),(1,[1,5]),(2,[2]),(3,[2])]),
 (51,[(0,[1,2,3]),(1,[6])]),
 (52,[(0,[3,4,5,6]),(1,[3,4,5,6,28]),(2,[6]),(3,[3,4,5,6,7]),(4,[3,4,5,6,7,31,32,33]),(5,[3,4,5,6,7,31,32,33,34]),(6,[3,4,5,6,7,9,31,32,33]),(7,[3,4,5,6,7,9,31,32,33,57]),(8,[6]),(9,[3,4,5,6,7,9,10,31,32,33]),(10,[3,4,5,6,7,9,31,32,33,82]),(11,[6]),(12,[3,4,5,6,7,31,32,33]),(13,[3,4,5,6,7,31,32,33]),(14,[3,4,5,6,7,88,89,90]),(15,[3,4,5,6,7,88,89,90,91]),(16,[3,4,5,6,7,12,88,89,90]),(17,[3,4,5,6,7,88,89,90,107]),(18,[6]),(19,[3,4,5,6,7,88,89,90]),(20,[3,5,6,7,110]),(21,[3,5,6,7,13]),(22,[6,136]),(23,[6]),(24,[6])]),
 (53,[(0,[0,1]),(1,[0,1,10]),(2,[4]),(3,[0,1,12,13]),(4,[0,1,12,13,14]),(5,[0,1,5,12,13]),(6,[0,1,12,13,24]),(7,[4]),(8,[0,1,12,13]),(9,[4])]),
 (54,[(0,[0,2,4]),(1,[0,2,4,9]),(2,[0,2,4]),(3,[0,2,4,5]),(4,[0,2,4,26])]),
 (55,[(0,[0,1]),(1,[0,1,7,8]),(2,[0,1,7,8,9]),(3,[0,1,5,7,8]),(4,[0,1,5,7,8,16]),(5,[4]),(6,[0,1,7,8]),(7,[4])]),
 (56,[(0,[1]),(1,[2])]),
 (57,[(0,[0]),(1,[2])]),
 (58,[(0,[3,4,5]),(1,[3,6]),(2,[3,6,7]),(3,[3,6,7,20,21]),(4,[3,6,7,20,21,22]),(5,[3,6,7,8,20,21]),(6,[3,6,7,9,20,21]),(7,[3,6,7,9,20,21]),(8,[3,6,7,20,21]),(9,[3,6,7,20,21]),(10,[6,7,54,55,56]),(11,[6,7,54,55,56,57]),(12,[6,7,11,54,55,56]),(13,[6,7,11,54,55,56,61,62,63]),(14,[6,7,11,54,55,56,61,62,63,64]),(15,[6,7,11,13,54,55,56,61,62,63]),(16,[6,7,11,54,55,56,61,62,63]),(17,[6,7,11,54,55,56,61,62,63]),(18,[6,7,11,54,55,56,73,74,75]),(19,[6,7,11,54,55,56,73,74,75,76]),(20,[6,7,11,14,15,54,55,56,73,74,75]),(21,[6,7,11,14,54,55,56,73,74,75]),(22,[6,7,11,54,55,56,73,74,75]),(23,[6,7,11,54,55,56,73,74,75]),(24,[6,7,54,55,56])]),
 (59,[(0,[2,3,4]),(1,[2,3,4,5]),(2,[2,3,4,5,12,13,14]),(3,[2,3,4,5,12,13,14,15]),(4,[2,3,4,5,6,7,12,13,14]),(5,[2,3,4,5,6,7,12,13,14,20]),(6,[2,3,4,5,6,7,8,12,13,14]),(7,[2,3,4,5,6,7,8,12,13,14,35]),(8,[2,3,4,5,6,8,9,12,13,14]),(9,[2,3,4,5,6,8,9,12,13,14,43]),(10,[3,8,10]),(11,[]),(12,[2,3,4,5,6,8,12,13,14]),(13,[2,3,4,5,6,12,13,14,58]),(14,[2,3,4,5,12,13,14]),(15,[2,3,4,5,12,13,14]),(16,[4])]),
 (60,[(0,[2,3]),(1,[2,3,5]),(2,[2,3,5,25]),(3,[4]),(4,[2,3,5,6]),(5,[2,3,5,6,7]),(6,[2,3,5,6,7,37]),(7,[2,3,5,6,7]),(8,[2,3,5,6,7,8]),(9,[2,3,5,6,7,8,59]),(10,[2,3,5,6,7,8,9]),(11,[2,3,5,6,7,8]),(12,[2,3,5,6,7,8,92]),(13,[2,3,5,6,7,8]),(14,[2,3,5,6,7,8,98]),(15,[2,3,5,6,7]),(16,[2,3,5,6,7,8,108]),(17,[2,3,5,6,7]),(18,[2,3,5,6,7,8,128]),(19,[2,3,5,6,7,8]),(20,[2,3,5,6,7,8,140,141,142]),(21,[2,3,5,6,7,8,140,141,142,143]),(22,[2,3,5,6,7,8,10,11,140,141,142]),(23,[2,3,5,6,7,8,10,140,141,142,149]),(24,[2,3,5,6,7,8,140,141,142]),(25,[2,3,5,6,7,8,140,141,142]),(26,[]),(27,[4])]),
 (61,[(0,[1,2,3,6]),(1,[1,2,3,6,16]),(2,[6,7]),(3,[1,6,25,26,27]),(4,[1,6,25,26,27,28]),(5,[1,6,9,25,26,27]),(6,[1,6,9,25,26,27,44]),(7,[6,7]),(8,[1,6,25,26,27]),(9,[6,7])]),
 (62,[(0,[0]),(1,[4]),(2,[4,5]),(3,[2,3]),(4,[4,7]),(5,[2,3]),(6,[4,9]),(7,[2,3]),(8,[4,11]),(9,[2,3]),(10,[4,13]),(11,[4,13]),(12,[2,3]),(13,[4,16]),(14,[2,3]),(15,[4,18]),(16,[2,3]),(17,[4,20]),(18,[4,20]),(19,[20]),(20,[2,3]),(21,[2,3])]),
 (63,[(0,[0]),(1,[3]),(2,[3,4]),(3,[3,4]),(4,[3,4]),(5,[3,4]),(6,[3,4]),(7,[3,4]),(8,[3,4]),(9,[3,4]),(10,[2]),(11,[3,13]),(12,[3,13]),(13,[3,13]),(14,[3,13]),(15,[2]),(16,[18]),(17,[2]),(18,[2])]),
 (64,[(0,[0]),(1,[0,5,6,7]),(2,[0,5,6,7,8]),(3,[0,3,4,5,6,7]),(4,[0,5,6,7,20]),(5,[2]),(6,[0,5,6,7]),(7,[2])]),
 (65,[(0,[1]),(1,[2])]),
 (66,[(0,[1]),(1,[1,3,4]),(2,[1,3,4,7]),(3,[2]),(4,[1,3,4,7,8]),(5,[1,3,4,7,8]),(6,[1,3,7,11]),(7,[1,3,4]),(8,[1,3,7,13]),(9,[1,3,4]),(10,[1,3,7,15]),(11,[1,5]),(12,[2]),(13,[1,3,7,33]),(14,[1,3,4]),(15,[1,3,35]),(16,[1,3,4]),(17,[2])]),
 (67,[(0,[1,2,6,7,8]),(1,[1,2,6,7,8,9]),(2,[1,2,5,6,7,8]),(3,[1,2,5,6,7,8,16]),(4,[1,2,6,7,8]),(5,[1,2,6,7,8])]),
 (68,[(0,[0,1,5,6]),(1,[0,1,5,6,7]),(2,[0,1,3,5,6]),(3,[0,1,5,6]),(4,[0,1,5,6])]),
 (69,[(0,[0,1]),(1,[4])]),
 (70,[(0,[1,2]),(1,[3])]),
 (71,[(0,[0,1]),(1,[4])]),
 (72,[(0,[1,2,3]),(1,[4])]),
 (73,[(0,[2,3,4]),(1,[2,3,4,7]),(2,[6]),(3,[2,3,4,13]),(4,[6]),(5,[3,4,29]),(6,[6]),(7,[6])]),
 (74,[(0,[0,1]),(1,[0,1,10]),(2,[0,1]),(3,[0,5,6]),(4,[0,6,26]),(5,[0,6]),(6,[0,7]),(7,[7,8]),(8,[7,8,37]),(9,[7,8]),(10,[4])]),
 (75,[(0,[0,1]),(1,[0,1,7,8]),(2,[0,1,7,8,9]),(3,[0,1,5,7,8]),(4,[0,1,5,7,8,16]),(5,[4]),(6,[0,1,7,8]),(7,[4])]),
 (76,[(0,[0,1,12,13,14]),(1,[0,1,12,13,14,15]),(2,[0,1,4,12,13,14]),(3,[0,1,12,13,14,19,20,21]),(4,[0,1,12,13,14,19,20,21,22]),(5,[0,1,6,12,13,14,19,20,21]),(6,[0,1,12,13,14,19,20,21,28]),(7,[0,1,12,13,14,19,20,21]),(8,[0,1,12,13,14]),(9,[0,32,33,34]),(10,[0,32,33,34,35]),(11,[0,8,32,33,34]),(12,[0,32,33,34,39,40,41]),(13,[0,32,33,34,39,40,41,42]),(14,[0,10,32,33,34,39,40,41]),(15,[0,32,33,34,39,40,41,48]),(16,[0,32,33,34,39,40,41]),(17,[0,32,33,34])]),
 (77,[(0,[0,1]),(1,[4])]),
 (78,[(0,[0]),(1,[2])]),
 (79,[(0,[0,1]),(1,[0,1,7,8]),(2,[0,1,7,8,9]),(3,[0,1,5,7,8]),(4,[0,1,5,7,8,16]),(5,[4]),(6,[0,1,7,8]),(7,[4])]),
 (80,[(0,[0,1]),(1,[6,7]),(2,[4,5]),(3,[8,9]),(4,[4,5])]),
 (81,[(0,[0,1]),(1,[4])]),
 (82,[(0,[0,1]),(1,[6]),(2,[4,5])]),
 (83,[(0,[0,1]),(1,[0,1,6]),(2,[0,1,6,7]),(3,[0,1,6,7,8]),(4,[0,1,6,7,8,9]),(5,[0,1,6,7,8,9,10]),(6,[0,1,6,7,9,11]),(7,[0,1,6,7,9,11,12]),(8,[0,1,6,7,9,12,13]),(9,[0,1,7,9,12,13]),(10,[0,1,4]),(11,[4,5])]),
 (84,[(0,[0,1,2]),(1,[1,2,10]),(2,[1,2,10,11,12]),(3,[1,2,7,8,10]),(4,[1,2,7,10,19]),(5,[6]),(6,[6])])
]
def fnL:List (Nat×Func):=[(3,Try.f3),(4,Try.f4),(5,Try.f5),(6,Try.f6),(7,Try.f7),(8,Try.f8),(9,Try.f9),(10,Try.f10),(11,Try.f11),(12,Try.f12),(13,Try.f13),(14,Try.f14),(15,Try.f15),(16,Try.f16),(17,Try.f17),(18,Try.f18),(19,Try.f19),(20,Try.f20),(21,Try.f21),(22,Try.f22),(23,Try.f23),(24,Try.f24),(25,Try.f25),(26,Try.f26),(27,Try.f27),(28,Try.f28),(29,Try.f29),(30,Try.f30),(31,Try.f31),(32,Try.f32),(33,Try.f33),(34,Try.f34),(35,Try.f35),(36,Try.f36),(37,Try.f37),(38,Try.f38),(39,Try.f39),(40,Try.f40),(41,Try.f41),(42,Try.f42),(43,Try.f43),(44,Try.f44),(45,Try.f45),(46,Try.f46),(47,Try.f47),(48,Try.f48),(49,Try.f49),(50,Try.f50),(51,Try.f51),(52,Try.f52),(53,Try.f53),(54,Try.f54),(55,Try.f55),(56,Try.f56),(57,Try.f57),(58,Try.f58),(59,Try.f59),(60,Try.f60),(61,Try.f61),(62,Try.f62),(63,Try.f63),(64,Try.f64),(65,Try.f65),(66,Try.f66),(67,Try.f67),(68,Try.f68),(69,Try.f69),(70,Try.f70),(71,Try.f71),(72,Try.f72),(73,Try.f73),(74,Try.f74),(75,Try.f75),(76,Try.f76),(77,Try.f77),(78,Try.f78),(79,Try.f79),(80,Try.f80),(81,Try.f81),(82,Try.f82),(83,Try.f83),(84,Try.f84)]
def fnF (f:FuncId):Option Func:=findF f fnL
def UA (f:FuncId) (r:Nat):Option (List Tmp):=match findF f ZJ with
 | some l=>findF r l
 | none=>none
def ZR:List (Nat×Nat):=[(11,4),(12,1),(13,1),(14,1),(15,4),(23,1),(27,1),(51,1),(52,1),(65,1),(76,1),(31,1),(54,1),(20,1),(58,1),(60,1),(67,1),(68,1),(34,1),(35,2),(36,2),(37,2),(39,2),(40,2)]
def ai3:List Nat:=[45]
def hints:Hint:=⟨UA,λf=>match findF f ZR with
 | some m=>m
 | none=>0,λt=>nS t ai3⟩
theorem tc {x:Nat×Ty} {l:List (Nat×Ty)} (k:∀ y∈l,b6 Try.prog y.1 y.2) (a:tu Try.prog x.1=some x.2.kd:=by kernel_rfl) (b:(Try.prog.info? x.1).map (λi=>(i.size,i.bytes,i.zero))=some (x.2.size,x.2.bytes,some x.2.zero):=by kernel_rfl) (c:x.2.zero.cells.size=x.2.size:=by kernel_rfl):∀ y∈x::l,b6 Try.prog y.1 y.2:=List.forall_mem_cons.2 ⟨⟨a,b,c⟩,k⟩
theorem fc {x:Nat×Func} {l:List (Nat×Func)} (k:∀ y∈l,Try.prog.funcs[y.1]?=some y.2/\(y.2.name == "runtime.NumGoroutine")=false) (a:Try.prog.funcs[x.1]?=some x.2:=by kernel_rfl) (b:(x.2.name == "runtime.NumGoroutine")=false:=by kernel_rfl):∀ y∈x::l,Try.prog.funcs[y.1]?=some y.2/\(y.2.name == "runtime.NumGoroutine")=false:=List.forall_mem_cons.2 ⟨⟨a,b⟩,k⟩
theorem Ym:∀ x∈tyL,b6 Try.prog x.1 x.2:=
 (tc (tc (tc (tc (tc (tc (tc (tc (tc (tc (tc (tc (tc (tc (tc (tc (tc (tc (tc (tc (tc (tc (tc (tc (tc (tc (tc (tc (tc (tc (tc (tc (tc (tc (tc (tc (tc (tc (tc (List.forall_mem_nil _))))))))))))))))))))))))))))))))))))))))
theorem pB:cZ Try.prog lE:=⟨λt y h=>Ym (t,y) (lH h),Xj⟩
theorem VL:∀ x∈fnL,Try.prog.funcs[x.1]?=some x.2/\(x.2.name == "runtime.NumGoroutine")=false:=
 (fc (fc (fc (fc (fc (fc (fc (fc (fc (fc (fc (fc (fc (fc (fc (fc (fc (fc (fc (fc (fc (fc (fc (fc (fc (fc (fc (fc (fc (fc (fc (fc (fc (fc (fc (fc (fc (fc (fc (fc (fc (fc (fc (fc (fc (fc (fc (fc (fc (fc (fc (fc (fc (fc (fc (fc (fc (fc (fc (fc (fc (fc (fc (fc (fc (fc (fc (fc (fc (fc (fc (fc (fc (fc (fc (fc (fc (fc (fc (fc (fc (fc (List.forall_mem_nil _)))))))))))))))))))))))))))))))))))))))))))))))))))))))))))))))))))))))))))))))))))
theorem zA:Jk Try.prog fnF:=λf fn h=>VL (f,fn) (lH h)
theorem mixed:Try.prog.follows .mixedOrders=true:=by kernel_rfl
end
end Go.Proofs.Ytapefhcmohbmaaa
namespace Go.V
noncomputable section
structure Sq (α:Type) where
 n:Nat
 get:Nat->α
structure HN where
 fn:Int
 line:Int
structure iG where
 kind:Int
 n:Int
 s:ByteArray
structure ak where
 op:Int
 a:Int
 b:Int
 c:Int
 n:Int
 args:Sq Int
 k:iG
 names:Sq ByteArray
 place:HN
 exit:Int
 once:Bool
structure cA where
 fn:Int
 line:Int
 vars:Sq Int
structure dh where
 value:Int
 cls:Int
 names:Sq ByteArray
 items:Sq Int
structure ai where
 frames:Sq cA
 aC:Sq dh
 back:Int
structure af where
 place:HN
 ins:Sq ak
 aa:Sq ai
section
variable (s:ByteArray) {α:Type} (t:af) (v:iG) (op:Int) (g:Nat->I) (ds:List D) (x:I) (sz:Nat) (a:Int) (k:Nat) (n b c:Int)
def iI:I:=.v (.int .i64 n)
def iS:I:=.v (.string s)
def iB (b:Bool):I:=.v (.bool b)
def YD (l:List I):Nat->I:=List.rec (λ_=>.v (.bool false)) (λx _ ih k=>Nat.rec x (λm _=>ih m) k) l
def yr (e:α->Nat->I) (s:Sq α):I:=.sl sz s.n λi=>e (s.get i)
def bF:Nat->I:=λ_=>iI n
def dF:Nat->I:=λ_=>iS s
def b8 (x:ak):List I:=[iI x.op,iI x.a,iI x.b,iI x.c,iI x.n,yr 1 bF x.args,iI x.k.kind,iI x.k.n,iS x.k.s,yr 1 dF x.names,iI x.place.fn,iI x.place.line,iI x.exit,iB x.once]
def bQ (x:ak):Nat->I:=YD (b8 x)
def la (x:cA):List I:=[iI x.fn,iI x.line,yr 1 bF x.vars]
def cK (x:cA):Nat->I:=YD (la x)
def tT (x:dh):List I:=[iI x.value,iI x.cls,yr 1 dF x.names,yr 1 bF x.items]
def eM (x:dh):Nat->I:=YD (tT x)
def bz (x:ai):List I:=[yr 3 cK x.frames,yr 4 eM x.aC,iI x.back]
def bG (x:ai):Nat->I:=YD (bz x)
def aJ:List I:=[iI t.place.fn,iI t.place.line,yr 14 bQ t.ins,yr 3 bG t.aa]
def RB:List I:=[iI v.kind,iI v.n,iS v.s]
def iJ (x:ak):D:=.a (lift (b8 x))
def Ir (x:ai):D:=.a (lift (bz x))
def bH:D:=.a (lift (aJ t))
def RI:D:=.a (lift (RB v))
def iR (e:α->Nat->I) (s:Sq α):D:=.c (.im (yr sz e s))
def Zr:D:=.c (.im (iS s))
def cr (n e:Int):ak:=⟨op,a,b,c,n,⟨0,λ_=>0⟩,⟨0,0,⟨⟨[]⟩⟩⟩,⟨0,λ_=>⟨⟨[]⟩⟩⟩,⟨0,0⟩,e,false⟩
def fF (n e:Int):List C:=lift [iI op,iI a,iI b,iI c,iI n,.v (.slice none 0 0),iI 0,iI 0,iS ⟨⟨[]⟩⟩,.v (.slice none 0 0),iI 0,iI 0,iI e,iB false]
def bX:Int:=match x with
 | .v (.int .i64 n)=>n
 | _=>0
def SC:ByteArray:=match x with
 | .v (.string s)=>s
 | _=>⟨⟨[]⟩⟩
def Vc:Bool:=match x with
 | .v (.bool b)=>b
 | _=>false
def Lz (r:(Nat->I)->α) (x:I):Sq α:=match x with
 | .sl _ n get=>⟨n,λi=>r (get i)⟩
 | _=>⟨0,λ_=>r λ_=>.v (.bool false)⟩
def rI:Int:=bX (g 0)
def rS:ByteArray:=SC (g 0)
def jA:ak:=⟨bX (g 0),bX (g 1),bX (g 2),bX (g 3),bX (g 4),Lz rI (g 5),⟨bX (g 6),bX (g 7),SC (g 8)⟩,Lz rS (g 9),⟨bX (g 10),bX (g 11)⟩,bX (g 12),Vc (g 13)⟩
def VX:cA:=⟨bX (g 0),bX (g 1),Lz rI (g 2)⟩
def ab1:dh:=⟨bX (g 0),bX (g 1),Lz rS (g 2),Lz rI (g 3)⟩
def oB:ai:=⟨Lz VX (g 0),Lz ab1 (g 1),bX (g 2)⟩
def W0:af:=⟨⟨bX (g 0),bX (g 1)⟩,Lz jA (g 2),Lz oB (g 3)⟩
def az5:iG:=⟨bX (g 0),bX (g 1),SC (g 2)⟩
def cI (c:C):I:=match c with
 | .im x=>x
 | _=>.v (.bool false)
def nC (l:List C) (k:Nat):I:=match aR l k with
 | some c=>cI c
 | none=>.v (.bool false)
def gD (d:D):Nat->I:=match d with
 | .a l=>nC l
 | .c x=>λ_=>cI x
 | _=>λ_=>.v (.bool false)
def aD:D:=match aR ds k with
 | some d=>d
 | none=>.t []
def aI:Int:=rI (gD (aD ds k))
def aS:ByteArray:=rS (gD (aD ds k))
def JT:ak:=jA (gD (aD ds k))
def US:ai:=oB (gD (aD ds k))
def ff:af:=W0 (gD (aD ds k))
def Zg:iG:=az5 (gD (aD ds k))
def WZ:Sq Int:=Lz rI (gD (aD ds k) 0)
def NC:Sq ByteArray:=Lz rS (gD (aD ds k) 0)
end
end
section
variable {T:dk} {P:Program} {f:FuncId} {ds ds':List D} {rs aG:List ae} {d d':D}
theorem az.le {E:Env} {av:Nat->Prop} {w:World}:∀ {ds ds':List D} {vs:List Value},az bf ds ds'->az (aQ E av w) ds vs->az (aQ E av w) ds' vs
 | _,_,_,.nil,.nil=>.nil
 | _,_,_,.cons q k,.cons q' k'=>.cons (q _ _ _ _ q') (az.le k k')
theorem bB.pre (h:bB T P f ds' rs d aG) (hd:az bf ds ds'):bB T P f ds rs d aG:=
 ⟨h.out.1,λN ax w0 sp sl df a w E vs hR hv=>h.out.2 N ax w0 sp sl df a w E vs hR (az.le hd hv)⟩
theorem bB.post (h:bB T P f ds rs d aG) (hd:bf d d'):bB T P f ds rs d' aG:=
 ⟨h.out.1,λN ax w0 sp sl df a w E vs hR hv=>(h.out.2 N ax w0 sp sl df a w E vs hR hv).mono λe w' ⟨v,E',h1,h2,h3,h4⟩=>⟨v,E',h1,h2,h3,hd _ _ _ _ h4⟩⟩
end
theorem jI:(∀ b:Bool,(true||b)=true)/\(∀ b:Bool,(false||b)=b)/\(∀ b:Bool,(true&&b)=b)/\(∀ b:Bool,(false&&b)=false)/\((!true)=false)/\((!false)=true)/\(∀ b:Bool,(b||true)=true)/\(∀ b:Bool,(b||false)=b)/\(∀ b:Bool,(b&&true)=b)/\(∀ b:Bool,(b&&false)=false)/\(∀ (α:Type) (a b:α),cond true a b=a)/\(∀ (α:Type) (a b:α),cond false a b=b)/\(∀ b:Bool,(!(!b))=b):=by simp
theorem rc {x:ae} {l l':List ae} (h:az bZ l l'):az bZ (x::l) (x::l'):=.cons (bZ.refl _) h
theorem wk1 {sl l:aL} {t:Tmp} {d:D} (h:dW sl t=some d) (k:QS sl l):QS sl ((t,d,[])::l):=⟨⟨rfl,d,h,bf.refl _⟩,k⟩
theorem aH {m n:Nat} (h:Nat.ble m n=true):m<=n:=Nat.le_of_ble_eq_true h
def ci (n:Int):C:=.im (.v (.int .i64 n))
end Go.V
namespace Go.Proofs.Ytapefhcmohbmaaa
open Go Go.V
abbrev LC:=bB lE Try.prog
abbrev WC:=wh lE Try.prog
noncomputable section
def va (f:FuncId):Func:=match fnF f with
 | some fn=>fn
 | none=>default
def nt (f:FuncId):Code:=match (va f).body with
 | some c=>c
 | none=>.skip
def pW (id:Nat) (c:Code):List Item->Option (List Item):=match c with
 | .region i ops d=>λk=>Bool.rec none (some (.code (.region i ops d)::k)) (Nat.beq i id)
 | .seq a b=>λk=>match pW id a (.code b::k) with
   | some l=>some l
   | none=>pW id b k
 | .cond x a b=>λk=>match pW id a k with
   | some l=>some l
   | none=>pW id b k
 | .block i a=>λk=>pW id a (.inBlock i::k)
 | .loop a=>λk=>pW id a (.inLoop a::k)
 | _=>λ_=>none
def ah (f:FuncId) (id:Nat):List Item:=match pW id (nt f) [] with
 | some l=>l
 | none=>[]
abbrev LP:=List Item->VS->Prop
section
variable (X:gr) (f:FuncId) (stop:Nat->Bool) (L:LP) (Q:D->List ae->Prop)
def fG (ds:List D) (rs:List ae):Prop:=
 tg lE Try.prog X hints (va f).ntmps f none stop L (rz lE (va f).results.toList Q) 10000 false [.code (nt f)] ⟨cP 0 ds,rs,[]⟩
def cW (id:Nat) (s:VS):Prop:=
 tg lE Try.prog X hints (va f).ntmps f none stop L (rz lE (va f).results.toList Q) 10000 true (ah f id) s
def X0:gr:={ F:=λ_ _ _=>(.t [],[],[]) }
def cD:Nat->Bool:=λ_=>false
end
end
open Go Go.V
def ag (f:FuncId) (n0:Nat) (Q:D->List ae->Prop) (todo:List Item) (s:VS):Prop:=
 ∀ (b:Frame) (cs:List Frame),b.fn=f->Goal Try.prog lE (va f).ntmps b cs none n0 (rz lE (va f).results.toList Q) todo s
theorem reach {X:gr} {f:FuncId} {stop:Nat->Bool} {n0:Nat} {Q:D->List ae->Prop} {todo:List Item} {s:VS} {go:Bool} {n:Nat}
  (h:tg lE Try.prog X hints (va f).ntmps f none stop (ag f n0 Q) (rz lE (va f).results.toList Q) n go todo s):ag f n0 Q todo s:=
 λb cs hb=>ve pB mixed hb (λ_ _ q=>q b cs hb) (λ_ _ q=>q) n h
structure Fn (f:FuncId):Prop where
 lE:fnF f=some (va f):=by kernel_rfl
 body:(va f).body=some (nt f):=by kernel_rfl
theorem km {a b:Prop} (h:a) (e:a=b:=by kernel_rfl):b:=Eq.mp e h
section
variable {X:gr} {f:FuncId} {stop:Nat->Bool} {ds:List D} {d:D}
theorem MQ (hf:Fn f) (hl:ds.length<=(va f).ntmps) (h:ag f 0 (cw d) [.code (nt f)] ⟨cP 0 ds,[],[]⟩):LC f ds [] d []:=by
 obtain ⟨h1,h2⟩:=zA f _ hf.lE
 exact M4 pB h1 h2 hf.body hl h
theorem gM (hf:Fn f) {rs:List ae} {aG:List ae} (hl:ds.length<=(va f).ntmps) (h:ag f rs.length (Go.V.Ends rs d aG) [.code (nt f)] ⟨cP 0 ds,rs,[]⟩):LC f ds rs d aG:=by
 obtain ⟨h1,h2⟩:=zA f _ hf.lE
 exact TF pB h1 h2 hf.body hl h
noncomputable def cy (QD:D->Prop) (d1:D) (fQ:List ae):Prop:=fU (dg fQ d1) QD
theorem ry (hf:Fn f) (hl:ds.length<=(va f).ntmps) (h:fG X f stop (ag f 0 (cw d)) (cw d) ds []):LC f ds [] d []:=
 MQ hf hl (reach h)
theorem pv (hf:Fn f) (h:fG X f stop (ag f 0 (cw d)) (cw d) ds []) (hl:ds.length<=(va f).ntmps:=by exact aH (by kernel_rfl)):LC f ds [] d []:=
 ry hf hl h
theorem l4 {k:Nat} (h:k<9223372036854775808):IntKind.i64.wrap (k:Int)=k:=by
 have e1:(2 ^ IntKind.i64.bits:Int)=18446744073709551616:=by rfl
 have e2:(2 ^ (IntKind.i64.bits-1):Int)=9223372036854775808:=by rfl
 grind [IntKind.wrap]
end
theorem gG {k:Int} (h0:0<=k) (h:k<9223372036854775808):IntKind.i64.wrap k=k:=by
 grind [Int.eq_ofNat_of_zero_le,l4]
end Go.Proofs.Ytapefhcmohbmaaa
set_option linter.unusedSimpArgs false
namespace Go.Proofs.Ytapefhcmohbmaaa
open Go Go.V
noncomputable section
def IE:gr:={ F:=X0.F }
section
variable (L:LP) (op a:Int) (x:ak) (QD:D->Prop) (m:Int)
def fV:Int:=
 bif op==3 then
  1
 else
  bif op==5 then
   1
  else
   bif op==6 then
    1
   else
    bif op==7 then
     1
    else
     bif op==8 then
      1
     else
      bif op==10 then
       1
      else
       bif op==14 then
        1
       else
        bif op==19 then
         1
        else
         bif op==4 then
          2
         else
          bif op==9 then
           2
          else
           bif op==12 then
            2
           else
            bif op==11 then
             2
            else
             bif op==13 then
              3
             else
              0
theorem at5 (op:Int) (h:br (op==3) (QD (int 1)) (br (op==5) (QD (int 1)) (br (op==6) (QD (int 1)) (br (op==7) (QD (int 1)) (br (op==8) (QD (int 1)) (br (op==10) (QD (int 1)) (br (op==14) (QD (int 1)) (br (op==19) (QD (int 1)) (br (op==4) (QD (int 2)) (br (op==9) (QD (int 2)) (br (op==12) (QD (int 2)) (br (op==11) (QD (int 2)) (br (op==13) (QD (int 3)) (QD (int 0))))))))))))))):fG IE 63 cD L (cy QD) [int op] []:=km h
theorem aw9:Fn 63:={}
theorem Ae  : LC 63 [int op] [] (int (fV op)) []:=by
 refine pv (X:=IE) (stop:=cD) aw9 (at5 _ _ op ?_)
 refine aq (λh=>?_) (λh=>?_)
 .simp only [fV, *,cond_true,cond_false]; exact bf.refl _
 .refine aq (λh=>?_) (λh=>?_)
  .simp only [fV, *,cond_true,cond_false]; exact bf.refl _
  .refine aq (λh=>?_) (λh=>?_)
   .simp only [fV, *,cond_true,cond_false]; exact bf.refl _
   .refine aq (λh=>?_) (λh=>?_)
    all_goals grind [fV,bf.refl,aq]
def wK:Bool:=
 bif op==1 then
  true
 else
  bif op==2 then
   true
  else
   bif op==3 then
    true
   else
    bif op==4 then
     true
    else
     bif op==10 then
      true
     else
      bif op==12 then
       true
      else
       bif op==14 then
        true
       else
        bif op==16 then
         true
        else
         bif op==17 then
          true
         else
          false
theorem at8 (op:Int) (h:br (op==1) (QD (bool true)) (br (op==2) (QD (bool true)) (br (op==3) (QD (bool true)) (br (op==4) (QD (bool true)) (br (op==10) (QD (bool true)) (br (op==12) (QD (bool true)) (br (op==14) (QD (bool true)) (br (op==16) (QD (bool true)) (br (op==17) (QD (bool true)) (QD (bool false))))))))))):fG IE 25 cD L (cy QD) [int op] []:=km h
theorem av4:Fn 25:={}
theorem af7  : LC 25 [int op] [] (bool (wK op)) []:=by
 refine pv (X:=IE) (stop:=cD) av4 (at8 _ _ op ?_)
 grind [aq,wK,bf.refl]
def eX:Int:=
 bif op==3 then
  1
 else
  bif op==4 then
   1
  else
   bif op==5 then
    2
   else
    bif op==6 then
     2
    else
     bif op==7 then
      2
     else
      bif op==8 then
       2
      else
       bif op==9 then
        2
       else
        bif op==15 then
         2
        else
         bif op==18 then
          2
         else
          bif op==21 then
           2
          else
           0
def m80:Bool:=
 bif op==2 then
  true
 else
  bif op==3 then
   true
  else
   bif op==4 then
    true
   else
    bif op==5 then
     true
    else
     bif op==6 then
      true
     else
      bif op==7 then
       true
      else
       bif op==8 then
        true
       else
        bif op==9 then
         true
        else
         bif op==10 then
          true
         else
          bif op==12 then
           true
          else
           bif op==14 then
            true
           else
            false
def iK:Bool:=
 bif op==10 then
  true
 else
  (op==12)
theorem ar1 (op:Int) (h:br (op==10) (QD (bool true)) (QD (bool (op==12)))):fG IE 28 cD L (cy QD) [int op] []:=km h
theorem ax1:Fn 28:={}
theorem v8  : LC 28 [int op] [] (bool (iK op)) []:=by
 refine pv (X:=IE) (stop:=cD) ax1 (ar1 _ _ op ?_)
 grind [aq,iK,bf.refl]
def dE:Bool:=
 bif op==11 then
  true
 else
  (op==13)
theorem ZV (op:Int) (h:br (op==11) (QD (bool true)) (QD (bool (op==13)))):fG IE 33 cD L (cy QD) [int op] []:=km h
theorem ag6:Fn 33:={}
theorem tQ  : LC 33 [int op] [] (bool (dE op)) []:=by
 refine pv (X:=IE) (stop:=cD) ag6 (ZV _ _ op ?_)
 grind [aq,dE,bf.refl]
def fD:Bool:=
 bif op==10 then
  true
 else
  (op==11)
theorem af2 (op:Int) (h:br (op==10) (QD (bool true)) (QD (bool (op==11)))):fG IE 42 cD L (cy QD) [int op] []:=km h
theorem ab8:Fn 42:={}
theorem AQ  : LC 42 [int op] [] (bool (fD op)) []:=by
 refine pv (X:=IE) (stop:=cD) ab8 (af2 _ _ op ?_)
 grind [aq,fD,bf.refl]
def az0:Bool:=
 bif op==10 then
  true
 else
  (op==11)
def gH (n low high:Int):Bool:=
 bif decide (n≥low) then
  (decide (n<=high))
 else
  false
def UJ:Int:=
 bif decide (a.tmod m<0) then
  (IntKind.i64.wrap (a.tmod m+m))
 else
  (a.tmod m)
theorem at6 (a m:Int) (h:nd (!m==0) (br (decide (a.tmod m<0)) (QD (int (IntKind.i64.wrap (a.tmod m+m)))) (QD (int (a.tmod m))))):fG IE 22 cD L (cy QD) [int a,int m] []:=km h
theorem as4:Fn 22:={}
theorem ac8 (hm:m≠0):LC 22 [int a,int m] [] (int (UJ a m)) []:=by
 refine pv (X:=IE) (stop:=cD) as4 (at6 _ _ a m ?_)
 grind [ay,aq,UJ,bf.refl]
def JA:Bool:=
 (x.1 != 1)
theorem as9 (x:ak) (h:QD (bool (x.1 != 1))):fG IE 45 cD L (cy QD) [iJ x] []:=km h
theorem ax9:Fn 45:={}
theorem Zk  : LC 45 [iJ x] [] (bool (JA x)) []:=by
 refine pv (X:=IE) (stop:=cD) ax9 (as9 _ _ x ?_)
 simp only [JA, *,cond_true,cond_false]; exact bf.refl _
def F1L:List (Nat×(List D->List ae->Out)):=[
 (63,λds rs=>(int (fV (aI ds 0)),[],[])),
 (25,λds rs=>(bool (wK (aI ds 0)),[],[])),
 (28,λds rs=>(bool (iK (aI ds 0)),[],[])),
 (33,λds rs=>(bool (dE (aI ds 0)),[],[])),
 (42,λds rs=>(bool (fD (aI ds 0)),[],[])),
 (22,λds rs=>(int (UJ (aI ds 0) (aI ds 1)),[],[])),
 (45,λds rs=>(bool (JA (JT ds 0)),[],[]))]
def F1:FuncId->List D->List ae->Out:=λf ds rs=>match findF f F1L with
 | some g=>g ds rs
 | none=>X0.F f ds rs
end
open Go Go.V
section
variable {X:gr} {α:Type} {p:Nat->Bool} (a:ByteArray) {f:FuncId} {n m:Nat} (b:ByteArray) {k:Nat} {stop:Nat->Bool} {n0:Nat} {Q:D->List ae->Prop} {todo:List Item} {ds:List D} {rs:List ae} {d:D} {id:Nat} {s:VS} (s':VS)
theorem aF (h:cW X f stop (ag f n0 Q) Q id s):ag f n0 Q (ah f id) s:=reach h
theorem cU (h:fG X f stop (ag f n0 Q) Q ds rs):ag f n0 Q [.code (nt f)] ⟨cP 0 ds,rs,[]⟩:=reach h
theorem bt (h:cW X f stop (ag f n0 (cw d)) (cy λd2=>bf d2 d) id s):ag f n0 (cw d) (ah f id) s:=reach h
theorem Fn.enters (hf:Fn f):V.Enters Try.prog f:=by
 obtain ⟨h1,h2⟩:=zA f _ hf.lE
 exact ⟨_,h1,h2,by simp [hf.body]⟩
theorem bB.with (hf:Fn f) {aG:List ae} {p:Prop} (hp:∀ (E:Env) (av:Nat->Prop) (w:World) (vs:List Value),az (aQ E av w) ds vs->p) (h:p->LC f ds rs d aG):LC f ds rs d aG:=
 ⟨hf.enters,λN ax w0 sp sl df a w E vs hR hv=>(h (hp _ _ _ _ hv)).out.2 N ax w0 sp sl df a w E vs hR hv⟩
theorem wM {E:Env} {av:Nat->Prop} {w:World} {sz:Nat} {e:α->Nat->I} {x:Sq α} {v:Value} (h:aQ E av w (iR sz e x) v):x.n<=maxLen:=by
 obtain ⟨_,_,_,_,h,_⟩:=h
 exact h
theorem ag.le {f:FuncId} {n0:Nat} {Q:D->List ae->Prop} {todo:List Item} {s:VS} (s':VS) (h1:QS s.sl s'.sl) (h2:az bZ s.rs s'.rs) (h3:s'.df=s.df) (g:ag f n0 Q todo s'):ag f n0 Q todo s:=
 λb cs hb=>Goal.le h1 h2 h3 (g b cs hb)
theorem ag.IJ {f:FuncId} {n0:Nat} {Q:D->List ae->Prop} {todo:List Item} {s:VS} (t el sz:Nat) (ht:dW s.sl t=some (.c (.im (.v (.slice none 0 0))))) (g:ag f n0 Q todo (FI t el sz s)):ag f n0 Q todo s:=
 λb cs hb=>Goal.IJ ht (g b cs hb)
theorem ag.mj {f:FuncId} {n0:Nat} {Q:D->List ae->Prop} {todo:List Item} {s:VS} (r j el sz:Nat) (l:List C) (hr:aR s.rs r=some (.box l)) (hj:aR l j=some (.im (.v (.slice none 0 0)))) (g:ag f n0 Q todo (OD r j el sz l s)):ag f n0 Q todo s:=
 λb cs hb=>Goal.mj hr hj (g b cs hb)
theorem ag.freeze {f:FuncId} {n0:Nat} {Q:D->List ae->Prop} {todo:List Item} {s s':VS} (r:Nat) (h:Go.V.freeze r s=some s') (g:ag f n0 Q todo s'):ag f n0 Q todo s:=
 λb cs hb=>Goal.freeze h (g b cs hb)
theorem ag.lf (h2:az bZ s.rs s'.rs) (g:ag f n0 Q todo s') (h1:QS s.sl s'.sl:=by repeat' (first|exact trivial|refine wk1 rfl ?_)) (h3:s'.df=s.df:=by rfl):ag f n0 Q todo s:=ag.le s' h1 h2 h3 g
theorem rr:∀ l:List ae,az bZ l l
 | []=>.nil
 | x::l=>rc (rr l)
theorem ag.lr (g:ag f n0 Q todo s') (h1:QS s.sl s'.sl:=by repeat' (first|exact trivial|refine wk1 rfl ?_)) (h2:az bZ s.rs s'.rs:=by exact rr _) (h3:s'.df=s.df:=by rfl):ag f n0 Q todo s:=ag.le s' h1 h2 h3 g
theorem ag.rename {f:FuncId} {n0:Nat} {Q:D->List ae->Prop} {todo:List Item} {s s':VS} (π:List Nat) (h:OP n0 π s=some s') (g:ag f n0 Q todo s'):ag f n0 Q todo s:=
 λb cs hb=>Goal.rename π h (g b cs hb)
theorem bc {G:Nat->Prop} (step:∀ k,k<n->G (k+1)->G k) (last:G n):∀ k,k<=n->G k:=by
 intro k hk
 obtain ⟨m,rfl⟩:=Nat.exists_eq_add_of_le hk
 clear hk
 induction m generalizing k with
 | zero=>exact last
 | succ m ih=>
   grind
theorem dy (h:k<n) (hn:n<=maxLen):IntKind.i64.wrap ((k:Int)+1)=((k+1:Nat):Int):=by
 have:((k:Int)+1)=((k+1:Nat):Int):=by omega
 rw [this]
 unfold maxLen at hn
 exact l4 (by omega)
theorem aP (h:k<n):dm (k:Int) n=true:=by
 show Nat.blt k n=true
 simp_all
theorem dec_lt {a b:Nat} (h:decide ((a:Int)<(b:Int))=false):¬ a<b:=by
 grind
def iy (p:Nat->Bool):Nat->Nat->Int
 | 0,_ => -1
 | m+1,k=>bif p k then (k:Int) else iy p m (k+1)
def my (p:Nat->Bool) (n:Nat):Int:=iy p n 0
def hZ (p:Nat->Bool):Nat->Nat->Nat
 | 0,k=>k
 | m+1,k=>bif p k then k else hZ p m (k+1)
theorem K9 (h:p k=true):hZ p (m+1) k=k:=by simp [hZ,h]
theorem Ib {p:Nat->Bool}:∀ {m k:Nat},(bif decide (iy p m k<0) then ((k+m:Nat):Int) else iy p m k)=(hZ p m k:Int)
 | 0,k=>by simp [iy,hZ]
 | m+1,k=>by
   cases hp:p k with
   | true=>
     grind [iy,hZ]
   | false=>
     have:=Ib (p:=p) (m:=m) (k:=k+1)
     grind [iy,hZ]
theorem Dq {p:Nat->Bool}:∀ {m k:Nat},k<=hZ p m k/\hZ p m k<=k+m
 | 0,k=>by simp [hZ]
 | m+1,k=>by
   cases hp:p k with
   | true=>simp [hZ,hp]
   | false=>
     have:=Dq (p:=p) (m:=m) (k:=k+1)
     simp only [hZ,hp,cond_false]
     omega
theorem vZ {p:Nat->Bool}:∀ {m k:Nat},(∀ i,k<=i->i<hZ p m k->p i=false)/\(hZ p m k<k+m->p (hZ p m k)=true)
 | 0,k=>⟨λi h1 h2=>by simp [hZ] at h2; omega,λh=>by simp [hZ] at h⟩
 | m+1,k=>by
   cases hp:p k with
   | true=>
     grind [K9]
   | false=>
     have:=vZ (p:=p) (m:=m) (k:=k+1)
     grind [hZ]
def cO (p:Nat->Bool):Nat->Nat->Bool
 | 0,_=>true
 | m+1,k=>bif p k then cO p m (k+1) else false
def dB (p:Nat->Bool) (n:Nat):Bool:=cO p n 0
theorem xx {p:Nat->Bool}:∀ {m k:Nat},(iy p m k = -1/\∀ i,k<=i->i<k+m->p i=false)∨∃ i:Nat,iy p m k=(i:Int)/\k<=i/\i<k+m/\p i=true/\∀ j,k<=j->j<i->p j=false
 | 0,k=>.inl ⟨rfl,λi h1 h2=>by omega⟩
 | m+1,k=>by
   unfold iy
   cases hp:p k with
   | true=>grind
   | false=>
     simp only [cond_false]
     rcases xx (p:=p) (m:=m) (k:=k+1) with ⟨h1,h2⟩|⟨i,h1,h2,h3,h4,h5⟩
     all_goals grind
theorem o0 (p:Nat->Bool) (n:Nat):(my p n = -1/\∀ i,i<n->p i=false)∨∃ i:Nat,my p n=(i:Int)/\i<n/\p i=true/\∀ j,j<i->p j=false:=by
 rcases xx (p:=p) (m:=n) (k:=0) with ⟨h1,h2⟩|⟨i,h1,h2,h3,h4,h5⟩
 .exact .inl ⟨h1,λi hi=>h2 i (bn _) (by omega)⟩
 .exact .inr ⟨i,h1,by omega,h4,λj hj=>h5 j (bn _) hj⟩
theorem s7 {p:Nat->Bool}:∀ {m k:Nat},cO p m k=true↔∀ i,k<=i->i<k+m->p i=true
 | 0,k=>⟨λ_ i h1 h2=>by omega,λ_=>rfl⟩
 | m+1,k=>by
   unfold cO
   cases hp:p k with
   | false=>
     grind
   | true=>
     simp only [cond_true]
     rw [s7]
     grind
theorem e7:dB p n=true↔∀ i,i<n->p i=true:=by
 grind [dB,s7]
theorem oP (h:p k=true):iy p (m+1) k=(k:Int):=by simp [iy,h]
theorem mD (h:p k=false):iy p (m+1) k=iy p m (k+1):=by simp [iy,h]
theorem fp (h:p k=false):cO p (m+1) k=false:=by simp [cO,h]
theorem gV (h:p k=true):cO p (m+1) k=cO p m (k+1):=by simp [cO,h]
theorem int_ne (m n:Nat):((m:Int)!=(n:Int)) = !(m==n):=by
 grind
theorem cj {C:Prop} (h:decide ((n:Int)<(n:Int))=true):C:=by simp at h
def sC:Bool:=a.toList==b.toList
theorem ML:sC a b=sC b a:=by
 grind [sC]
def eJ (e:α->α->Bool) (x y:Sq α):Bool:=(x.n==y.n)&&dB (λi=>e (x.get i) (y.get i)) x.n
end
open Go Go.V
def MY:gr:={ F:=F1 }
def Qb:Nat->Bool:=λi=>Nat.beq i 2
theorem ae5:Fn 55:={}
abbrev gn:=Tmp×D×eF
section
variable (aj:Sq Int) (L:LP) (QD:D->Prop) (x:Sq Int) (v:Int) (k:Nat)
abbrev pO:C:=.im (.sl 1 aj.1 (λi=>bF (aj.2 i)))
abbrev qB:D:=int (↑aj.1:Int)
theorem aq7 (h:L (ah 55 2) ⟨[(0,((.c (pO x)),[])),(1,((int v),[])),(7,((qB x),[])),(8,((int 0),[]))],[],[]⟩):fG MY 55 Qb L (cy QD) [iR 1 bF x,int v] []:=km h
def P9:VS:=⟨[(0,(.c (pO x)),[]),(1,(int v),[]),(7,(qB x),[]),(8,int k,[])],[],[]⟩
theorem Mx (h:br (decide ((↑k:Int)<(↑x.n:Int))) (nd (dm (↑k:Int) x.1) (br (v==x.2 k) (QD (int (↑k:Int))) (L (ah 55 2) ⟨[(0,((.c (pO x)),[])),(1,((int v),[])),(7,((qB x),[])),(8,((int (IntKind.i64.wrap ((↑k:Int)+1))),[]))],[],[]⟩))) (QD (int (-1)))):cW MY 55 Qb L (cy QD) 2 (P9 x v k):=km h
theorem ao7 (a:Int) (hx:x.n<=maxLen)  : ∀ k,k<=x.n->iy (λi=>v==x.get i) (x.n-k) k=a->ag 55 0 (cw (int a)) (ah 55 2) (P9 x v k):=by
 refine bc (λk hk ih ha=>?_) (λha=>?_)
 .have e:x.n-k=(x.n-(k+1))+1:=by omega
  rw [e] at ha
  refine bt (X:=MY) (stop:=Qb) (Mx _ _ x v k ?_)
  refine aq (λh=>?_) (λh=>(dec_lt h hk).elim)
  refine ay (aP (by omega)) ?_
  refine aq (λh1=>?_) (λh1=>?_)
  .grind [oP,bf.refl]
  .rw [mD (p:=(λi=>v==x.get i)) (by simpa using h1)] at ha
   rw [dy hk hx]
   exact ih ha
 .rw [Nat.sub_self] at ha
  refine bt (X:=MY) (stop:=Qb) (Mx _ _ x v _ ?_)
  refine aq (λh=>?_) (λh=>?_)
  .exact cj h
  .subst ha
   exact bf.refl _
end
theorem YZ (x:Sq Int) (v:Int):LC 55 [iR 1 bF x,int v] [] (int (my (λi=>v==x.get i) x.n)) []:=
 bB.with ae5 (p:=x.n<=maxLen) (λE av w vs h=>by cases h with|cons q _=>exact wM q) λhx=>
  pv (X:=MY) (stop:=Qb) ae5 (aq7 _ _ x v (ao7 x v _ hx 0 (bn _) rfl))
def Ej:gr:={ F:=F1 }
section
variable (aj:Sq ByteArray) (L:LP) (QD:D->Prop) (x:Sq ByteArray) (v:ByteArray) (y:Sq ByteArray) (k:Nat)
def Dk:Nat->Bool:=λi=>Nat.beq i 2
theorem Vb:Fn 75:={}
abbrev nY:D:=.c (.im (.sl 1 aj.1 (λi=>dF (aj.2 i))))
abbrev qG:gn:=(0,((nY aj),[]))
abbrev mR:D:=int (↑aj.1:Int)
theorem ag7 (h:L (ah 75 2) ⟨[(qG x),(1,((.c (.im (.v (.string v)))),[])),(7,((mR x),[])),(8,((int 0),[]))],[],[]⟩):fG Ej 75 Dk L (cy QD) [iR 1 dF x,Zr v] []:=km h
def Ja:VS:=⟨[(0,(nY x),[]),(1,(.c (.im (.v (.string v)))),[]),(7,(mR x),[]),(8,int k,[])],[],[]⟩
theorem Ju (h:br (decide ((↑k:Int)<(↑x.n:Int))) (nd (dm (↑k:Int) x.1) (br (v.toList==(x.2 k).toList) (QD (int (↑k:Int))) (L (ah 75 2) ⟨[(qG x),(1,((.c (.im (.v (.string v)))),[])),(7,((mR x),[])),(8,((int (IntKind.i64.wrap ((↑k:Int)+1))),[]))],[],[]⟩))) (QD (int (-1)))):cW Ej 75 Dk L (cy QD) 2 (Ja x v k):=km h
theorem Z0 (a:Int) (hx:x.n<=maxLen)  : ∀ k,k<=x.n->iy (λi=>v.toList==(x.get i).toList) (x.n-k) k=a->ag 75 0 (cw (int a)) (ah 75 2) (Ja x v k):=by
 refine bc (λk hk ih ha=>?_) (λha=>?_)
 .have e:x.n-k=(x.n-(k+1))+1:=by omega
  rw [e] at ha
  refine bt (X:=Ej) (stop:=Dk) (Ju _ _ x v k ?_)
  refine aq (λh=>?_) (λh=>(dec_lt h hk).elim)
  refine ay (aP (by omega)) ?_
  refine aq (λh1=>?_) (λh1=>?_)
  .grind [oP,bf.refl]
  .rw [mD (p:=(λi=>v.toList==(x.get i).toList)) (by simpa using h1)] at ha
   rw [dy hk hx]
   exact ih ha
 .rw [Nat.sub_self] at ha
  refine bt (X:=Ej) (stop:=Dk) (Ju _ _ x v _ ?_)
  refine aq (λh=>?_) (λh=>?_)
  .exact cj h
  .subst ha
   exact bf.refl _
theorem Wf:LC 75 [iR 1 dF x,Zr v] [] (int (my (λi=>v.toList==(x.get i).toList) x.n)) []:=
 bB.with Vb (p:=x.n<=maxLen) (λE av w vs h=>by cases h with|cons q _=>exact wM q) λhx=>
  pv (X:=Ej) (stop:=Dk) Vb (ag7 _ _ x v (Z0 x v _ hx 0 (bn _) rfl))
def Qw:gr:={ F:=F1 }
def Me:Nat->Bool:=λi=>Nat.beq i 4
theorem af4:Fn 53:={}
theorem ao6 (h:br ((↑x.1:Int)!=(↑y.1:Int)) (QD (bool false)) (L (ah 53 4) ⟨[(qG x),(1,((nY y),[])),(12,((mR x),[])),(13,((int 0),[]))],[],[]⟩)):fG Qw 53 Me L (cy QD) [iR 1 dF x,iR 1 dF y] []:=km h
def Mr:VS:=⟨[(0,(nY x),[]),(1,(nY y),[]),(12,(mR x),[]),(13,int k,[])],[],[]⟩
theorem O1 (h:br (decide ((↑k:Int)<(↑x.n:Int))) (nd (dm (↑k:Int) x.1) (nd (dm (↑k:Int) y.1) (br (!(x.2 k).toList==(y.2 k).toList) (QD (bool false)) (L (ah 53 4) ⟨[(qG x),(1,((nY y),[])),(12,((mR x),[])),(13,((int (IntKind.i64.wrap ((↑k:Int)+1))),[]))],[],[]⟩)))) (QD (bool true))):cW Qw 53 Me L (cy QD) 4 (Mr x y k):=km h
end
theorem ay7 (x y:Sq ByteArray) (a:Bool) (hx:x.n<=maxLen) (hxy:x.n=y.n):∀ k,k<=x.n->cO (λi=>sC (x.get i) (y.get i)) (x.n-k) k=a->ag 53 0 (cw (bool a)) (ah 53 4) (Mr x y k):=by
 refine bc (λk hk ih ha=>?_) (λha=>?_)
 .have e:x.n-k=(x.n-(k+1))+1:=by omega
  rw [e] at ha
  refine bt (X:=Qw) (stop:=Me) (O1 _ _ x y k ?_)
  refine aq (λh=>?_) (λh=>(dec_lt h hk).elim)
  refine ay (aP (by omega)) ?_
  refine ay (aP (by omega)) ?_
  refine aq (λh1=>?_) (λh1=>?_)
  .grind [fp,sC,bf.refl]
  .rw [gV (p:=(λi=>sC (x.get i) (y.get i))) (by simpa [sC] using h1)] at ha
   rw [dy hk hx]
   exact ih ha
 .rw [Nat.sub_self] at ha
  refine bt (X:=Qw) (stop:=Me) (O1 _ _ x y _ ?_)
  refine aq (λh=>?_) (λh=>?_)
  .exact cj h
  .subst ha
   exact bf.refl _
theorem Uv (x y:Sq ByteArray):LC 53 [iR 1 dF x,iR 1 dF y] [] (bool (eJ sC x y)) []:=
 bB.with af4 (p:=x.n<=maxLen) (λE av w vs h=>by cases h with|cons q _=>exact wM q) λhx=>
  pv (X:=Qw) (stop:=Me) af4 (ao6 _ _ x y (by
   refine aq (λh=>?_) (λh=>?_)
   .grind [eJ,bf.refl]
   .rw [int_ne] at h
    simp only [Bool.not_eq_false'] at h
    have e:eJ sC x y=dB (λi=>sC (x.get i) (y.get i)) x.n:=by simp only [eJ,h,Bool.true_and]
    rw [e]
    exact ay7 x y _ hx (eq_of_beq h) 0 (bn _) rfl))
end
end Go.Proofs.Ytapefhcmohbmaaa
namespace Go.Proofs
open Go.Shelf
open Go.RowKit Go.Lib in
open Go.RowKit Go.Lib in
def Try.Aw:Go.Shelf.Ren:=⟨λ|17=>77|15=>81|20=>84|n=>n,λ|9=>9|23=>127|4=>4|3=>3|0=>0|21=>21|n=>n,λ|n=>n⟩
theorem Try.MB:Go.Proofs.LaysGw.n17 Try.prog Try.Aw:={
 mixed:=by kernel_rfl
 f15:=Try.func81.trans (congrArg some (by kernel_rfl))
 f17:=Try.func77.trans (congrArg some (by kernel_rfl))
 f20:=Try.func84.trans (congrArg some (by kernel_rfl))
 t0:=Try.underlying0
 a0:=Try.isAgg0
 z0:=Try.sizeOf0
 v0:=Try.zeroValue0
 i0:=by kernel_rfl
 t3:=Try.underlying3
 a3:=Try.isAgg3
 z3:=Try.sizeOf3
 v3:=Try.zeroValue3
 i3:=by kernel_rfl
 t4:=Try.underlying4
 a4:=Try.isAgg4
 z4:=Try.sizeOf4
 v4:=Try.zeroValue4
 i4:=by kernel_rfl
 t9:=Try.underlying9
 a9:=Try.isAgg9
 z9:=Try.sizeOf9
 v9:=Try.zeroValue9
 i9:=by kernel_rfl
 t21:=Try.underlying21
 a21:=Try.isAgg21
 z21:=Try.sizeOf21
 v21:=Try.zeroValue21
 i21:=by kernel_rfl
 t23:=Try.underlying127
 a23:=Try.isAgg127
 z23:=Try.sizeOf127
 v23:=Try.zeroValue127
 i23:=by kernel_rfl }
open Go.RowKit Go.Lib in
theorem Try.strings_ContainsFunc (g:Nat) (lb:Array Value) (eg:∀ args w,(callFunc g args).run Try.prog w=.ok (.enter g args) w) (p:Nat->Bool) (s:ByteArray) (w:World) (hp:PredAt Try.prog g lb encR p w) :
  Calls Try.prog 77 #[.string s,.func (.func g) #[] lb] w λe w'=>e=.returned (.bool (decide (0<=Lib.idxFunc p true s)))/\Below w.heap.size w w':=Any.strings_ContainsFunc Try.MB g lb eg p s w hp
end Go.Proofs
namespace Go.Proofs.Ytapefhcmohbmaaa
open Go Go.RowKit
noncomputable section
def mQ (r:Nat):Bool:=decide ((r:Int)<32)||decide ((r:Int)>126)
theorem Yq (w:World):PredAt Try.prog 78 #[] encR mQ w:=λW r _=>by
 unfold FnGives
 unfold mQ
 by_cases h1:(r:Int)<32<;>by_cases h2:(r:Int)>126
 all_goals
  go_enter Try.func78,Try.ntmps78
  go_wp2
  all_goals first|(exfalso; omega)|(go_ret; exact ⟨by simp [h1,h2],0,rfl⟩)
def Jd (s:ByteArray) (k:Nat):Prop:=∀ i (h:i<s.size),i<k->32<=s[i].toNat/\s[i].toNat<=126
theorem zu {s:ByteArray} (h:Jd s s.size):∀ f pos,Lib.idxFuncFrom mQ true s f pos = -1
 | 0,pos=>rfl
 | f+1,pos=>by
   unfold Lib.idxFuncFrom
   split
   .rename_i hp
    obtain ⟨h1,h2⟩:=h pos hp hp
    rw [decode_ascii s pos hp (by omega)]
    have:mQ s[pos].toNat=false:=by simp [mQ]; omega
    rw [if_neg (by simp [this])]
    exact zu h f _
   .rfl
section
variable (kind n:Int) (s:ByteArray)
def ZW:Bool:=decide (0<=Lib.idxFunc mQ true s)
theorem Kj {s:ByteArray} (h:Jd s s.size):ZW s=false:=by
 unfold ZW Lib.idxFunc
 rw [zu h]; rfl
theorem fe {a b:Bool} (h:a=b):Ending.returned (.bool a)=.returned (.bool b):=by rw [h]
def Dj:Bool:=if kind=0∨kind=1 then decide (n=0) else if kind=2 then decide (0<=n/\n<=1) else if kind=3 then decide (-1000000000000000<=n/\n<=1000000000000000)
 else if kind=5 then decide (0<=n/\n<=1000000000) else if kind=6 then decide (0<=n/\n<=23) else false
def eY:Bool:=if kind=4 then (decide (n=0)&&(decide (s.size<=200) && !ZW s)) else (decide (s.toList=[])&&Dj kind n)
set_option maxHeartbeats 4000000 in
theorem NA (w:World):Calls Try.prog 66 #[.agg #[.int .i64 kind,.int .i64 n,.string s]] w λe w'=>e=.returned (.bool (eY kind n s))/\Below w.heap.size w w':=by
 have hC:∀ W,Calls Try.prog 77 #[.string s,.func (.func 78) #[] #[]] W λe w'=>e=.returned (.bool (ZW s))/\Below W.heap.size W w':=λW=>Try.strings_ContainsFunc 78 #[] (enters_of Try.func78 (by kernel_rfl) rfl) mQ s W (Yq W)
 by_cases k4:kind=4
 .subst k4
  obtain ⟨o,ho⟩:∃ o,ZW s=o:=⟨_,rfl⟩
  have hv:eY 4 n s=(decide (n=0)&&(decide (s.size<=200) && !o)):=by simp [eY,ho]
  rw [hv]
  simp only [ho] at hC
  clear hv
  by_cases hn:n=0
  .subst hn
   by_cases h2:(s.size:Int)<=200
   .have hd:decide (s.size<=200)=true:=by simp; omega
    rw [hd]
    clear hd ho
    cases o
    all_goals
     go_enter Try.func66,Try.ntmps66
     go_wp2_with (go_at_call 77; refine (hC _).mono ?_; rintro e w' ⟨rfl,hb⟩; have hb1:w'.cell? ⟨w.heap.size,1,none⟩=some (.int .i64 0):=(hb.cell (p:=⟨w.heap.size,1,none⟩) (by simp)).trans (by simp); have hb2:w'.cell? ⟨w.heap.size,2,none⟩=some (.string s):=(hb.cell (p:=⟨w.heap.size,2,none⟩) (by simp)).trans (by simp))
     go_ret
     exact ⟨rfl,((Below.refl _ w).alloc (bl _) _).trans (hb.mono (by simp))⟩
   .have hd:decide (s.size<=200)=false:=by simp; omega
    rw [hd]
    clear hd ho
    go_enter Try.func66,Try.ntmps66
    go_wp2_with (go_at_call 77; refine (hC _).mono ?_; rintro e w' ⟨rfl,hb⟩; have hb1:w'.cell? ⟨w.heap.size,1,none⟩=some (.int .i64 0):=(hb.cell (p:=⟨w.heap.size,1,none⟩) (by simp)).trans (by simp); have hb2:w'.cell? ⟨w.heap.size,2,none⟩=some (.string s):=(hb.cell (p:=⟨w.heap.size,2,none⟩) (by simp)).trans (by simp))
    go_ret
    exact ⟨rfl,((Below.refl _ w).alloc (bl _) _).trans (hb.mono (by simp))⟩
  .have hd:decide (n=0)=false:=by simpa using hn
   rw [hd]
   clear hd ho
   go_enter Try.func66,Try.ntmps66
   go_wp2_with (go_at_call 77; refine (hC _).mono ?_; rintro e w' ⟨rfl,hb⟩; have hb1:w'.cell? ⟨w.heap.size,1,none⟩=some (.int .i64 n):=(hb.cell (p:=⟨w.heap.size,1,none⟩) (by simp)).trans (by simp); have hb2:w'.cell? ⟨w.heap.size,2,none⟩=some (.string s):=(hb.cell (p:=⟨w.heap.size,2,none⟩) (by simp)).trans (by simp))
   go_ret
   exact ⟨rfl,((Below.refl _ w).alloc (bl _) _).trans (hb.mono (by simp))⟩
 clear hC
 by_cases k0:kind=0
 .subst k0
  by_cases hs:s.toList=[]<;>by_cases h1:0<=n<;>by_cases h2:n<=0
  all_goals first
  | (exfalso; omega)
  | (go_enter Try.func66,Try.ntmps66
     go_wp2
     go_ret
     exact ⟨by first|(refine fe ?_; simp [eY,Dj,hs]; done)|(refine fe ?_; simp [eY,Dj,hs]; omega),(Below.refl _ w).alloc (bl _) _⟩)
 by_cases k1:kind=1
 .subst k1
  by_cases hs:s.toList=[]<;>by_cases h1:0<=n<;>by_cases h2:n<=0
  all_goals first
  | (exfalso; omega)
  | (go_enter Try.func66,Try.ntmps66
     go_wp2
     go_ret
     exact ⟨by first|(refine fe ?_; simp [eY,Dj,hs]; done)|(refine fe ?_; simp [eY,Dj,hs]; omega),(Below.refl _ w).alloc (bl _) _⟩)
 by_cases k2:kind=2
 .subst k2
  by_cases hs:s.toList=[]<;>by_cases h1:0<=n<;>by_cases h2:n<=1
  all_goals first
  | (exfalso; omega)
  | (go_enter Try.func66,Try.ntmps66
     go_wp2
     go_ret
     exact ⟨by first|(refine fe ?_; simp [eY,Dj,hs]; done)|(refine fe ?_; simp [eY,Dj,hs]; omega),(Below.refl _ w).alloc (bl _) _⟩)
 by_cases k3:kind=3
 .subst k3
  by_cases hs:s.toList=[]<;>by_cases h1 : -1000000000000000<=n<;>by_cases h2:n<=1000000000000000
  all_goals first
  | (exfalso; omega)
  | (go_enter Try.func66,Try.ntmps66
     go_wp2
     go_ret
     exact ⟨by first|(refine fe ?_; simp [eY,Dj,hs]; done)|(refine fe ?_; simp [eY,Dj,hs]; omega),(Below.refl _ w).alloc (bl _) _⟩)
 by_cases k5:kind=5
 .subst k5
  by_cases hs:s.toList=[]<;>by_cases h1:0<=n<;>by_cases h2:n<=1000000000
  all_goals first
  | (exfalso; omega)
  | (go_enter Try.func66,Try.ntmps66
     go_wp2
     go_ret
     exact ⟨by first|(refine fe ?_; simp [eY,Dj,hs]; done)|(refine fe ?_; simp [eY,Dj,hs]; omega),(Below.refl _ w).alloc (bl _) _⟩)
 by_cases k6:kind=6
 .subst k6
  by_cases hs:s.toList=[]<;>by_cases h1:0<=n<;>by_cases h2:n<=23
  all_goals first
  | (exfalso; omega)
  | (go_enter Try.func66,Try.ntmps66
     go_wp2
     go_ret
     exact ⟨by first|(refine fe ?_; simp [eY,Dj,hs]; done)|(refine fe ?_; simp [eY,Dj,hs]; omega),(Below.refl _ w).alloc (bl _) _⟩)
 go_enter Try.func66,Try.ntmps66
 go_wp2
 go_ret
 exact ⟨by refine fe ?_; simp [eY,Dj,k0,k1,k2,k3,k4,k5,k6],(Below.refl _ w).alloc (bl _) _⟩
end
open Go Go.V
theorem Tz {E:Env} {av:Nat->Prop} {w:World} {v:iG} {x:Value} (h:aQ E av w (RI v) x):x=.agg #[.int .i64 v.kind,.int .i64 v.n,.string v.s]:=by
 obtain ⟨⟨l⟩,rfl,h⟩:=h
 cases h with
 | cons h1 h=>cases h with
   | cons h2 h=>cases h with
     | cons h3 h=>cases h with
       | nil=>rw [h1.1,h2.1,h3.1]
theorem Zo:Fn 66:={}
def mz (v:iG):Bool:=eY v.kind v.n v.s
theorem WQ (v:iG):LC 66 [RI v] [] (bool (mz v)) []:=
 ⟨Zo.enters,λN ax w0 sp sl df a w E vs hR hv=>by
  cases hv with
  | cons q k=>
    cases k
    rw [Tz q]
    refine (NA v.kind v.n v.s w).mono ?_
    rintro en w' ⟨rfl,hb⟩
    exact ⟨_,E,rfl,Kept.refl E,hR.grown hb,rfl,rfl⟩⟩
def F2L:List (Nat×(List D->List ae->Out)):=[
 (55,λds rs=>(int (my (λi=>aI ds 1==(WZ ds 0).get i) (WZ ds 0).n),[],[])),
 (75,λds rs=>(int (my (λi=>(aS ds 1).toList==((NC ds 0).get i).toList) (NC ds 0).n),[],[])),
 (53,λds rs=>(bool (eJ sC (NC ds 0) (NC ds 1)),[],[])),
 (66,λds rs=>(bool (mz (Zg ds 0)),[],[]))]
def F2:FuncId->List D->List ae->Out:=λf ds rs=>match findF f F2L with
 | some g=>g ds rs
 | none=>F1 f ds rs
abbrev wA:=List (Nat×(List D->List ae->Out))
def ext (F:FuncId->List D->List ae->Out) (l:wA):FuncId->List D->List ae->Out:=λf ds rs=>match findF f l with
 | some g=>g ds rs
 | none=>F f ds rs
section
variable (v:Int) {n:Nat} {x:Sq Int} (l:List Int) {get:Nat->Nat->I}
def mb (x:Sq Int):Bool:=decide (my (λi=>v==x.get i) x.n≥0)
def eV (v:Int):List Int->Bool
 | []=>false
 | y::l=>(v==y)||eV v l
theorem EO {v:Int}:∀ {l:List Int},eV v l=true↔v∈l
 | []=>by simp [eV]
 | y::l=>by simp [eV,EO]
theorem OM {v:Int}:mb v x=true↔∃ i,i<x.n/\v=x.get i:=by
 grind [mb,o0]
theorem Md {v:Int} (hn:x.n=l.length) (h:∀ i,i<l.length->x.get i=l.getD i 0):mb v x=eV v l:=by
 grind [OM,EO,List.getElem_of_mem]
theorem U1 {sz:Nat} {get':Nat->Nat->I} (h:∀ i,i<n->∀ j,j<sz->dK (get i j) (get' i j)):bf (.c (.im (.sl sz n get))) (.c (.im (.sl sz n get'))):=by
 rintro E av w v ⟨a,cap,rfl,h1,h2,h3⟩
 refine ⟨a,cap,rfl,h1,h2,λh0=>?_⟩
 obtain ⟨ad,h4,h5,h6,h7,h8⟩:=h3 h0
 refine ⟨ad,h4,h5,h6,h7,λi hi j hj=>?_⟩
 obtain ⟨x,h9,KW⟩:=h8 i hi j hj
 exact ⟨x,h9,h i hi j hj _ _ _ KW⟩
theorem VV (h:∀ i,i<n->∃ m,get i 0=iI m):bf (.c (.im (.sl 1 n get))) (iR 1 bF ⟨n,λi=>rI (get i)⟩):=
 U1 λi hi j hj=>by
  obtain ⟨m,e⟩:=h i hi
  have hj0:j=0:=by omega
  subst hj0
  show dK (get i 0) (iI (bX (get i 0)))
  rw [e]
  exact dK.refl _
theorem rj {q:Nat}:∀ {l:List Int},q<l.length->iA (l.map iI) q=iI (l.getD q 0)
 | [],h=>by simp at h
 | y::l,h=>by
   cases q with
   | zero=>rfl
   | succ q=>exact rj (q:=q) (l:=l) (by simpa using h)
theorem Gk:bf (.c (.im (.sl 1 l.length (flat 1 (l.map iI))))) (iR 1 bF ⟨l.length,λi=>rI (flat 1 (l.map iI) i)⟩):=
 VV λi hi=>⟨_,by show iA (l.map iI) (i*1+0)=_; rw [Nat.mul_one]; exact rj hi⟩
theorem Av:mb v ⟨l.length,λi=>rI (flat 1 (l.map iI) i)⟩=eV v l:=
 Md l rfl λi hi=>by
  show bX (iA (l.map iI) (i*1+0))=_
  rw [Nat.mul_one,Nat.add_zero,rj hi]; rfl
end
theorem WM {f:FuncId} {a a':D} {l:List D} {rs aG:List ae} {d:D} (h:bf a a') (k:LC f (a'::l) rs d aG):LC f (a::l) rs d aG:=
 bB.pre k (.cons h (allRefl l))
where allRefl:∀ l:List D,az bf l l
 | []=>.nil
 | _::l=>.cons (bf.refl _) (allRefl l)
open Go Go.V
def aV (x:ak):Sq Int:=bif x.op==20 then x.args else ⟨(fV x.op).toNat,λi=>[x.a,x.b,x.c].getD i 0⟩
def KL (x:Sq ak):Int:=my (λi=>JA (x.get i)) x.n
theorem O3 (x:ak):JA x=(x.op != 1):=rfl
def mM (x:Sq ak):Nat:=hZ (λi=>JA (x.get i)) x.n 0
section
variable (L:LP) (aj:Int) (x:Sq ByteArray) (v:iG) (op:Int) (QD:D->Prop) (t:af) (k:Nat)
def En:Bool:=eV op [5,6,7,8,9,15,18,21]||(op==3||op==4)
def fA:Bool:=mz v&&(v.kind != 0 && v.kind != 5)
def Gu:ByteArray:=ByteArray.mk #[]
def yY:Bool := !sC (x.get k) Gu&&(my (λi=>sC (x.get i) (x.get k)) x.n==(k:Int))
def ub:Bool:=dB (yY x) x.n&&decide ((x.n:Int)<=64)
def fP:Int×Int:=
 bif op==3 then (3,4) else bif op==4 then (5,14) else bif op==5 then (0,1) else bif op==6 then (1,6) else bif op==10 then (0,63) else bif op==11 then (0,63) else bif op==15 then (0,600) else bif op==18 then (1,200)
 else bif op==7 then (0,9223372036854775807) else bif op==16 then (0,9223372036854775807) else bif op==17 then (0,9223372036854775807) else (0,0)
def UD (x:Int×Int):D:=.t [(false,[.im (iI x.1)]),(false,[.im (iI x.2)])]
def F3L:wA:=[
 (32,λds rs=>(bool (mb (aI ds 1) (WZ ds 0)),[],[])),
 (57,λds rs=>(bool (eV (aI ds 0) [1,2,3,4,10,12,14,16,17]),[],[])),
 (49,λds rs=>(bool (eV (aI ds 0) [5,6,7,8,9,15,18,21]),[],[])),
 (47,λds rs=>(bool (eV (aI ds 0) [2,3,4,5,6,7,8,9,10,12,14]),[],[])),
 (44,λds rs=>(int (KL (Lz jA (gD (aD ds 0) 0))),[],[])),
 (48,λds rs=>(bool (En (aI ds 0)),[],[])),
 (26,λds rs=>(int (mM (ff ds 0).ins),[],[])),
 (56,λds rs=>(bool (fA (Zg ds 0)),[],[])),
 (62,λds rs=>(UD (fP (aI ds 0)),[],[])),
 (64,λds rs=>(bool (ub (NC ds 0)),[],[])),
 (50,λds rs=>(iR 1 bF (aV (JT ds 0)),[],[]))]
def F3:=ext F2 F3L
def UQ (j:Int):gr:={ F:=ext F2 [(63,λds rs=>(int j,[],[]))] }
def Zl:gr:={ F:=F3 }
def af9:Nat->Bool:=cD
theorem ax2:Fn 32:={}
theorem au2 (x:Sq Int) (v:Int) (h:(LC 55 [(.c (pO x)),(int v)] [] (int (my (λi=>v==x.2 i) x.1)) []/\QD (bool (decide (my (λi=>v==x.2 i) x.1≥0))))):fG Zl 32 af9 L (cy QD) [iR 1 bF x,int v] []:=km h
theorem CZ (x:Sq Int) (v:Int):LC 32 [iR 1 bF x,int v] [] (bool (mb v x)) []:=
 pv (X:=Zl) (stop:=af9) ax2 (au2 _ _ x v ⟨YZ _ _,bf.refl _⟩)
def Ux:gr:={ F:=F3 }
def UT:Nat->Bool:=cD
theorem af6:Fn 57:={}
abbrev UR:D:=bool (mb aj { n:=9,get:=λi=>rI (flat 1 [I.v (Value.int IntKind.i64 1),I.v (Value.int IntKind.i64 2),I.v (Value.int IntKind.i64 3),I.v (Value.int IntKind.i64 4),I.v (Value.int IntKind.i64 10),I.v (Value.int IntKind.i64 12),I.v (Value.int IntKind.i64 14),I.v (Value.int IntKind.i64 16),I.v (Value.int IntKind.i64 17)] i) })
theorem ai8 (op:Int) (h:(LC 32 [(.c (.im (.sl 1 9 (flat 1 [I.v (Value.int IntKind.i64 1),I.v (Value.int IntKind.i64 2),I.v (Value.int IntKind.i64 3),I.v (Value.int IntKind.i64 4),I.v (Value.int IntKind.i64 10),I.v (Value.int IntKind.i64 12),I.v (Value.int IntKind.i64 14),I.v (Value.int IntKind.i64 16),I.v (Value.int IntKind.i64 17)])))),(int op)] [] (UR op) []/\QD (UR op))):fG Ux 57 UT L (cy QD) [int op] []:=km h
theorem sT:LC 57 [int op] [] (bool (eV op [1,2,3,4,10,12,14,16,17])) []:=by
 refine pv (X:=Ux) (stop:=UT) af6 (ai8 _ _ op ⟨WM (Gk [1,2,3,4,10,12,14,16,17]) (CZ _ _),?_⟩)
 have e:=Av op [1,2,3,4,10,12,14,16,17]
 rw [<- e]
 exact bf.refl _
def ag5:gr:={ F:=F3 }
def aj1:Nat->Bool:=cD
theorem ar2:Fn 49:={}
abbrev Ub:D:=bool (mb aj { n:=8,get:=λi=>rI (flat 1 [I.v (Value.int IntKind.i64 5),I.v (Value.int IntKind.i64 6),I.v (Value.int IntKind.i64 7),I.v (Value.int IntKind.i64 8),I.v (Value.int IntKind.i64 9),I.v (Value.int IntKind.i64 15),I.v (Value.int IntKind.i64 18),I.v (Value.int IntKind.i64 21)] i) })
theorem ap0 (op:Int) (h:(LC 32 [(.c (.im (.sl 1 8 (flat 1 [I.v (Value.int IntKind.i64 5),I.v (Value.int IntKind.i64 6),I.v (Value.int IntKind.i64 7),I.v (Value.int IntKind.i64 8),I.v (Value.int IntKind.i64 9),I.v (Value.int IntKind.i64 15),I.v (Value.int IntKind.i64 18),I.v (Value.int IntKind.i64 21)])))),(int op)] [] (Ub op) []/\QD (Ub op))):fG ag5 49 aj1 L (cy QD) [int op] []:=km h
theorem Uz:LC 49 [int op] [] (bool (eV op [5,6,7,8,9,15,18,21])) []:=by
 refine pv (X:=ag5) (stop:=aj1) ar2 (ap0 _ _ op ⟨WM (Gk [5,6,7,8,9,15,18,21]) (CZ _ _),?_⟩)
 have e:=Av op [5,6,7,8,9,15,18,21]
 rw [<- e]
 exact bf.refl _
def aj3:gr:={ F:=F3 }
def Za:Nat->Bool:=cD
theorem ao3:Fn 47:={}
abbrev UL:D:=bool (mb aj { n:=11,get:=λi=>rI (flat 1 [I.v (Value.int IntKind.i64 2),I.v (Value.int IntKind.i64 3),I.v (Value.int IntKind.i64 4),I.v (Value.int IntKind.i64 5),I.v (Value.int IntKind.i64 6),I.v (Value.int IntKind.i64 7),I.v (Value.int IntKind.i64 8),I.v (Value.int IntKind.i64 9),I.v (Value.int IntKind.i64 10),I.v (Value.int IntKind.i64 12),I.v (Value.int IntKind.i64 14)] i) })
theorem aq5 (op:Int) (h:(LC 32 [(.c (.im (.sl 1 11 (flat 1 [I.v (Value.int IntKind.i64 2),I.v (Value.int IntKind.i64 3),I.v (Value.int IntKind.i64 4),I.v (Value.int IntKind.i64 5),I.v (Value.int IntKind.i64 6),I.v (Value.int IntKind.i64 7),I.v (Value.int IntKind.i64 8),I.v (Value.int IntKind.i64 9),I.v (Value.int IntKind.i64 10),I.v (Value.int IntKind.i64 12),I.v (Value.int IntKind.i64 14)])))),(int op)] [] (UL op) []/\QD (UL op))):fG aj3 47 Za L (cy QD) [int op] []:=km h
theorem Ui:LC 47 [int op] [] (bool (eV op [2,3,4,5,6,7,8,9,10,12,14])) []:=by
 refine pv (X:=aj3) (stop:=Za) ao3 (aq5 _ _ op ⟨WM (Gk [2,3,4,5,6,7,8,9,10,12,14]) (CZ _ _),?_⟩)
 have e:=Av op [2,3,4,5,6,7,8,9,10,12,14]
 rw [<- e]
 exact bf.refl _
def Z9:gr:={ F:=F3 }
def Zh:Nat->Bool:=cD
theorem ar7:Fn 48:={}
theorem ar0 (op:Int) (h:(LC 49 [(int op)] [] (bool (eV op [5,6,7,8,9,15,18,21])) []/\br (eV op [5,6,7,8,9,15,18,21]) (QD (bool true)) (br (op==3) (QD (bool true)) (QD (bool (op==4)))))):fG Z9 48 Zh L (cy QD) [int op] []:=km h
theorem ae9:LC 48 [int op] [] (bool (En op)) []:=by
 refine pv (X:=Z9) (stop:=Zh) ar7 (ar0 _ _ op ⟨Uz _,?_⟩)
 grind [aq,En,bf.refl]
def QH:gr:={ F:=F3 }
def M1:Nat->Bool:=λi=>Nat.beq i 2
theorem Y0:Fn 44:={}
abbrev Ap (aj:Sq ak):D:=.c (.im (.sl 14 aj.1 (λi=>bQ (aj.2 i))))
abbrev ei (aj:Sq ak):D:=int (↑aj.1:Int)
theorem az3 (x:Sq ak) (h:L (ah 44 2) ⟨[(0,((Ap x),[])),(1,((.c (.im (.fn 45 0 (λx=>I.v (Value.bool false))))),[])),(7,((ei x),[])),(8,((int 0),[]))],[],[]⟩):fG QH 44 M1 L (cy QD) [iR 14 bQ x,.c (.im (.fn 45 0 λ_=>.v (.bool false)))] []:=km h
def Ok (x:Sq ak) (k:Nat):VS:=⟨[(0,(Ap x),[]),(1,(.c (.im (.fn 45 0 (λx=>I.v (Value.bool false))))),[]),(7,(ei x),[]),(8,int k,[])],[],[]⟩
theorem Qr (x:Sq ak) (k:Nat) (h:br (decide ((↑k:Int)<(↑x.1:Int))) (nd (dm (↑k:Int) x.1) ((LC 45 [(.a (lift (b8 (x.2 k))))] [] (bool (JA (x.2 k))) []/\br (JA (x.2 k)) (QD (int (↑k:Int))) (L (ah 44 2) ⟨[(0,((Ap x),[])),(1,((.c (.im (.fn 45 0 (λx=>I.v (Value.bool false))))),[])),(7,((ei x),[])),(8,((int (IntKind.i64.wrap ((↑k:Int)+1))),[]))],[],[]⟩)))) (QD (int (-1)))):cW QH 44 M1 L (cy QD) 2 (Ok x k):=km h
theorem as8 (x:Sq ak) (a:Int) (hx:x.n<=maxLen):∀ k,k<=x.n->iy (λi=>JA (x.get i)) (x.n-k) k=a->ag 44 0 (cw (int a)) (ah 44 2) (Ok x k):=by
 refine bc (λk hk ih ha=>?_) (λha=>?_)
 .have e:x.n-k=(x.n-(k+1))+1:=by omega
  rw [e] at ha
  refine bt (X:=QH) (stop:=M1) (Qr _ _ x k ?_)
  refine aq (λh=>?_) (λh=>(dec_lt h hk).elim)
  refine ay (aP hk) ⟨Zk _,?_⟩
  refine aq (λh1=>?_) (λh1=>?_)
  .grind [oP,bf.refl]
  .rw [mD (p:=λi=>JA (x.get i)) h1] at ha
   rw [dy hk hx]
   exact ih ha
 .rw [Nat.sub_self] at ha
  refine bt (X:=QH) (stop:=M1) (Qr _ _ x _ ?_)
  refine aq (λh=>cj h) (λh=>?_)
  subst ha; exact bf.refl _
theorem YX (x:Sq ak):LC 44 [iR 14 bQ x,.c (.im (.fn 45 0 λ_=>.v (.bool false)))] [] (int (KL x)) []:=
 bB.with Y0 (p:=x.n<=maxLen) (λE av w vs h=>by cases h with|cons q _=>exact wM q) λhx=>
  pv (X:=QH) (stop:=M1) Y0 (az3 _ _ x (as8 x _ hx 0 (bn _) rfl))
def Zf:gr:={ F:=F3 }
def aa3:Nat->Bool:=cD
theorem an2:Fn 26:={}
abbrev gX (aj:af):D:=int (↑aj.2.1:Int)
theorem am5 (h:(LC 44 [(.c (.im (.sl 14 t.2.1 (λi=>bQ (t.ins.2 i))))),(.c (.im (.fn 45 0 (λx=>I.v (Value.bool false)))))] [] (int (KL t.2)) []/\br (decide (KL t.2<0)) (QD (gX t)) (QD (int (KL t.2))))):fG Zf 26 aa3 L (cy QD) [bH t] []:=km h
theorem Zi:LC 26 [bH t] [] (int (mM t.ins)) []:=by
 have key:=Ib (p:=λi=>JA (t.ins.get i)) (m:=t.ins.n) (k:=0)
 rw [Nat.zero_add] at key
 refine pv (X:=Zf) (stop:=aa3) an2 (am5 _ _ t ⟨YX _,?_⟩)
 refine aq (λh=>?_) (λh=>?_)
 .have e:(mM t.ins:Int)=(t.ins.n:Int):=by unfold mM; rw [<- key]; exact (congrArg (λb=>bif b then _ else _) h)
  rw [e]; exact bf.refl _
 .have e:(mM t.ins:Int)=KL t.ins:=by unfold mM; rw [<- key]; exact (congrArg (λb=>bif b then _ else _) h)
  rw [e]; exact bf.refl _
def Vj:gr:={ F:=F3 }
def Ul:Nat->Bool:=cD
theorem ag0:Fn 56:={}
theorem aj2 (v:iG) (h:(LC 66 [(.a (lift (RB (v))))] [] (bool (mz v)) []/\br (mz v) (br (v.1 != 0) (QD (bool (v.1 != 5))) (QD (bool false))) (QD (bool false)))):fG Vj 56 Ul L (cy QD) [RI v] []:=km h
theorem sX:LC 56 [RI v] [] (bool (fA v)) []:=by
 refine pv (X:=Vj) (stop:=Ul) ag0 (aj2 _ _ v ⟨WQ _,?_⟩)
 grind [aq,fA,bf.refl]
def UY:gr:={ F:=F3 }
def U8:Nat->Bool:=cD
theorem aa8:Fn 62:={}
abbrev GU:D:=.t [(.false,[(ci 0)]),(.false,[(ci 9223372036854775807)])]
theorem ai4 (op:Int) (h:br (op==3) (QD (.t [(.false,[(ci 3)]),(.false,[(ci 4)])])) (br (op==4) (QD (.t [(.false,[(ci 5)]),(.false,[(ci 14)])])) (br (op==5) (QD (.t [(.false,[(ci 0)]),(.false,[(ci 1)])])) (br (op==6) (QD (.t [(.false,[(ci 1)]),(.false,[(ci 6)])])) (br (op==10) (QD (.t [(.false,[(ci 0)]),(.false,[(ci 63)])])) (br (op==11) (QD (.t [(.false,[(ci 0)]),(.false,[(ci 63)])])) (br (op==15) (QD (.t [(.false,[(ci 0)]),(.false,[(ci 600)])])) (br (op==18) (QD (.t [(.false,[(ci 1)]),(.false,[(ci 200)])])) (br (op==7) (QD GU) (br (op==16) (QD GU) (br (op==17) (QD GU) (QD (.t [(.false,[(ci 0)]),(.false,[(ci 0)])]))))))))))))):fG UY 62 U8 L (cy QD) [int op] []:=km h
theorem Yj:LC 62 [int op] [] (UD (fP op)) []:=by
 refine pv (X:=UY) (stop:=U8) aa8 (ai4 _ _ op ?_)
 repeat' (refine aq (λh=>?_) (λh=>?_))
 all_goals (simp only [fP, *,cond_true,cond_false]; exact bf.refl _)
def EB:gr:={ F:=F3 }
def EI:Nat->Bool:=λi=>Nat.beq i 2
theorem Vh:Fn 64:={}
theorem ag3 (x:Sq ByteArray) (h:L (ah 64 2) ⟨[(qG x),(5,((nY x),[])),(6,((mR x),[])),(7,((int 0),[]))],[],[]⟩):fG EB 64 EI L (cy QD) [iR 1 dF x] []:=km h
def IL:VS:=⟨[(0,(nY x),[]),(5,(nY x),[]),(6,(mR x),[]),(7,int k,[])],[],[]⟩
theorem Jg (x:Sq ByteArray) (k:Nat) (h:br (decide ((↑k:Int)<(↑x.1:Int))) (nd (dm (↑k:Int) x.1) (br ((x.2 k).toList==(ByteArray.mk #[]).toList) (QD (bool false)) ((LC 75 [(nY x),(.c (.im (.v (.string (x.2 k)))))] [] (int (my (λi=>(x.2 k).toList==(x.2 i).toList) x.1)) []/\br (my (λi=>(x.2 k).toList==(x.2 i).toList) x.1 != (↑k:Int)) (QD (bool false)) (L (ah 64 2) ⟨[(qG x),(5,((nY x),[])),(6,((mR x),[])),(7,((int (IntKind.i64.wrap ((↑k:Int)+1))),[]))],[],[]⟩))))) (QD (bool (decide ((↑x.1:Int)<=64))))):cW EB 64 EI L (cy QD) 2 (IL x k):=km h
theorem YR (a:Bool) (hx:x.n<=maxLen):∀ k,k<=x.n->(cO (yY x) (x.n-k) k&&decide ((x.n:Int)<=64))=a->ag 64 0 (cw (bool a)) (ah 64 2) (IL x k):=by
 refine bc (λk hk ih ha=>?_) (λha=>?_)
 .have e:x.n-k=(x.n-(k+1))+1:=by omega
  rw [e] at ha
  refine bt (X:=EB) (stop:=EI) (Jg _ _ x k ?_)
  refine aq (λh=>?_) (λh=>(dec_lt h hk).elim)
  refine ay (aP hk) (aq (λh1=>?_) (λh1=>?_))
  .grind [fp,yY,sC,Gu,bf.refl]
  .refine ⟨Wf _ _,?_⟩
   have ee:my (λi=>(x.get k).toList==(x.get i).toList) x.n=my (λi=>sC (x.get i) (x.get k)) x.n:=congrArg (λp=>my p x.n) (funext λi=>ML _ _)
   refine aq (λh2=>?_) (λh2=>?_)
   .grind [fp,yY,bf.refl]
   .rw [gV (p:=yY x) (by grind [yY,sC,Gu])] at ha
    rw [dy hk hx]
    exact ih ha
 .rw [Nat.sub_self] at ha
  refine bt (X:=EB) (stop:=EI) (Jg _ _ x _ ?_)
  refine aq (λh=>cj h) (λh=>?_)
  subst ha; exact bf.refl _
theorem HF:LC 64 [iR 1 dF x] [] (bool (ub x)) []:=
 bB.with Vh (p:=x.n<=maxLen) (λE av w vs h=>by cases h with|cons q _=>exact wM q) λhx=>
  pv (X:=EB) (stop:=EI) Vh (ag3 _ _ x (YR x _ hx 0 (bn _) rfl))
end
open Go Go.V
section
variable (x:ak)
def dp (y:ak):Bool:=x.op==y.op&&(x.a==y.a&&(x.b==y.b&&(x.c==y.c&&(x.n==y.n&&((x.k.kind==y.k.kind&&(x.k.n==y.k.n&&(x.k.s==y.k.s&&true)))&&((x.place.fn==y.place.fn&&(x.place.line==y.place.line&&true))&&(x.exit==y.exit&&((x.once==y.once)&&(eJ (λa b=>a==b) x.args y.args&&eJ sC x.names y.names)))))))))
def oQ:Bool := !(decide (x.op<0)||(decide (x.op>21)||(decide (x.n<(fP x.op).1)||decide (x.n>(fP x.op).2))))
def nB:Bool := !((decide (fV x.op<1)&&x.a != 0)||((decide (fV x.op<2)&&x.b != 0)||((decide (fV x.op<3)&&x.c != 0)||(x.op != 20&&decide ((x.args.n:Int)>0)))))
def mn:Bool := !((x.op==1&&(x.k.kind != 3 || (decide (x.k.n<0)||(decide (x.k.n≥24) || !(x.k.s.toList==(ByteArray.mk #[]).toList)))))||(x.op==2 && !fA x.k))
def zeroV (v:iG):Bool:=v.kind==0&&(v.n==0&&(v.s==(ByteArray.mk ⟨[]⟩)&&true))
def eL (p:HN):Bool:=p.fn==0&&(p.line==0&&true)
def mm:Bool := !(x.op != 1 && (x.op != 2 && !zeroV x.k))
def eP:Bool := !(decide (x.place.fn<0)||(decide (x.place.line<0)||(x.op != 19 && !eL x.place)))
def eQ:Bool:=bif x.op==7||(x.op==16||x.op==17) then ub x.names else ((x.names.n:Int)==0)
def a8:Bool:=oQ x&&(nB x&&(mn x&&(mm x&&(eP x&&eQ x))))
end
def KG (x:Sq dh) (v:Int):Int:=my (λi=>(x.get i).value==v) x.n
def eW (t:af) (n before:Int):Bool:=decide (n≥0)&&(decide (n<before)&&wK (t.ins.get n.toNat).op)
def F4L:wA:=[
 (46,λds rs=>(bool (a8 (JT ds 0)),[],[]))]
def F4:=ext F3 F4L
section
variable (aj:ak) (L:LP) (QD aA:D->Prop) (x:ak) (aB:LP)
def DM:Nat->Bool:=cD
theorem TS:Fn 50:={}
abbrev BL:D:=.c (.im (.sl 1 aj.6.1 (λi=>bF (aj.args.2 i))))
theorem W3 (h:br (x.1==20) (QD (BL x)) ((LC 63 [(int x.1)] [] (int 0) []/\(LC 63 [(int x.1)] [] (int 0) []/\QD (.c (.im (.sl 1 0 (flat 1 [])))))))):fG (UQ 0) 50 DM L (cy QD) [iJ x] []:=km h
theorem VZ (h:br (x.1==20) (QD (BL x)) ((LC 63 [(int x.1)] [] (int 1) []/\(LC 63 [(int x.1)] [] (int 1) []/\QD (.c (.im (.sl 1 1 (flat 1 [iI x.2])))))))):fG (UQ 1) 50 DM L (cy QD) [iJ x] []:=km h
theorem Xd (h:br (x.1==20) (QD (BL x)) ((LC 63 [(int x.1)] [] (int 2) []/\(LC 63 [(int x.1)] [] (int 2) []/\QD (.c (.im (.sl 1 2 (flat 1 [iI x.2,iI x.3])))))))):fG (UQ 2) 50 DM L (cy QD) [iJ x] []:=km h
theorem Yf (h:br (x.1==20) (QD (BL x)) ((LC 63 [(int x.1)] [] (int 3) []/\(LC 63 [(int x.1)] [] (int 3) []/\QD (.c (.im (.sl 1 3 (flat 1 [iI x.2,iI x.3,iI x.4])))))))):fG (UQ 3) 50 DM L (cy QD) [iJ x] []:=km h
theorem ah1 {b:Bool} {x y:Int} (hx:x=0∨x=1∨x=2∨x=3) (hy:y=0∨y=1∨y=2∨y=3):(bif b then x else y)=0∨(bif b then x else y)=1∨(bif b then x else y)=2∨(bif b then x else y)=3:=by
 grind
theorem jW (op:Int):fV op=0∨fV op=1∨fV op=2∨fV op=3:=by
 unfold fV
 iterate 13 (refine ah1 (by omega) ?_)
 omega
theorem B4 (l m:List Int) (n:Nat) (hn:n<=l.length) (hm:∀ i,i<n->l.getD i 0=m.getD i 0):bf (.c (.im (.sl 1 n (flat 1 (l.map iI))))) (iR 1 bF ⟨n,λi=>m.getD i 0⟩):=U1 λi hi j hj=>by
 have:j=0:=by omega
 subst this
 show dK (iA (l.map iI) (i*1+0)) (iI (m.getD i 0))
 grind [rj,dK.refl]
theorem ag8:LC 50 [iJ x] [] (iR 1 bF (aV x)) []:=by
 have key:∀ n:Nat,fV x.op=n->(x.op==20)=false->aV x=⟨n,λi=>[x.a,x.b,x.c].getD i 0⟩:=λn h1 h2=>by
  unfold aV; rw [h1,h2]; rfl
 have lp:(x.op==20)=true->aV x=x.args:=λh=>by unfold aV; rw [h]; rfl
 have c95:∀ n:Nat,fV x.op=n->LC 63 [int x.op] [] (int (n:Int)) []:=λn h=>h▸Ae x.op
 have hl:[iJ x].length<=(va 50).ntmps:=aH (by kernel_rfl)
 rcases jW x.op with h|h|h|h
 .refine ry (X:=UQ 0) (stop:=DM) TS hl (W3 _ _ x (aq (λh1=>?_) (λh1=>⟨c95 0 h,c95 0 h,?_⟩)))
  .rw [lp h1]; exact bf.refl _
  .rw [key 0 h h1]; exact B4 [] [x.a,x.b,x.c] 0 (bl _) λi hi=>by omega
 .refine ry (X:=UQ 1) (stop:=DM) TS hl (VZ _ _ x (aq (λh1=>?_) (λh1=>⟨c95 1 h,c95 1 h,?_⟩)))
  .rw [lp h1]; exact bf.refl _
  .rw [key 1 h h1]; exact B4 [x.a] [x.a,x.b,x.c] 1 (bl _) λi hi=>by
    grind
 .refine ry (X:=UQ 2) (stop:=DM) TS hl (Xd _ _ x (aq (λh1=>?_) (λh1=>⟨c95 2 h,c95 2 h,?_⟩)))
  .rw [lp h1]; exact bf.refl _
  .rw [key 2 h h1]; exact B4 [x.a,x.b] [x.a,x.b,x.c] 2 (bl _) λi hi=>by
    grind
 .refine ry (X:=UQ 3) (stop:=DM) TS hl (Yf _ _ x (aq (λh1=>?_) (λh1=>⟨c95 3 h,c95 3 h,?_⟩)))
  .rw [lp h1]; exact bf.refl _
  .rw [key 3 h h1]; exact B4 [x.a,x.b,x.c] [x.a,x.b,x.c] 3 (bl _) λi hi=>rfl
def rm:gr:={ F:=F4 }
def sq:Nat->Bool:=λi=>Nat.beq i 3||Nat.beq i 5||Nat.beq i 7||Nat.beq i 9||Nat.beq i 11||Nat.beq i 13
theorem az7:Fn 46:={}
abbrev eH:gn:=(1,((.c (.rt 0 0 0)),[]))
abbrev dM:ae:=.box (lift (b8 (aj)))
theorem an6 (h:(LC 62 [(int x.1)] [] (.t [(.false,[(ci ((fP x.1).1))]),(.false,[(ci ((fP x.1).2))])]) []/\(LC 63 [(int x.1)] [] (int (fV x.1)) []/\L (ah 46 3) ⟨[eH,(3,((int ((fP x.1).1)),[])),(4,((int ((fP x.1).2)),[])),(5,((int (fV x.1)),[]))],[(dM x)],[]⟩))):fG rm 46 sq L (cy QD) [iJ x] []:=km h
abbrev ti:gn:=(1,(.c (.rt 0 0 0)),[])
def MI  : VS:=⟨[ti,(3,(int ((fP x.1).1)),[]),(4,(int ((fP x.1).2)),[]),(5,(int (fV x.1)),[])],[(dM x)],[]⟩
theorem V3 (h:br (decide (x.1<0)) (QD (bool false)) (br (decide (x.1>21)) (QD (bool false)) (br (decide (x.5<(fP x.1).1)) (QD (bool false)) (br (decide (x.5>(fP x.1).2)) (QD (bool false)) (L (ah 46 5) ⟨[eH,(5,((int (fV x.1)),[])),(15,((bool false),[]))],[(dM x)],[]⟩))))):cW rm 46 sq L (cy QD) 3 (MI x ):=km h
def GN  : VS:=⟨[ti,(5,(int (fV x.1)),[]),(15,(bool false),[])],[(dM x)],[]⟩
abbrev OJ (aj:LP) (aA:ak):Prop:=aj (ah 46 7) ⟨[(1,((.c (.rt 0 0 0)),[])),(36,((bool false),[]))],[(.box (lift (b8 (aA))))],[]⟩
abbrev YO:Prop:=br (aj.1 != 20) (br (decide ((↑aj.6.1:Int)>0)) (aA (bool false)) (OJ aB aj)) (OJ aB aj)
abbrev Bh:Prop:=br (decide (fV aj.1<3)) (br (aj.4 != 0) (aA (bool false)) (YO aj aA aB)) (YO aj aA aB)
theorem XD (h:br (decide (fV x.1<1)) (br (x.2 != 0) (QD (bool false)) (br (decide (fV x.1<2)) (br (x.3 != 0) (QD (bool false)) (Bh x QD L)) (Bh x QD L))) (br (decide (fV x.1<2)) (br (x.3 != 0) (QD (bool false)) (Bh x QD L)) (Bh x QD L))):cW rm 46 sq L (cy QD) 5 (GN x ):=km h
def Gi  : VS:=⟨[ti,(36,(bool false),[])],[(dM x)],[]⟩
abbrev Oo:Prop:=br (aj.1==2) ((LC 56 [(.a (lift (RB (aj.7))))] [] (bool (fA aj.7)) []/\br (!fA aj.7) (aA (bool false)) (aB (ah 46 9) ⟨[eH,(73,((bool false),[]))],[(dM aj)],[]⟩))) (aB (ah 46 9) ⟨[eH,(73,((bool false),[]))],[(dM aj)],[]⟩)
theorem Vy (h:br (x.1==1) (br (x.7.1 != 3) (QD (bool false)) (br (decide (x.7.2<0)) (QD (bool false)) (br (decide (x.7.2≥24)) (QD (bool false)) (br (!x.7.3.toList==(ByteArray.mk #[]).toList) (QD (bool false)) (Oo x QD L))))) (Oo x QD L)):cW rm 46 sq L (cy QD) 7 (Gi x ):=km h
def Fv  : VS:=⟨[ti,(73,(bool false),[])],[(dM x)],[]⟩
abbrev GG (aj:LP) (aA:ak):Prop:=aj (ah 46 11) ⟨[eH,(112,((bool false),[]))],[(dM aA)],[]⟩
theorem WK  (h:br (x.1 != 1) (br (x.1 != 2) (br (!(x.7.1==0&&(x.7.2==0&&(x.7.3=={ data:={ toList:=[] } }&&true)))) (QD (bool false)) (GG L x)) (GG L x)) (GG L x)):cW rm 46 sq L (cy QD) 9 (Fv x ):=km h
def B9  : VS:=⟨[ti,(112,(bool false),[])],[(dM x)],[]⟩
theorem Sf (h:br (decide (x.9.1<0)) (QD (bool false)) (br (decide (x.9.2<0)) (QD (bool false)) (br (x.1 != 19) (br (!(x.9.1==0&&(x.9.2==0&&true))) (QD (bool false)) (L (ah 46 13) ⟨[eH,(127,((bool false),[]))],[(dM x)],[]⟩)) (L (ah 46 13) ⟨[eH,(127,((bool false),[]))],[(dM x)],[]⟩)))):cW rm 46 sq L (cy QD) 11 (B9 x ):=km h
def AJ  : VS:=⟨[ti,(127,(bool false),[])],[(dM x)],[]⟩
abbrev FN:D:=.c (.im (.sl 1 aj.8.1 (λi=>dF (aj.names.2 i))))
abbrev FG:Prop:=(LC 64 [(FN aj)] [] (bool (ub aj.8)) []/\aA (bool (ub aj.8)))
theorem Sk (h:br (x.1==7) (FG x QD) (br (x.1==16) (FG x QD) (br (x.1==17) (FG x QD) (QD (bool ((↑x.8.1:Int)==0)))))):cW rm 46 sq L (cy QD) 13 (AJ x ):=km h
theorem Rs:ag 46 0 (cw (bool (eQ x))) (ah 46 13) (AJ x):=by
 refine bt (X:=rm) (stop:=sq) (Sk _ _ x ?_)
 refine aq (λh=>?_) (λh=>aq (λh2=>?_) (λh2=>aq (λh3=>?_) (λh3=>?_)))
 .refine ⟨HF _,?_⟩
  grind [eQ,bf.refl]
 .refine ⟨HF _,?_⟩
  grind [eQ,bf.refl]
 .refine ⟨HF _,?_⟩
  grind [eQ,bf.refl]
 grind [eQ,bf.refl]
theorem RJ:ag 46 0 (cw (bool (eP x&&(eQ x)))) (ah 46 11) (B9 x):=by
 refine bt (X:=rm) (stop:=sq) (Sf _ _ x ?_)
 have no:eP x=false->bf (bool false) (bool (eP x&&(eQ x))):=λe=>by rw [e]; exact bf.refl _
 have go:eP x=true->ag 46 0 (cw (bool (eP x&&(eQ x)))) (ah 46 13) (AJ x):=λe=>by rw [e]; exact Rs x
 repeat' (first|refine aq (λh=>?_) (λh=>?_)|refine ⟨sX _,?_⟩|done)
 all_goals (try simp only [Bool.and_true,Bool.not_eq_true',Bool.not_eq_false'] at *)
 all_goals first
  | exact no (by simp only [eP,zeroV,eL,Bool.and_true, *,jI])
  | exact go (by grind [eP,eL])
theorem Wb:ag 46 0 (cw (bool (mm x&&(eP x&&(eQ x))))) (ah 46 9) (Fv x):=by
 refine bt (X:=rm) (stop:=sq) (WK _ _ x ?_)
 have no:mm x=false->bf (bool false) (bool (mm x&&(eP x&&(eQ x)))):=λe=>by rw [e]; exact bf.refl _
 have go:mm x=true->ag 46 0 (cw (bool (mm x&&(eP x&&(eQ x))))) (ah 46 11) (B9 x):=λe=>by rw [e]; exact RJ x
 repeat' (first|refine aq (λh=>?_) (λh=>?_)|refine ⟨sX _,?_⟩|done)
 all_goals (try simp only [Bool.and_true,Bool.not_eq_true',Bool.not_eq_false'] at *)
 all_goals first
  | exact no (by simp only [mm,zeroV,eL,Bool.and_true, *,jI])
  | exact go (by grind [mm,zeroV])
end
section
variable (x:ak)
theorem V5:ag 46 0 (cw (bool (mn x&&(mm x&&(eP x&&(eQ x)))))) (ah 46 7) (Gi x):=by
 refine bt (X:=rm) (stop:=sq) (Vy _ _ x ?_)
 have no:mn x=false->bf (bool false) (bool (mn x&&(mm x&&(eP x&&(eQ x))))):=λe=>by rw [e]; exact bf.refl _
 have go:mn x=true->ag 46 0 (cw (bool (mn x&&(mm x&&(eP x&&(eQ x)))))) (ah 46 9) (Fv x):=λe=>by rw [e]; exact Wb x
 repeat' (first|refine aq (λh=>?_) (λh=>?_)|refine ⟨sX _,?_⟩|done)
 all_goals (try simp only [Bool.and_true,Bool.not_eq_true',Bool.not_eq_false'] at *)
 all_goals first
  | exact no (by simp only [mn,zeroV,eL,Bool.and_true, *,jI])
  | exact go (by grind [mn])
theorem VM:ag 46 0 (cw (bool (nB x&&(mn x&&(mm x&&(eP x&&(eQ x))))))) (ah 46 5) (GN x):=by
 refine bt (X:=rm) (stop:=sq) (XD _ _ x ?_)
 have no:nB x=false->bf (bool false) (bool (nB x&&(mn x&&(mm x&&(eP x&&(eQ x)))))):=λe=>by rw [e]; exact bf.refl _
 have go:nB x=true->ag 46 0 (cw (bool (nB x&&(mn x&&(mm x&&(eP x&&(eQ x))))))) (ah 46 7) (Gi x):=λe=>by rw [e]; exact V5 x
 repeat' (first|refine aq (λh=>?_) (λh=>?_)|refine ⟨sX _,?_⟩|done)
 all_goals (try simp only [Bool.and_true,Bool.not_eq_true',Bool.not_eq_false'] at *)
 all_goals first
  | exact no (by simp only [nB,zeroV,eL,Bool.and_true, *,jI])
  | exact go (by grind [nB])
theorem Wq:ag 46 0 (cw (bool (oQ x&&(nB x&&(mn x&&(mm x&&(eP x&&(eQ x)))))))) (ah 46 3) (MI x):=by
 refine bt (X:=rm) (stop:=sq) (V3 _ _ x ?_)
 have no:oQ x=false->bf (bool false) (bool (oQ x&&(nB x&&(mn x&&(mm x&&(eP x&&(eQ x))))))):=λe=>by rw [e]; exact bf.refl _
 have go:oQ x=true->ag 46 0 (cw (bool (oQ x&&(nB x&&(mn x&&(mm x&&(eP x&&(eQ x)))))))) (ah 46 5) (GN x):=λe=>by rw [e]; exact VM x
 repeat' (first|refine aq (λh=>?_) (λh=>?_)|refine ⟨sX _,?_⟩|done)
 all_goals (try simp only [Bool.and_true,Bool.not_eq_true',Bool.not_eq_false'] at *)
 all_goals first
  | exact no (by simp only [oQ,zeroV,eL,Bool.and_true, *,jI])
  | exact go (by grind [oQ])
theorem UZ:LC 46 [iJ x] [] (bool (a8 x)) []:=
 pv (X:=rm) (stop:=sq) az7 (an6 _ _ x ⟨Yj _,Ae _,Wq x⟩)
theorem qS {n:Int} {m:Nat} (h0:0<=n) (h1:n<(m:Int)):dm n m=true:=by
 grind [Int.eq_ofNat_of_zero_le,aP]
end
open Go Go.V
def F5L:wA:=[]
def F5:=ext F4 F5L
section
variable (x y:ak)
def uG:ak×Bool:=
 bif x.1==3 then
  bif x.5==3 then
   ({ op:=y.1,a:=y.2,b:=y.3,c:=y.4,n:=x.5,args:=y.6,k:=y.7,names:=y.8,place:=y.9,exit:=y.10,once:=y.11 },true)
  else
   ({ op:=y.1,a:=y.2,b:=y.3,c:=y.4,n:=x.5,args:=y.6,k:=y.7,names:=y.8,place:=y.9,exit:=y.10,once:=y.11 },(x.5==4))
 else
  bif x.1==4 then
   ({ op:=y.1,a:=y.2,b:=y.3,c:=y.4,n:=x.5,args:=y.6,k:=y.7,names:=y.8,place:=y.9,exit:=y.10,once:=y.11 },(gH x.5 5 14))
  else
   bif x.1==5 then
    ({ op:=y.1,a:=y.2,b:=y.3,c:=y.4,n:=x.5,args:=y.6,k:=y.7,names:=y.8,place:=y.9,exit:=y.10,once:=y.11 },(gH x.5 0 1))
   else
    bif x.1==6 then
     ({ op:=y.1,a:=y.2,b:=y.3,c:=y.4,n:=x.5,args:=y.6,k:=y.7,names:=y.8,place:=y.9,exit:=y.10,once:=y.11 },(gH x.5 1 6))
    else
     bif x.1==10 then
      ({ op:=y.1,a:=y.2,b:=y.3,c:=y.4,n:=x.5,args:=y.6,k:=y.7,names:=y.8,place:=y.9,exit:=y.10,once:=y.11 },(gH x.5 0 63))
     else
      bif x.1==11 then
       ({ op:=y.1,a:=y.2,b:=y.3,c:=y.4,n:=x.5,args:=y.6,k:=y.7,names:=y.8,place:=y.9,exit:=y.10,once:=y.11 },(gH x.5 0 63))
      else
       bif x.1==15 then
        ({ op:=y.1,a:=y.2,b:=y.3,c:=y.4,n:=x.5,args:=y.6,k:=y.7,names:=y.8,place:=y.9,exit:=y.10,once:=y.11 },(gH x.5 0 600))
       else
        bif x.1==18 then
         ({ op:=y.1,a:=y.2,b:=y.3,c:=y.4,n:=x.5,args:=y.6,k:=y.7,names:=y.8,place:=y.9,exit:=y.10,once:=y.11 },(gH x.5 1 200))
        else
         bif x.1==7 then
          bif decide (x.5≥0) then
           ({ op:=y.1,a:=y.2,b:=y.3,c:=y.4,n:=x.5,args:=y.6,k:=y.7,names:=x.8,place:=y.9,exit:=y.10,once:=y.11 },(ub x.8))
          else
           ({ op:=y.1,a:=y.2,b:=y.3,c:=y.4,n:=x.5,args:=y.6,k:=y.7,names:=x.8,place:=y.9,exit:=y.10,once:=y.11 },false)
         else
          bif x.1==16 then
           bif decide (x.5≥0) then
            ({ op:=y.1,a:=y.2,b:=y.3,c:=y.4,n:=x.5,args:=y.6,k:=y.7,names:=x.8,place:=y.9,exit:=y.10,once:=y.11 },(ub x.8))
           else
            ({ op:=y.1,a:=y.2,b:=y.3,c:=y.4,n:=x.5,args:=y.6,k:=y.7,names:=x.8,place:=y.9,exit:=y.10,once:=y.11 },false)
          else
           bif x.1==17 then
            bif decide (x.5≥0) then
             ({ op:=y.1,a:=y.2,b:=y.3,c:=y.4,n:=x.5,args:=y.6,k:=y.7,names:=x.8,place:=y.9,exit:=y.10,once:=y.11 },(ub x.8))
            else
             ({ op:=y.1,a:=y.2,b:=y.3,c:=y.4,n:=x.5,args:=y.6,k:=y.7,names:=x.8,place:=y.9,exit:=y.10,once:=y.11 },false)
           else
            bif x.1==1 then
             bif x.7.1==3 then
              bif gH x.7.2 0 23 then
               ({ op:=y.1,a:=y.2,b:=y.3,c:=y.4,n:=y.5,args:=y.6,k:=x.7,names:=y.8,place:=y.9,exit:=y.10,once:=y.11 },(x.7.3.toList==(ByteArray.mk #[]).toList))
              else
               ({ op:=y.1,a:=y.2,b:=y.3,c:=y.4,n:=y.5,args:=y.6,k:=x.7,names:=y.8,place:=y.9,exit:=y.10,once:=y.11 },false)
             else
              ({ op:=y.1,a:=y.2,b:=y.3,c:=y.4,n:=y.5,args:=y.6,k:=x.7,names:=y.8,place:=y.9,exit:=y.10,once:=y.11 },false)
            else
             bif x.1==2 then
              ({ op:=y.1,a:=y.2,b:=y.3,c:=y.4,n:=y.5,args:=y.6,k:=x.7,names:=y.8,place:=y.9,exit:=y.10,once:=y.11 },(fA x.7))
             else
              bif x.1==19 then
               bif decide (x.9.1≥0) then
                ({ op:=y.1,a:=y.2,b:=y.3,c:=y.4,n:=y.5,args:=y.6,k:=y.7,names:=y.8,place:=x.9,exit:=y.10,once:=y.11 },(decide (x.9.2≥0)))
               else
                ({ op:=y.1,a:=y.2,b:=y.3,c:=y.4,n:=y.5,args:=y.6,k:=y.7,names:=y.8,place:=x.9,exit:=y.10,once:=y.11 },false)
              else
               (y,true)
def jz:Bool:=(uG x y).2&&(gH x.op 0 21&&dp x (uG x y).1)
def cm:ByteArray:=ByteArray.mk ⟨[]⟩
def yA:ak:=
 bif x.1 != 20 then
  bif decide ((↑(aV x).1:Int)>0) then
   bif decide ((↑(aV x).1:Int)>1) then
    bif decide ((↑(aV x).1:Int)>2) then
     ⟨x.1,x.2,x.3,x.4,0,⟨0,λ_=>0⟩,⟨0,0,cm⟩,⟨0,λ_=>cm⟩,⟨0,0⟩,x.10,x.11⟩
    else
     ⟨x.1,x.2,x.3,0,0,⟨0,λ_=>0⟩,⟨0,0,cm⟩,⟨0,λ_=>cm⟩,⟨0,0⟩,x.10,x.11⟩
   else
    bif decide ((↑(aV x).1:Int)>2) then
     ⟨x.1,x.2,0,x.4,0,⟨0,λ_=>0⟩,⟨0,0,cm⟩,⟨0,λ_=>cm⟩,⟨0,0⟩,x.10,x.11⟩
    else
     ⟨x.1,x.2,0,0,0,⟨0,λ_=>0⟩,⟨0,0,cm⟩,⟨0,λ_=>cm⟩,⟨0,0⟩,x.10,x.11⟩
  else
   bif decide ((↑(aV x).1:Int)>1) then
    bif decide ((↑(aV x).1:Int)>2) then
     ⟨x.1,0,x.3,x.4,0,⟨0,λ_=>0⟩,⟨0,0,cm⟩,⟨0,λ_=>cm⟩,⟨0,0⟩,x.10,x.11⟩
    else
     ⟨x.1,0,x.3,0,0,⟨0,λ_=>0⟩,⟨0,0,cm⟩,⟨0,λ_=>cm⟩,⟨0,0⟩,x.10,x.11⟩
   else
    bif decide ((↑(aV x).1:Int)>2) then
     ⟨x.1,0,0,x.4,0,⟨0,λ_=>0⟩,⟨0,0,cm⟩,⟨0,λ_=>cm⟩,⟨0,0⟩,x.10,x.11⟩
    else
     ⟨x.1,0,0,0,0,⟨0,λ_=>0⟩,⟨0,0,cm⟩,⟨0,λ_=>cm⟩,⟨0,0⟩,x.10,x.11⟩
 else
  ⟨x.1,0,0,0,0,x.args,⟨0,0,cm⟩,⟨0,λ_=>cm⟩,⟨0,0⟩,x.10,x.11⟩
def aY:Bool:=jz x (yA x)
end
open Go Go.V
def F6L:wA:=[]
def F6:=ext F5 F6L
section
variable {α:Type} (t:af) (e:ai) (k:Int) (l:Sq Int)
def dV (x y:Sq α):Sq α:=⟨x.n+y.n,λi=>Bool.rec (y.get (i-x.n)) (x.get i) (Nat.blt i x.n)⟩
theorem JC (x y:Sq α) (e:α->Nat->I):kB x.n (λi=>e (x.get i)) (λi=>e (y.get i))=λi=>e ((dV x y).get i):=by
 funext i j
 show (Bool.rec (e (y.get (i-x.n)) j) (e (x.get i) j) (Nat.blt i x.n):I)=e (Bool.rec (y.get (i-x.n)) (x.get i) (Nat.blt i x.n)) j
 cases Nat.blt i x.n<;>rfl
theorem tD (el sz:Nat) (g g':Nat->Nat->I):bZ (.arr el sz 0 g) (.arr el sz 0 g'):=bZ.arr λi hi=>by omega
def BK {α:Type} (g:Nat->Sq α):Nat->Nat->Sq α->Sq α
 | 0,_,l=>l
 | m+1,k,l=>BK g m (k+1) (dV l (g k))
def aK (a:α):Sq α:=⟨0,λ_=>a⟩
def LA (f:cA):Bool := !(decide (f.fn<0)||(decide (f.line<0)||decide ((f.vars.n:Int)>24)))
def obR (j:Nat):Bool := !(!eW t (e.aC.get j).value k||((t.ins.get (e.aC.get j).value.toNat).op != 17||(KG e.aC (e.aC.get j).value != (j:Int)||((e.aC.get j).cls != (t.ins.get (e.aC.get j).value.toNat).n||(!eJ sC (e.aC.get j).names (t.ins.get (e.aC.get j).value.toNat).names||(((e.aC.get j).items.n:Int)!=((e.aC.get j).names.n:Int)))))))
def Vn (v:Int):Bool:=v == -1 || !(!eW t v k||((t.ins.get v.toNat).op==17&&decide (KG e.aC v<0)))
def x21:Bool:=dB (λi=>Vn t e k (l.get i)) l.n
def x12:Bool:=dB (obR t e k) e.aC.n&&x21 t e k (BK (λj=>(e.aC.get j).items) e.aC.n 0 l)
def Db:Bool := !(decide ((e.frames.n:Int)<1)||(decide ((e.frames.n:Int)>6)||decide (e.back<0)))&&(dB (λj=>LA (e.frames.get j)) e.frames.n&&x12 t e k (BK (λj=>(e.frames.get j).vars) e.frames.n 0 (aK 0)))
end
structure jd (e:ai):Prop where
 frames:e.frames.n<=1000
 vars:∀ j,j<e.frames.n->(e.frames.get j).vars.n<=1000
 aC:e.aC.n<=1000
 names:∀ j,j<e.aC.n->(e.aC.get j).names.n<=1000
 items:∀ j,j<e.aC.n->(e.aC.get j).items.n<=1000
structure bk (t:af):Prop where
 ins:t.ins.n<=1000
 aa:t.aa.n<=1000
 args:∀ k,k<t.ins.n->(t.ins.get k).args.n<=1000
 names:∀ k,k<t.ins.n->(t.ins.get k).names.n<=1000
 str:∀ k,k<t.ins.n->(t.ins.get k).k.s.size<=1000
 ex:∀ k,k<t.aa.n->jd (t.aa.get k)
section
variable {t:af} {v k:Int}
theorem Td (h:eW t v k=true):0<=v/\v<k:=by
 grind [eW]
theorem vn (h:eW t v k=true) (hk:k<=t.ins.n):dm v t.ins.n=true:=by
 have:=Td h
 exact qS this.1 (by omega)
theorem eE {n:Nat} {b:Nat} (h:n<=2000000) (hb:b<=1000):dU n b=true:=by
 have h2:n*b<=2000000*1000:=Nat.mul_le_mul h hb
 unfold dU
 simp only [di]
 exact ⟨Nat.ble_eq_true_of_le (eA h (by decide)),Nat.ble_eq_true_of_le (eA h2 (by decide))⟩
end
theorem da {a b:Nat} (h:a<b):Nat.blt a b=true:=by simp_all
open Go Go.V
def F7L:wA:=[]
def F7:=ext F6 F7L
section
variable (x:ak) (t:af) (k i:Nat)
theorem SZ (h:x.args.n<=1000):(aV x).n<=1000:=by
 unfold aV
 cases x.op==20
 .show (fV x.op).toNat<=1000
  grind [jW]
 .exact h
def ib:Bool:=x.op==20||x.op==21
def a6:Bool := !(ib (t.ins.get k)!=((k:Int)==(t.ins.n:Int)-1))&&(!((t.ins.get k).op==1&&decide ((k:Int)≥(mM t.ins:Int)))&&aY (t.ins.get k))
def a12:Bool := !((t.ins.get k).op==1&&(decide ((k:Int)>0)&&decide ((t.ins.get k).k.n<=(t.ins.get (k-1)).k.n))) && !((t.ins.get k).op==20&&(((t.ins.get k).args.n:Int)!=(mM t.ins:Int)))
def u16 (v:Int):Bool:=eW t v k && !((t.ins.get v.toNat).op==17)
def LI:Bool:=dB (λj=>u16 t k ((aV (t.ins.get k)).get j)) (aV (t.ins.get k)).n
def a20:Bool := !((t.ins.get k).once && !m80 (t.ins.get k).op)&&(!decide ((t.ins.get k).exit < -1)&&(!decide ((t.ins.get k).exit≥(t.aa.n:Int))&&(!(decide ((t.ins.get k).exit≥0)&&eX (t.ins.get k).op==0) && !(decide ((t.ins.get k).exit<0)&&eX (t.ins.get k).op==2))))
def k8:Bool := !dB (λj => !((t.ins.get j).exit==(i:Int))) k
def a22:Bool := !decide ((t.ins.get k).exit≥0)||(!k8 t k (t.ins.get k).exit.toNat&&Db t (t.aa.get (t.ins.get k).exit.toNat) k)
def qj:Bool:=a6 t k&&(a12 t k&&(LI t k&&(a20 t k&&a22 t k)))
def ID:Bool := !(decide (t.place.fn<0)||(decide (t.place.line<0)||((t.ins.n:Int)==0)))&&dB (qj t) t.ins.n
theorem uf {p q:Nat->Bool}:∀ {m k:Nat},(∀ i,k<=i->i<k+m->p i=q i)->cO p m k=cO q m k
 | 0,k,_=>rfl
 | m+1,k,h=>by
   unfold cO
   rw [h k (bl _) (by omega),uf λi h1 h2=>h i (by omega) (by omega)]
theorem ze {p:Nat->Bool}:∀ {m k:Nat},cO p (m+1) k=(cO p m k&&p (k+m))
 | 0,k=>by simp [cO]
 | m+1,k=>by
   rw [show cO p (m+1+1) k=(bif p k then cO p (m+1) (k+1) else false) from rfl,ze (m:=m) (k:=k+1),show cO p (m+1) k=(bif p k then cO p m (k+1) else false) from rfl,show k+1+m=k+(m+1) by omega]
   cases p k<;>simp
theorem uv:k8 t (k+1) i=(k8 t k i||((t.ins.get k).exit==(i:Int))):=by
 grind [k8,dB,ze]
theorem Lv {n:Nat} (h:0<n) (hn:n<=1000):IntKind.i64.wrap ((n:Int)-1)=(n:Int)-1:=gG (by omega) (by omega)
end
open Go Go.V
def F8L:wA:=[
 (51,λds rs=>(bool (eW (ff ds 0) (aI ds 1) (aI ds 2)),[],[])),
 (65,λds rs=>(.c (.fh 76 [rs.length]),[],[.box (lift (bz (US ds 0)))]))]
def F8:=ext F7 F8L
section
variable (t:af) (q:Nat)
def fX:List C:=[.im (iI t.place.fn),.im (iI t.place.line),.im (yr 14 bQ t.ins),.im (yr 3 bG t.aa),.mp q]
def yp:D:=.a (fX t q)
theorem Tm (op:Int):eV op [1,2,3,4,10,12,14,16,17]=wK op:=by
 simp [eV,wK]
def X8:gr:={ F:=F8 }
def ot:Int:=bif decide ((t.ins.n:Int)>200) then 2 else bif decide ((t.aa.n:Int)>60) then 2 else bif ID t then 0 else 31
def ad6:gr:={ F:=F8 }
end
def ai5:Nat->Bool:=cD
theorem aw7:Fn 65:={}
section
variable (L:LP) (QE:D->List ae->Prop) (e:ai) (t:af) (n before:Int) (r0 r1 r2 r3 r4 r5 r6 r7 r8 r9 er eu Iw e5 Vw Yo:ae)
theorem ap8 (h:QE (.c (.fh 76 [12])) [r0,r1,r2,r3,r4,r5,r6,r7,r8,r9,er,eu,(.box (lift (bz (e))))]):fG ad6 65 ai5 L QE [Ir e] [r0,r1,r2,r3,r4,r5,r6,r7,r8,r9,er,eu]:=km h
theorem YT:LC 65 [Ir e] [r0,r1,r2,r3,r4,r5,r6,r7,r8,r9,er,eu] (.c (.fh 76 [12])) [r0,r1,r2,r3,r4,r5,r6,r7,r8,r9,er,eu,.box (lift (bz e))]:=
 gM aw7 (aH (by kernel_rfl)) (cU (X:=ad6) (stop:=ai5) (ap8 _ _ e r0 r1 r2 r3 r4 r5 r6 r7 r8 r9 er eu ⟨13,aH rfl,aH rfl,rfl,rfl,bf.refl _,by repeat' (first|exact trivial|refine ⟨.inl (.inl rfl),?_⟩|refine ⟨rfl,?_⟩|done)⟩))
def J3:Nat->Bool:=cD
theorem WD:Fn 51:={}
abbrev HH (aj:af) (aA:Int):D:=bool (eV (aj.ins.2 aA.toNat).1 [1,2,3,4,10,12,14,16,17])
theorem XL (h:br (decide (n≥0)) (br (decide (n<before)) (nd (dm n t.2.1) ((LC 57 [(int ((t.ins.2 n.toNat).1))] [] (HH t n) []/\QE (bool (eV (t.ins.2 n.toNat).1 [1,2,3,4,10,12,14,16,17])) [r0,r1,r2,r3,r4,(.box (fX (t) 1))]))) (QE (bool false) [r0,r1,r2,r3,r4,(.box (fX (t) 1))])) (QE (bool false) [r0,r1,r2,r3,r4,(.box (fX (t) 1))])):fG X8 51 J3 L QE [yp t 1,int n,int before] [r0,r1,r2,r3,r4]:=km h
theorem RE (hb:before<=t.ins.n):LC 51 [yp t 1,int n,int before] [r0,r1,r2,r3,r4] (bool (eW t n before)) [r0,r1,r2,r3,r4]:=by
 refine gM WD (aH (by kernel_rfl)) (cU (X:=X8) (stop:=J3) (XL _ _ t n before r0 r1 r2 r3 r4 ?_))
 refine aq (λh=>aq (λh2=>ay (qS (of_decide_eq_true h) (by grind)) ⟨sT _,?_⟩) (λh2=>?_)) (λh=>?_)
 .rw [show eW t n before=eV (t.ins.get n.toNat).op [1,2,3,4,10,12,14,16,17] from by grind [eW,Tm]]; exact ⟨5,aH rfl,aH rfl,rfl,rfl,bf.refl _,bm _ _⟩
 .rw [show eW t n before=false from by grind [eW]]; exact ⟨5,aH rfl,aH rfl,rfl,rfl,bf.refl _,bm _ _⟩
 .rw [show eW t n before=false from by grind [eW]]; exact ⟨5,aH rfl,aH rfl,rfl,rfl,bf.refl _,bm _ _⟩
theorem Rx (h:br (decide (n≥0)) (br (decide (n<before)) (nd (dm n t.2.1) ((LC 57 [(int ((t.ins.2 n.toNat).1))] [] (HH t n) []/\QE (bool (eV (t.ins.2 n.toNat).1 [1,2,3,4,10,12,14,16,17])) [r0,r1,r2,r3,r4,r5,r6,r7,r8,r9,er,eu,Iw,(.box (fX (t) 1))]))) (QE (bool false) [r0,r1,r2,r3,r4,r5,r6,r7,r8,r9,er,eu,Iw,(.box (fX (t) 1))])) (QE (bool false) [r0,r1,r2,r3,r4,r5,r6,r7,r8,r9,er,eu,Iw,(.box (fX (t) 1))])):fG X8 51 J3 L QE [yp t 1,int n,int before] [r0,r1,r2,r3,r4,r5,r6,r7,r8,r9,er,eu,Iw]:=km h
theorem NQ (hb:before<=t.ins.n):LC 51 [yp t 1,int n,int before] [r0,r1,r2,r3,r4,r5,r6,r7,r8,r9,er,eu,Iw] (bool (eW t n before)) [r0,r1,r2,r3,r4,r5,r6,r7,r8,r9,er,eu,Iw]:=by
 refine gM WD (aH (by kernel_rfl)) (cU (X:=X8) (stop:=J3) (Rx _ _ t n before r0 r1 r2 r3 r4 r5 r6 r7 r8 r9 er eu Iw ?_))
 refine aq (λh=>aq (λh2=>ay (qS (of_decide_eq_true h) (by grind)) ⟨sT _,?_⟩) (λh2=>?_)) (λh=>?_)
 .rw [show eW t n before=eV (t.ins.get n.toNat).op [1,2,3,4,10,12,14,16,17] from by grind [eW,Tm]]; exact ⟨13,aH rfl,aH rfl,rfl,rfl,bf.refl _,bm _ _⟩
 .rw [show eW t n before=false from by grind [eW]]; exact ⟨13,aH rfl,aH rfl,rfl,rfl,bf.refl _,bm _ _⟩
 .rw [show eW t n before=false from by grind [eW]]; exact ⟨13,aH rfl,aH rfl,rfl,rfl,bf.refl _,bm _ _⟩
theorem R8 (h:br (decide (n≥0)) (br (decide (n<before)) (nd (dm n t.2.1) ((LC 57 [(int ((t.ins.2 n.toNat).1))] [] (HH t n) []/\QE (bool (eV (t.ins.2 n.toNat).1 [1,2,3,4,10,12,14,16,17])) [r0,r1,r2,r3,r4,r5,r6,r7,r8,r9,er,eu,Iw,e5,Vw,Yo,(.box (fX (t) 1))]))) (QE (bool false) [r0,r1,r2,r3,r4,r5,r6,r7,r8,r9,er,eu,Iw,e5,Vw,Yo,(.box (fX (t) 1))])) (QE (bool false) [r0,r1,r2,r3,r4,r5,r6,r7,r8,r9,er,eu,Iw,e5,Vw,Yo,(.box (fX (t) 1))])):fG X8 51 J3 L QE [yp t 1,int n,int before] [r0,r1,r2,r3,r4,r5,r6,r7,r8,r9,er,eu,Iw,e5,Vw,Yo]:=km h
theorem Mu (hb:before<=t.ins.n):LC 51 [yp t 1,int n,int before] [r0,r1,r2,r3,r4,r5,r6,r7,r8,r9,er,eu,Iw,e5,Vw,Yo] (bool (eW t n before)) [r0,r1,r2,r3,r4,r5,r6,r7,r8,r9,er,eu,Iw,e5,Vw,Yo]:=by
 refine gM WD (aH (by kernel_rfl)) (cU (X:=X8) (stop:=J3) (R8 _ _ t n before r0 r1 r2 r3 r4 r5 r6 r7 r8 r9 er eu Iw e5 Vw Yo ?_))
 refine aq (λh=>aq (λh2=>ay (qS (of_decide_eq_true h) (by grind)) ⟨sT _,?_⟩) (λh2=>?_)) (λh=>?_)
 .rw [show eW t n before=eV (t.ins.get n.toNat).op [1,2,3,4,10,12,14,16,17] from by grind [eW,Tm]]; exact ⟨16,aH rfl,aH rfl,rfl,rfl,bf.refl _,bm _ _⟩
 .rw [show eW t n before=false from by grind [eW]]; exact ⟨16,aH rfl,aH rfl,rfl,rfl,bf.refl _,bm _ _⟩
 .rw [show eW t n before=false from by grind [eW]]; exact ⟨16,aH rfl,aH rfl,rfl,rfl,bf.refl _,bm _ _⟩
end
open Go Go.V
def UE:Code->Option (List Tmp×Code×Code)
 | .rangeFunc _ ps a b=>some (ps.toList,a,b)
 | .seq a b=>match UE a with
   | some x=>some x
   | none=>UE b
 | .cond _ a b=>match UE a with
   | some x=>some x
   | none=>UE b
 | .block _ a=>UE a
 | .loop a=>UE a
 | _=>none
section
variable (f:FuncId) {ps:List Tmp}
def pw:Code:=match UE (nt f) with
 | some x=>x.2.1
 | none=>.skip
def pg:Code:=match UE (nt f) with
 | some x=>x.2.2
 | none=>.skip
def vcY (X:gr) (f:FuncId) (r:Nat) (Q:D->List ae->Prop) (sl:aL) (rs:List ae):Prop:=
 tg lE Try.prog X hints (va f).ntmps f (some r) cD (λ_ _=>False) (Qm r Q) 10000 false [.code (pw f),.beginRound,.code (pg f)] ⟨sl,rs,[]⟩
theorem Uf {X:gr} {f:FuncId} {r:Nat} {vf zN:aL} {ds:List D} {rs:List ae} {d:D} {aG:List ae} (hr:rs[r]?=some (.loop f (va f).ntmps vf ps (pw f) (pg f) .ready none)) (HR:KO (va f).ntmps ps ds vf=some zN) (h:vcY X f r (Go.V.Ends rs d aG) zN rs):lW lE Try.prog r ds rs d aG:=
 yP pB hr HR λb cs hb=>ve (L:=λ_ _=>False) pB mixed hb (λ_ _ q=>q.elim) (λ_ _ q=>q) 10000 h
def ED (b:Bool) (x:Option ae):ae:=match x with
 | some (.loop f N sl ps c d _ _)=>.loop f N sl ps c d (bif b then .ready else .done) (bif b then none else some .ret)
 | _=>.dead
def IQ (n:Nat) (sl:aL):Bool:=List.rec true (λx _ ih=>Bool.rec false ih (jf n x.2.1)) sl
theorem sP {n:Nat}:∀ {sl:aL},IQ n sl=true->∀ x∈sl,jf n x.2.1=true
 | [],_,x,hx=>by cases hx
 | y::l,h,x,hx=>by
   obtain ⟨h1,h2⟩:=Bool.fW (show (Bool.rec false (IQ n l) (jf n y.2.1):Bool)=true from h)
   rcases List.mem_cons.1 hx with rfl|hx
   .exact h1
   .exact sP h2 x hx
def eh (n:Nat):List ae->Prop
 | []=>True
 | x::l=>iw n x/\eh n l
theorem eh.mem {n:Nat}:∀ {l:List ae},eh n l->∀ x∈l,iw n x
 | [],_,x,hx=>by cases hx
 | y::l,h,x,hx=>by
   rcases List.mem_cons.1 hx with rfl|hx
   .exact h.1
   .exact eh.mem h.2 x hx
theorem eh.mono {n m:Nat} (hnm:n<=m):∀ {l:List ae},eh n l->eh m l
 | [],_=>trivial
 | _::_,h=>⟨h.1.mono hnm,eh.mono hnm h.2⟩
theorem rE {n:Nat} {f N:Nat} {sl:aL} {a b:Code} {st:LoopState} {pd:Option Code} (h:IQ n sl=true):iw n (.loop f N sl ps a b st pd):=
 .inr ⟨f,N,sl,ps,a,b,st,pd,rfl,λt d c q=>sP h _ (hJ q)⟩
theorem ag.cut {f:FuncId} {n0:Nat} {Q:D->List ae->Prop} {todo:List Item} {s:VS} (n:Nat) (h0:n0<=n) (hn:n<=s.rs.length) (N9:IQ n s.sl=true) (Qt:s.df=[]) (NK:eh n (s.rs.take n)) (g:ag f n0 Q todo ⟨s.sl,s.rs.take n,s.df⟩):ag f n0 Q todo s:=
 λb cs hb=>Goal.ghost (g b cs hb) λax w0 sp a w E dr uw hR qO=>by
  refine ⟨E.take n,by grind,?_,qO⟩
  exact hR.cut hn (λx hx=>oH h0 (dr x hx)) (λt d q=>sP N9 _ (hJ q)) (λt d c q=>qO _ (hJ q)) (by grind) (λq x e=>NK.mem x (List.mem_of_getElem? e))
end
open Go Go.V
def Ji (p:Int->Bool):gr:={ F:=F8,S:=[14],FY:=λr ds rs=>(bool (p (aI ds 0)),[(r,ED (p (aI ds 0)) (aR rs r))],[]) }
def allM (p:Int->Bool) (e:ai):Bool:=dB (λj=>dB (λi=>p ((e.frames.get j).vars.get i)) (e.frames.get j).vars.n) e.frames.n&&dB (λj=>dB (λi=>p ((e.aC.get j).items.get i)) (e.aC.get j).items.n) e.aC.n
def rO:Nat->Bool:=λi=>Nat.beq i 1||Nat.beq i 4||Nat.beq i 10||Nat.beq i 13
theorem ay4:Fn 76:={}
abbrev nM:gn:=(0,((.c (.yl 14)),[]))
abbrev BB:gn:=(1,((.c (.rt 12 0 0)),[]))
abbrev xJ (aj:ai):D:=.c (.im (.sl 3 aj.1.1 (λi=>cK (aj.frames.2 i))))
abbrev je (aj:ai):D:=int (↑aj.1.1:Int)
section
variable (aj:ai) (L:LP) (aA:Nat) (QE:D->List ae->Prop) (p:Int->Bool) (e:ai) (r0 r1 r2 r3 r4 r5 r6 r7 r8 r9 er eu e5:ae) (f N:Nat) (sl:aL) (ps:List Tmp) (ca cb:Code) (j i:Nat)
abbrev dZ:ae:=.box (lift (bz (aj)))
abbrev jC (aj aA:Nat) (aB:aL) (aT:List Tmp) (bp bP:Code):ae:=.loop aj aA aB aT bp bP .ready none
theorem ay6 (h:L (ah 76 1) ⟨[nM,BB,(12,((xJ e),[])),(13,((je e),[])),(14,((int 0),[]))],[r0,r1,r2,r3,r4,r5,r6,r7,r8,r9,er,eu,(dZ e),e5,(jC f N sl ps ca cb)],[]⟩):fG (Ji p) 76 rO L QE [.c (.yl 14),.c (.rt 12 0 0)] [r0,r1,r2,r3,r4,r5,r6,r7,r8,r9,er,eu,.box (lift (bz e)),e5,.loop f N sl ps ca cb .ready none]:=km h
abbrev BW:gn:=(0,(.c (.yl 14)),[])
def HT (p:Int->Bool) (e:ai) (r0 r1 r2 r3 r4 r5 r6 r7 r8 r9 er eu e5:ae) (f N:Nat) (sl:aL) (ps:List Tmp) (ca cb:Code) (j:Nat):VS:=⟨[BW,(1,(.c (.rt 12 0 0)),[]),(12,(xJ e),[]),(13,(je e),[]),(14,int j,[])],[r0,r1,r2,r3,r4,r5,r6,r7,r8,r9,er,eu,(dZ e),e5,(jC f N sl ps ca cb)],[]⟩
abbrev wU:ae:=.box (lift (la (aj.frames.2 aA)))
abbrev tS:D:=.c (.im (.sl 4 aj.2.1 (λi=>eM (aj.aC.2 i))))
abbrev iY:D:=int (↑aj.2.1:Int)
theorem Ov (h:br (decide ((↑j:Int)<(↑e.1.1:Int))) (nd (dm (↑j:Int) e.1.1) (L (ah 76 4) ⟨[nM,BB,(12,((xJ e),[])),(13,((je e),[])),(14,((int (↑j:Int)),[])),(19,((.c (.im (.sl 1 ((e.frames.2 j).3.1) (λi=>bF ((e.frames.get (↑j:Int).toNat).vars.2 i))))),[])),(20,((int ((↑(e.frames.2 j).3.1:Int))),[])),(21,((int 0),[]))],[r0,r1,r2,r3,r4,r5,r6,r7,r8,r9,er,eu,(dZ e),e5,(jC f N sl ps ca cb),(wU e j)],[]⟩)) (L (ah 76 10) ⟨[nM,(32,((tS e),[])),(33,((iY e),[])),(34,((int 0),[]))],[r0,r1,r2,r3,r4,r5,r6,r7,r8,r9,er,eu,(dZ e),e5,(jC f N sl ps ca cb)],[]⟩)):cW (Ji p) 76 rO L QE 1 (HT p e r0 r1 r2 r3 r4 r5 r6 r7 r8 r9 er eu e5 f N sl ps ca cb j):=km h
def Og (p:Int->Bool) (e:ai) (r0 r1 r2 r3 r4 r5 r6 r7 r8 r9 er eu e5:ae) (f N:Nat) (sl:aL) (ps:List Tmp) (ca cb:Code) (j i:Nat):VS:=⟨[BW,(1,(.c (.rt 12 0 0)),[]),(12,(.c (.im (.sl 3 e.1.1 (λi=>cK (e.frames.2 i))))),[]),(13,(je e),[]),(14,int j,[]),(19,(.c (.im (.sl 1 ((e.frames.2 j).3.1) (λi=>bF ((e.frames.get (↑j:Int).toNat).vars.2 i))))),[]),(20,(int ((↑(e.frames.2 j).3.1:Int))),[]),(21,int i,[])],[r0,r1,r2,r3,r4,r5,r6,r7,r8,r9,er,eu,(dZ e),e5,(jC f N sl ps ca cb),(wU e j)],[]⟩
theorem Qv (h:br (decide ((↑i:Int)<(↑(e.frames.2 j).3.1:Int))) (nd (dm (↑i:Int) (e.frames.2 j).3.1) ((lW lE Try.prog 14 [(int ((e.frames.get (↑j:Int).toNat).vars.2 i))] [r0,r1,r2,r3,r4,r5,r6,r7,r8,r9,er,eu,(.box (lift (bz (e)))),e5,(.loop f N sl ps ca cb .ready none),(.box (lift (la (e.frames.2 j))))] (bool (p ((e.frames.get (↑j:Int).toNat).vars.2 i))) [r0,r1,r2,r3,r4,r5,r6,r7,r8,r9,er,eu,(.box (lift (bz (e)))),e5,(.loop f N sl ps ca cb (bif p ((e.frames.get (↑j:Int).toNat).vars.2 i) then LoopState.ready else LoopState.done) (bif p ((e.frames.get (↑j:Int).toNat).vars.2 i) then none else some Code.ret)),(.box (lift (la (e.frames.2 j))))]/\br (!p ((e.frames.get (↑j:Int).toNat).vars.2 i)) (QE (.t []) [r0,r1,r2,r3,r4,r5,r6,r7,r8,r9,er,eu,(.box (lift (bz (e)))),e5,(.loop f N sl ps ca cb (bif p ((e.frames.get (↑j:Int).toNat).vars.2 i) then LoopState.ready else LoopState.done) (bif p ((e.frames.get (↑j:Int).toNat).vars.2 i) then none else some Code.ret)),(.box (lift (la (e.frames.2 j))))]) (L (ah 76 4) ⟨[nM,BB,(12,((.c (.im (.sl 3 e.1.1 (λi=>cK (e.frames.2 i))))),[])),(13,((je e),[])),(14,((int (↑j:Int)),[])),(19,((.c (.im (.sl 1 ((e.frames.2 j).3.1) (λi=>bF ((e.frames.get (↑j:Int).toNat).vars.2 i))))),[])),(20,((int ((↑(e.frames.2 j).3.1:Int))),[])),(21,((int (IntKind.i64.wrap ((↑i:Int)+1))),[]))],[r0,r1,r2,r3,r4,r5,r6,r7,r8,r9,er,eu,(dZ e),e5,(.loop f N sl ps ca cb (bif p ((e.frames.get (↑j:Int).toNat).vars.2 i) then LoopState.ready else LoopState.done) (bif p ((e.frames.get (↑j:Int).toNat).vars.2 i) then none else some Code.ret)),(wU e j)],[]⟩)))) (L (ah 76 1) ⟨[nM,BB,(12,((.c (.im (.sl 3 e.1.1 (λi=>cK (e.frames.2 i))))),[])),(13,((je e),[])),(14,((int (IntKind.i64.wrap ((↑j:Int)+1))),[]))],[r0,r1,r2,r3,r4,r5,r6,r7,r8,r9,er,eu,(dZ e),e5,(jC f N sl ps ca cb),(wU e j)],[]⟩)):cW (Ji p) 76 rO L QE 4 (Og p e r0 r1 r2 r3 r4 r5 r6 r7 r8 r9 er eu e5 f N sl ps ca cb j i):=km h
def AM (p:Int->Bool) (e:ai) (r0 r1 r2 r3 r4 r5 r6 r7 r8 r9 er eu e5:ae) (f N:Nat) (sl:aL) (ps:List Tmp) (ca cb:Code) (j:Nat):VS:=⟨[BW,(32,(tS e),[]),(33,(iY e),[]),(34,int j,[])],[r0,r1,r2,r3,r4,r5,r6,r7,r8,r9,er,eu,(dZ e),e5,(jC f N sl ps ca cb)],[]⟩
abbrev qH:ae:=.box (lift (tT (aj.aC.2 aA)))
theorem H3 (h:br (decide ((↑j:Int)<(↑e.2.1:Int))) (nd (dm (↑j:Int) e.2.1) (L (ah 76 13) ⟨[nM,(32,((tS e),[])),(33,((iY e),[])),(34,((int (↑j:Int)),[])),(39,((.c (.im (.sl 1 ((e.aC.2 j).4.1) (λi=>bF ((e.aC.get (↑j:Int).toNat).items.2 i))))),[])),(40,((int ((↑(e.aC.2 j).4.1:Int))),[])),(41,((int 0),[]))],[r0,r1,r2,r3,r4,r5,r6,r7,r8,r9,er,eu,(dZ e),e5,(jC f N sl ps ca cb),(qH e j)],[]⟩)) (QE (.t []) [r0,r1,r2,r3,r4,r5,r6,r7,r8,r9,er,eu,(.box (lift (bz (e)))),e5,(.loop f N sl ps ca cb .ready none)])):cW (Ji p) 76 rO L QE 10 (AM p e r0 r1 r2 r3 r4 r5 r6 r7 r8 r9 er eu e5 f N sl ps ca cb j):=km h
def JI (p:Int->Bool) (e:ai) (r0 r1 r2 r3 r4 r5 r6 r7 r8 r9 er eu e5:ae) (f N:Nat) (sl:aL) (ps:List Tmp) (ca cb:Code) (j i:Nat):VS:=⟨[BW,(32,(.c (.im (.sl 4 e.2.1 (λi=>eM (e.aC.2 i))))),[]),(33,(iY e),[]),(34,int j,[]),(39,(.c (.im (.sl 1 ((e.aC.2 j).4.1) (λi=>bF ((e.aC.get (↑j:Int).toNat).items.2 i))))),[]),(40,(int ((↑(e.aC.2 j).4.1:Int))),[]),(41,int i,[])],[r0,r1,r2,r3,r4,r5,r6,r7,r8,r9,er,eu,(dZ e),e5,(jC f N sl ps ca cb),(qH e j)],[]⟩
theorem Io (h:br (decide ((↑i:Int)<(↑(e.aC.2 j).4.1:Int))) (nd (dm (↑i:Int) (e.aC.2 j).4.1) ((lW lE Try.prog 14 [(int ((e.aC.get (↑j:Int).toNat).items.2 i))] [r0,r1,r2,r3,r4,r5,r6,r7,r8,r9,er,eu,(.box (lift (bz (e)))),e5,(.loop f N sl ps ca cb .ready none),(.box (lift (tT (e.aC.2 j))))] (bool (p ((e.aC.get (↑j:Int).toNat).items.2 i))) [r0,r1,r2,r3,r4,r5,r6,r7,r8,r9,er,eu,(.box (lift (bz (e)))),e5,(.loop f N sl ps ca cb (bif p ((e.aC.get (↑j:Int).toNat).items.2 i) then LoopState.ready else LoopState.done) (bif p ((e.aC.get (↑j:Int).toNat).items.2 i) then none else some Code.ret)),(.box (lift (tT (e.aC.2 j))))]/\br (!p ((e.aC.get (↑j:Int).toNat).items.2 i)) (QE (.t []) [r0,r1,r2,r3,r4,r5,r6,r7,r8,r9,er,eu,(.box (lift (bz (e)))),e5,(.loop f N sl ps ca cb (bif p ((e.aC.get (↑j:Int).toNat).items.2 i) then LoopState.ready else LoopState.done) (bif p ((e.aC.get (↑j:Int).toNat).items.2 i) then none else some Code.ret)),(.box (lift (tT (e.aC.2 j))))]) (L (ah 76 13) ⟨[nM,(32,((.c (.im (.sl 4 e.2.1 (λi=>eM (e.aC.2 i))))),[])),(33,((iY e),[])),(34,((int (↑j:Int)),[])),(39,((.c (.im (.sl 1 ((e.aC.2 j).4.1) (λi=>bF ((e.aC.get (↑j:Int).toNat).items.2 i))))),[])),(40,((int ((↑(e.aC.2 j).4.1:Int))),[])),(41,((int (IntKind.i64.wrap ((↑i:Int)+1))),[]))],[r0,r1,r2,r3,r4,r5,r6,r7,r8,r9,er,eu,(dZ e),e5,(.loop f N sl ps ca cb (bif p ((e.aC.get (↑j:Int).toNat).items.2 i) then LoopState.ready else LoopState.done) (bif p ((e.aC.get (↑j:Int).toNat).items.2 i) then none else some Code.ret)),(qH e j)],[]⟩)))) (L (ah 76 10) ⟨[nM,(32,((.c (.im (.sl 4 e.2.1 (λi=>eM (e.aC.2 i))))),[])),(33,((iY e),[])),(34,((int (IntKind.i64.wrap ((↑j:Int)+1))),[]))],[r0,r1,r2,r3,r4,r5,r6,r7,r8,r9,er,eu,(dZ e),e5,(jC f N sl ps ca cb),(qH e j)],[]⟩)):cW (Ji p) 76 rO L QE 13 (JI p e r0 r1 r2 r3 r4 r5 r6 r7 r8 r9 er eu e5 f N sl ps ca cb j i):=km h
end
section
variable (p:Int->Bool) (e:ai) (r0 r1 r2 r3 r4 r5 r6 r7 r8 r9 er eu e5:ae) (f N:Nat) (sl:aL) (ps:List Tmp) (ca cb:Code)
theorem Sj (hy:∀ (n:Int) (x:ae),lW lE Try.prog 14 [int n] [r0,r1,r2,r3,r4,r5,r6,r7,r8,r9,er,eu,.box (lift (bz e)),e5,.loop f N sl ps ca cb .ready none,x] (bool (p n)) [r0,r1,r2,r3,r4,r5,r6,r7,r8,r9,er,eu,.box (lift (bz e)),e5,.loop f N sl ps ca cb (bif p n then .ready else .done) (bif p n then none else some .ret),x]) (hS:jd e) (hw:eh 15 [r0,r1,r2,r3,r4,r5,r6,r7,r8,r9,er,eu,.box (lift (bz e)),e5,.loop f N sl ps ca cb .ready none]) (a:Bool) (j:Nat) (hj:j<e.aC.n) (end_:cO (λj=>dB (λi=>p ((e.aC.get j).items.get i)) (e.aC.get j).items.n) (e.aC.n-(j+1)) (j+1)=a->ag 76 15 (Go.V.Ends [r0,r1,r2,r3,r4,r5,r6,r7,r8,r9,er,eu,.box (lift (bz e)),e5,.loop f N sl ps ca cb .ready none] (.t []) [r0,r1,r2,r3,r4,r5,r6,r7,r8,r9,er,eu,.box (lift (bz e)),e5,.loop f N sl ps ca cb (bif a then .ready else .done) (bif a then none else some .ret)]) (ah 76 10) (AM p e r0 r1 r2 r3 r4 r5 r6 r7 r8 r9 er eu e5 f N sl ps ca cb (j+1))):∀ i,i<=(e.aC.get j).items.n->(cO (λi=>p ((e.aC.get j).items.get i)) ((e.aC.get j).items.n-i) i&&cO (λj=>dB (λi=>p ((e.aC.get j).items.get i)) (e.aC.get j).items.n) (e.aC.n-(j+1)) (j+1))=a->ag 76 15 (Go.V.Ends [r0,r1,r2,r3,r4,r5,r6,r7,r8,r9,er,eu,.box (lift (bz e)),e5,.loop f N sl ps ca cb .ready none] (.t []) [r0,r1,r2,r3,r4,r5,r6,r7,r8,r9,er,eu,.box (lift (bz e)),e5,.loop f N sl ps ca cb (bif a then .ready else .done) (bif a then none else some .ret)]) (ah 76 13) (JI p e r0 r1 r2 r3 r4 r5 r6 r7 r8 r9 er eu e5 f N sl ps ca cb j i):=by
 have hV:(e.aC.get j).items.n<=1000:=hS.items j hj
 have hN:e.aC.n<=1000:=hS.aC
 refine bc (λi hi ih ha=>?_) (λha=>?_)
 .have q:(e.aC.get j).items.n-i=((e.aC.get j).items.n-(i+1))+1:=by omega
  rw [q] at ha
  refine aF (X:=Ji p) (stop:=rO) (Io _ _ p e r0 r1 r2 r3 r4 r5 r6 r7 r8 r9 er eu e5 f N sl ps ca cb j i ?_)
  rw [dy hi (eA hV (by decide))]
  refine aq (λh=>?_) (λh=>(dec_lt h hi).elim)
  refine ay (aP hi) ⟨hy _ _,?_⟩
  refine aq (λh1=>?_) (λh1=>?_)
  .have h1:=(Bool.not_eq_true' _).mp h1
   rw [h1]
   rw [fp (p:=(λi=>p ((e.aC.get j).items.get i))) h1,Bool.false_and] at ha
   subst ha
   refine ⟨15,aH rfl,aH rfl,rfl,rfl,bf.refl _,?_⟩
   repeat' (first|exact trivial|refine ⟨.inl (.inl rfl),?_⟩|refine ⟨.inl (.inr ⟨_,_,_,_,_,_,_,_,_,_,rfl,rfl⟩),?_⟩|done)
  .have h1:=(Bool.not_eq_false' _▸h1:p _=true)
   rw [h1]
   rw [gV (p:=(λi=>p ((e.aC.get j).items.get i))) h1] at ha
   exact ih ha
 .rw [Nat.sub_self] at ha
  refine aF (X:=Ji p) (stop:=rO) (Io _ _ p e r0 r1 r2 r3 r4 r5 r6 r7 r8 r9 er eu e5 f N sl ps ca cb j _ ?_)
  rw [dy hj (eA hN (by decide))]
  refine aq (λh=>cj h) (λh=>?_)
  exact ag.cut 15 (bl _) (aH rfl) rfl rfl hw (end_ (by simpa [cO] using ha))
theorem Q5 (hy:∀ (n:Int) (x:ae),lW lE Try.prog 14 [int n] [r0,r1,r2,r3,r4,r5,r6,r7,r8,r9,er,eu,.box (lift (bz e)),e5,.loop f N sl ps ca cb .ready none,x] (bool (p n)) [r0,r1,r2,r3,r4,r5,r6,r7,r8,r9,er,eu,.box (lift (bz e)),e5,.loop f N sl ps ca cb (bif p n then .ready else .done) (bif p n then none else some .ret),x]) (hS:jd e) (hw:eh 15 [r0,r1,r2,r3,r4,r5,r6,r7,r8,r9,er,eu,.box (lift (bz e)),e5,.loop f N sl ps ca cb .ready none]) (a:Bool):∀ j,j<=e.aC.n->(cO (λj=>dB (λi=>p ((e.aC.get j).items.get i)) (e.aC.get j).items.n) (e.aC.n-j) j)=a->ag 76 15 (Go.V.Ends [r0,r1,r2,r3,r4,r5,r6,r7,r8,r9,er,eu,.box (lift (bz e)),e5,.loop f N sl ps ca cb .ready none] (.t []) [r0,r1,r2,r3,r4,r5,r6,r7,r8,r9,er,eu,.box (lift (bz e)),e5,.loop f N sl ps ca cb (bif a then .ready else .done) (bif a then none else some .ret)]) (ah 76 10) (AM p e r0 r1 r2 r3 r4 r5 r6 r7 r8 r9 er eu e5 f N sl ps ca cb j):=by
 have hN:e.aC.n<=1000:=hS.aC
 refine bc (λj hj ih ha=>?_) (λha=>?_)
 .have q:e.aC.n-j=(e.aC.n-(j+1))+1:=by omega
  rw [q] at ha
  refine aF (X:=Ji p) (stop:=rO) (H3 _ _ p e r0 r1 r2 r3 r4 r5 r6 r7 r8 r9 er eu e5 f N sl ps ca cb j ?_)
  refine aq (λh=>?_) (λh=>(dec_lt h hj).elim)
  refine ay (aP hj) ?_
  refine Sj p e r0 r1 r2 r3 r4 r5 r6 r7 r8 r9 er eu e5 f N sl ps ca cb hy hS hw a j hj (λq=>ih q) 0 (bn _) ?_
  grind [cO,dB]
 .rw [Nat.sub_self] at ha
  refine aF (X:=Ji p) (stop:=rO) (H3 _ _ p e r0 r1 r2 r3 r4 r5 r6 r7 r8 r9 er eu e5 f N sl ps ca cb _ ?_)
  refine aq (λh=>cj h) (λh=>?_)
  have ha:true=a:=ha
  subst ha
  refine ⟨15,aH rfl,aH rfl,rfl,rfl,bf.refl _,?_⟩
  repeat' (first|exact trivial|refine ⟨.inl (.inl rfl),?_⟩|refine ⟨.inl (.inr ⟨_,_,_,_,_,_,_,_,_,_,rfl,rfl⟩),?_⟩|done)
theorem VH (hy:∀ (n:Int) (x:ae),lW lE Try.prog 14 [int n] [r0,r1,r2,r3,r4,r5,r6,r7,r8,r9,er,eu,.box (lift (bz e)),e5,.loop f N sl ps ca cb .ready none,x] (bool (p n)) [r0,r1,r2,r3,r4,r5,r6,r7,r8,r9,er,eu,.box (lift (bz e)),e5,.loop f N sl ps ca cb (bif p n then .ready else .done) (bif p n then none else some .ret),x]) (hS:jd e) (hw:eh 15 [r0,r1,r2,r3,r4,r5,r6,r7,r8,r9,er,eu,.box (lift (bz e)),e5,.loop f N sl ps ca cb .ready none]) (a:Bool) (j:Nat) (hj:j<e.frames.n) (end_:(cO (λj=>dB (λi=>p ((e.frames.get j).vars.get i)) (e.frames.get j).vars.n) (e.frames.n-(j+1)) (j+1)&&dB (λj=>dB (λi=>p ((e.aC.get j).items.get i)) (e.aC.get j).items.n) e.aC.n)=a->ag 76 15 (Go.V.Ends [r0,r1,r2,r3,r4,r5,r6,r7,r8,r9,er,eu,.box (lift (bz e)),e5,.loop f N sl ps ca cb .ready none] (.t []) [r0,r1,r2,r3,r4,r5,r6,r7,r8,r9,er,eu,.box (lift (bz e)),e5,.loop f N sl ps ca cb (bif a then .ready else .done) (bif a then none else some .ret)]) (ah 76 1) (HT p e r0 r1 r2 r3 r4 r5 r6 r7 r8 r9 er eu e5 f N sl ps ca cb (j+1))):∀ i,i<=(e.frames.get j).vars.n->(cO (λi=>p ((e.frames.get j).vars.get i)) ((e.frames.get j).vars.n-i) i&&(cO (λj=>dB (λi=>p ((e.frames.get j).vars.get i)) (e.frames.get j).vars.n) (e.frames.n-(j+1)) (j+1)&&dB (λj=>dB (λi=>p ((e.aC.get j).items.get i)) (e.aC.get j).items.n) e.aC.n))=a->ag 76 15 (Go.V.Ends [r0,r1,r2,r3,r4,r5,r6,r7,r8,r9,er,eu,.box (lift (bz e)),e5,.loop f N sl ps ca cb .ready none] (.t []) [r0,r1,r2,r3,r4,r5,r6,r7,r8,r9,er,eu,.box (lift (bz e)),e5,.loop f N sl ps ca cb (bif a then .ready else .done) (bif a then none else some .ret)]) (ah 76 4) (Og p e r0 r1 r2 r3 r4 r5 r6 r7 r8 r9 er eu e5 f N sl ps ca cb j i):=by
 have hV:(e.frames.get j).vars.n<=1000:=hS.vars j hj
 have hN:e.frames.n<=1000:=hS.frames
 refine bc (λi hi ih ha=>?_) (λha=>?_)
 .have q:(e.frames.get j).vars.n-i=((e.frames.get j).vars.n-(i+1))+1:=by omega
  rw [q] at ha
  refine aF (X:=Ji p) (stop:=rO) (Qv _ _ p e r0 r1 r2 r3 r4 r5 r6 r7 r8 r9 er eu e5 f N sl ps ca cb j i ?_)
  rw [dy hi (eA hV (by decide))]
  refine aq (λh=>?_) (λh=>(dec_lt h hi).elim)
  refine ay (aP hi) ⟨hy _ _,?_⟩
  refine aq (λh1=>?_) (λh1=>?_)
  .have h1:=(Bool.not_eq_true' _).mp h1
   rw [h1]
   rw [fp (p:=(λi=>p ((e.frames.get j).vars.get i))) h1,Bool.false_and] at ha
   subst ha
   refine ⟨15,aH rfl,aH rfl,rfl,rfl,bf.refl _,?_⟩
   repeat' (first|exact trivial|refine ⟨.inl (.inl rfl),?_⟩|refine ⟨.inl (.inr ⟨_,_,_,_,_,_,_,_,_,_,rfl,rfl⟩),?_⟩|done)
  .have h1:=(Bool.not_eq_false' _▸h1:p _=true)
   rw [h1]
   rw [gV (p:=(λi=>p ((e.frames.get j).vars.get i))) h1] at ha
   exact ih ha
 .rw [Nat.sub_self] at ha
  refine aF (X:=Ji p) (stop:=rO) (Qv _ _ p e r0 r1 r2 r3 r4 r5 r6 r7 r8 r9 er eu e5 f N sl ps ca cb j _ ?_)
  rw [dy hj (eA hN (by decide))]
  refine aq (λh=>cj h) (λh=>?_)
  exact ag.cut 15 (bl _) (aH rfl) rfl rfl hw (end_ (by simpa [cO] using ha))
theorem Ww (hy:∀ (n:Int) (x:ae),lW lE Try.prog 14 [int n] [r0,r1,r2,r3,r4,r5,r6,r7,r8,r9,er,eu,.box (lift (bz e)),e5,.loop f N sl ps ca cb .ready none,x] (bool (p n)) [r0,r1,r2,r3,r4,r5,r6,r7,r8,r9,er,eu,.box (lift (bz e)),e5,.loop f N sl ps ca cb (bif p n then .ready else .done) (bif p n then none else some .ret),x]) (hS:jd e) (hw:eh 15 [r0,r1,r2,r3,r4,r5,r6,r7,r8,r9,er,eu,.box (lift (bz e)),e5,.loop f N sl ps ca cb .ready none]) (a:Bool):∀ j,j<=e.frames.n->(cO (λj=>dB (λi=>p ((e.frames.get j).vars.get i)) (e.frames.get j).vars.n) (e.frames.n-j) j&&dB (λj=>dB (λi=>p ((e.aC.get j).items.get i)) (e.aC.get j).items.n) e.aC.n)=a->ag 76 15 (Go.V.Ends [r0,r1,r2,r3,r4,r5,r6,r7,r8,r9,er,eu,.box (lift (bz e)),e5,.loop f N sl ps ca cb .ready none] (.t []) [r0,r1,r2,r3,r4,r5,r6,r7,r8,r9,er,eu,.box (lift (bz e)),e5,.loop f N sl ps ca cb (bif a then .ready else .done) (bif a then none else some .ret)]) (ah 76 1) (HT p e r0 r1 r2 r3 r4 r5 r6 r7 r8 r9 er eu e5 f N sl ps ca cb j):=by
 have hN:e.frames.n<=1000:=hS.frames
 refine bc (λj hj ih ha=>?_) (λha=>?_)
 .have q:e.frames.n-j=(e.frames.n-(j+1))+1:=by omega
  rw [q] at ha
  refine aF (X:=Ji p) (stop:=rO) (Ov _ _ p e r0 r1 r2 r3 r4 r5 r6 r7 r8 r9 er eu e5 f N sl ps ca cb j ?_)
  refine aq (λh=>?_) (λh=>(dec_lt h hj).elim)
  refine ay (aP hj) ?_
  refine VH p e r0 r1 r2 r3 r4 r5 r6 r7 r8 r9 er eu e5 f N sl ps ca cb hy hS hw a j hj (λq=>ih q) 0 (bn _) ?_
  grind [cO,dB]
 .rw [Nat.sub_self] at ha
  refine aF (X:=Ji p) (stop:=rO) (Ov _ _ p e r0 r1 r2 r3 r4 r5 r6 r7 r8 r9 er eu e5 f N sl ps ca cb _ ?_)
  refine aq (λh=>cj h) (λh=>?_)
  exact Q5 p e r0 r1 r2 r3 r4 r5 r6 r7 r8 r9 er eu e5 f N sl ps ca cb hy hS hw a 0 (bn _) (by simpa [cO,dB] using ha)
theorem Y3 (hy:∀ (n:Int) (x:ae),lW lE Try.prog 14 [int n] [r0,r1,r2,r3,r4,r5,r6,r7,r8,r9,er,eu,.box (lift (bz e)),e5,.loop f N sl ps ca cb .ready none,x] (bool (p n)) [r0,r1,r2,r3,r4,r5,r6,r7,r8,r9,er,eu,.box (lift (bz e)),e5,.loop f N sl ps ca cb (bif p n then .ready else .done) (bif p n then none else some .ret),x]) (hS:jd e) (hw:eh 15 [r0,r1,r2,r3,r4,r5,r6,r7,r8,r9,er,eu,.box (lift (bz e)),e5,.loop f N sl ps ca cb .ready none]):LC 76 [.c (.yl 14),.c (.rt 12 0 0)] [r0,r1,r2,r3,r4,r5,r6,r7,r8,r9,er,eu,.box (lift (bz e)),e5,.loop f N sl ps ca cb .ready none] (.t []) [r0,r1,r2,r3,r4,r5,r6,r7,r8,r9,er,eu,.box (lift (bz e)),e5,.loop f N sl ps ca cb (bif allM p e then .ready else .done) (bif allM p e then none else some .ret)]:=
 gM ay4 (aH (by kernel_rfl)) (cU (X:=Ji p) (stop:=rO) (ay6 _ _ p e r0 r1 r2 r3 r4 r5 r6 r7 r8 r9 er eu e5 f N sl ps ca cb (Ww p e r0 r1 r2 r3 r4 r5 r6 r7 r8 r9 er eu e5 f N sl ps ca cb hy hS hw (allM p e) 0 (bn _) (by unfold allM dB; rfl))))
end
open Go Go.V
def FV:aL:=[(3,.c (.rt 6 0 0),[]),(5,.c (.rt 8 0 0),[]),(6,.c (.rt 9 0 0),[]),(7,.c (.rt 11 0 0),[]),(110,.c (.fh 76 [12]),[])]
def Q0 (p:Bool):gr:={ F:=F8,S:=[14],B:=λ_ _ _=>p,R1:=λ_ _ _=>(.t [],[],[]),R2:=λ_ ds rs=>(.t [],[(14,ED false (aR rs 14))],[]) }
def jD (t:af) (k:Int) (v:List Int) (n:Int):Bool:=n == -1||(eW t n k && !((t.ins.get n.toNat).op==17 && !ez n v))
def kY (x:Sq dh):Nat->List Int
 | 0=>[]
 | j+1=>rP (x.get j).value (kY x j)
section
variable (aj:D->List ae->Prop) (L:LP) (QE:D->List ae->Prop) (p:Bool) (aA:ae) (t:af) (aB:ae) (e:ai) (aT:ae) (k n:Int) (bp r0 bP r1 bU r2:ae) (jN:af) (r3:ae) (yh:ai) (r4:ae) (Jv:Int) (r5:ae) (OE v:List Int) (j ER:Nat)
def J7:Bool := !(!eW t (e.aC.get j).value k||(ez (e.aC.get j).value (kY e.aC j)||((((e.aC.get j).items.n:Int)!=((e.aC.get j).names.n:Int))||(((t.ins.get (e.aC.get j).value.toNat).op != 17)||(((t.ins.get (e.aC.get j).value.toNat).n != (e.aC.get j).cls) || !eJ sC (t.ins.get (e.aC.get j).value.toNat).names (e.aC.get j).names)))))
def ku:Bool := !(decide ((e.frames.n:Int)<1)||(decide ((e.frames.n:Int)>6)||decide (e.back<0)))&&(dB (J7 t e k) e.aC.n&&(dB (λj=>LA (e.frames.get j)) e.frames.n&&allM (jD t k (kY e.aC e.aC.n)) e))
def yI:Nat->Bool:=λi=>Nat.beq i 5||Nat.beq i 15||Nat.beq i 20
theorem az1:Fn 52:={}
abbrev G7:Prop:=aj (bool false) [aA,aB,aT,bp,bP,bU,(.box (fX (jN) 1)),(.box (lift (bz (yh)))),(.box [(ci Jv)]),(.box [(.im (.v (.bool false)))])]
abbrev w9:gn:=(3,((.c (.rt 6 0 0)),[]))
abbrev wV:gn:=(4,((.c (.rt 7 0 0)),[]))
abbrev vU:gn:=(5,((.c (.rt 8 0 0)),[]))
abbrev vQ:gn:=(6,((.c (.rt 9 0 0)),[]))
abbrev vV:gn:=(7,((.c (.rt 11 0 0)),[]))
abbrev eb (aj:af):ae:=.box (fX (aj) 1)
abbrev dn:C:=.im (.v (.bool false))
theorem ax3 (h:br (decide ((↑e.1.1:Int)<1)) (G7 QE r0 r1 r2 r3 r4 r5 t e k) (br (decide ((↑e.1.1:Int)>6)) (G7 QE r0 r1 r2 r3 r4 r5 t e k) (br (decide (e.3<0)) (G7 QE r0 r1 r2 r3 r4 r5 t e k) (L (ah 52 5) ⟨[w9,wV,vU,vQ,vV,(31,((tS e),[])),(32,((iY e),[])),(33,((int 0),[]))],[r0,r1,r2,r3,r4,r5,(eb t),(dZ e),(.box [(ci k)]),(.box [dn]),(.set []),(.box [(.mp 10)])],[]⟩)))):fG (Q0 p) 52 yI L QE [yp t 1,Ir e,int k] [r0,r1,r2,r3,r4,r5]:=km h
def G8 (p:Bool) (t:af) (e:ai) (k:Int) (r0 r1 r2 r3 r4 r5:ae) (v:List Int) (j:Nat):VS:=⟨[(3,(.c (.rt 6 0 0)),[]),(4,(.c (.rt 7 0 0)),[]),(5,(.c (.rt 8 0 0)),[]),(6,(.c (.rt 9 0 0)),[]),(7,(.c (.rt 11 0 0)),[]),(31,(tS e),[]),(32,(iY e),[]),(33,int j,[])],[r0,r1,r2,r3,r4,r5,(eb t),(dZ e),(.box [(ci k)]),(.box [dn]),.set v,(.box [(.mp 10)])],[]⟩
abbrev GC:Prop:=aj (bool false) [aA,aB,aT,bp,bP,bU,(.box (fX (jN) 1)),(.box (lift (bz (yh)))),(.box [(ci Jv)]),(.box [(.im (.v (.bool false)))]),(.set OE),(.box [(.mp 10)]),(.box (lift (tT (yh.aC.2 ER))))]
abbrev G9:Prop:=aj (bool false) [aA,aB,aT,bp,bP,bU,(.box (fX (jN) 1)),(.box (lift (bz (yh)))),(.box [(ci Jv)]),(.box [(.im (.v (.bool false)))]),(.set OE),(.box [(.mp 10)]),(.box (lift (tT (yh.aC.2 ER)))),(.box (lift (b8 (jN.ins.2 (yh.aC.2 ER).1.toNat))))]
theorem Nh (h:br (decide ((↑j:Int)<(↑e.2.1:Int))) (nd (dm (↑j:Int) e.2.1) ((LC 51 [(.a (fX (t) 1)),(int ((e.aC.2 j).1)),(int k)] [r0,r1,r2,r3,r4,r5,(eb t),(dZ e),(.box [(ci k)]),(.box [dn]),(.set v),(.box [(.mp 10)]),(qH e j)] (bool (eW t (e.aC.2 j).1 k)) [r0,r1,r2,r3,r4,r5,(eb t),(dZ e),(.box [(ci k)]),(.box [dn]),(.set v),(.box [(.mp 10)]),(qH e j)]/\br (!eW t (e.aC.2 j).1 k) (GC QE r0 r1 r2 r3 r4 r5 t e k v j) (br (ez (e.aC.2 j).1 v) (GC QE r0 r1 r2 r3 r4 r5 t e k v j) (br ((↑(e.aC.2 j).4.1:Int)!=(↑(e.aC.2 j).3.1:Int)) (GC QE r0 r1 r2 r3 r4 r5 t e k v j) (nd (dm (e.aC.2 j).1 t.2.1) (br ((t.ins.2 (e.aC.2 j).1.toNat).1 != 17) (G9 QE r0 r1 r2 r3 r4 r5 t e k v j) (br ((t.ins.2 (e.aC.2 j).1.toNat).5 != (e.aC.2 j).2) (G9 QE r0 r1 r2 r3 r4 r5 t e k v j) ((LC 53 [(.c (.im (.sl 1 ((t.ins.2 (e.aC.2 j).1.toNat).8.1) (λi=>dF ((t.ins.get (e.aC.get (↑j:Int).toNat).value.toNat).names.2 i))))),(.c (.im (.sl 1 ((e.aC.2 j).3.1) (λi=>dF ((e.aC.get (↑j:Int).toNat).names.2 i)))))] [] (bool (eJ sC (t.ins.2 (e.aC.2 j).1.toNat).8 (e.aC.2 j).3)) []/\br (!eJ sC (t.ins.2 (e.aC.2 j).1.toNat).8 (e.aC.2 j).3) (G9 QE r0 r1 r2 r3 r4 r5 t e k v j) (L (ah 52 5) ⟨[w9,wV,vU,vQ,vV,(31,((tS e),[])),(32,((iY e),[])),(33,((int (IntKind.i64.wrap ((↑j:Int)+1))),[]))],[r0,r1,r2,r3,r4,r5,(eb t),(dZ e),(.box [(ci k)]),(.box [dn]),(.set (rP (e.aC.2 j).1 v)),(.box [(.mp 10)]),(qH e j),(.box (lift (b8 (t.ins.2 (e.aC.2 j).1.toNat))))],[]⟩))))))))))) (L (ah 52 15) ⟨[w9,wV,vU,vQ,vV,(88,((xJ e),[])),(89,((je e),[])),(90,((int 0),[]))],[r0,r1,r2,r3,r4,r5,(eb t),(dZ e),(.box [(ci k)]),(.box [dn]),(.set v),(.box [(.mp 10)])],[]⟩)):cW (Q0 p) 52 yI L QE 5 (G8 p t e k r0 r1 r2 r3 r4 r5 v j):=km h
def Cr (p:Bool) (t:af) (e:ai) (k:Int) (r0 r1 r2 r3 r4 r5:ae) (v:List Int) (j:Nat):VS:=⟨[(3,(.c (.rt 6 0 0)),[]),(4,(.c (.rt 7 0 0)),[]),(5,(.c (.rt 8 0 0)),[]),(6,(.c (.rt 9 0 0)),[]),(7,(.c (.rt 11 0 0)),[]),(88,(xJ e),[]),(89,(je e),[]),(90,int j,[])],[r0,r1,r2,r3,r4,r5,(eb t),(dZ e),(.box [(ci k)]),(.box [dn]),.set v,(.box [(.mp 10)])],[]⟩
abbrev HJ:Prop:=aj (bool false) [aA,aB,aT,bp,bP,bU,(.box (fX (jN) 1)),(.box (lift (bz (yh)))),(.box [(ci Jv)]),(.box [(.im (.v (.bool false)))]),(.set OE),(.box [(.mp 10)]),(.box (lift (la (yh.frames.2 ER))))]
theorem IZ (h:br (decide ((↑j:Int)<(↑e.1.1:Int))) (nd (dm (↑j:Int) e.1.1) (br (decide ((e.frames.2 j).1<0)) (HJ QE r0 r1 r2 r3 r4 r5 t e k v j) (br (decide ((e.frames.2 j).2<0)) (HJ QE r0 r1 r2 r3 r4 r5 t e k v j) (br (decide ((↑(e.frames.2 j).3.1:Int)>24)) (HJ QE r0 r1 r2 r3 r4 r5 t e k v j) (L (ah 52 15) ⟨[w9,wV,vU,vQ,vV,(88,((xJ e),[])),(89,((je e),[])),(90,((int (IntKind.i64.wrap ((↑j:Int)+1))),[]))],[r0,r1,r2,r3,r4,r5,(eb t),(dZ e),(.box [(ci k)]),(.box [dn]),(.set v),(.box [(.mp 10)]),(wU e j)],[]⟩))))) (L (ah 52 20) ⟨[w9,wV,vU,vQ,vV,(88,((xJ e),[])),(89,((je e),[])),(90,((int (↑j:Int)),[])),(91,((bool false),[]))],[r0,r1,r2,r3,r4,r5,(eb t),(dZ e),(.box [(ci k)]),(.box [dn]),(.set v),(.box [(.mp 10)])],[]⟩)):cW (Q0 p) 52 yI L QE 15 (Cr p t e k r0 r1 r2 r3 r4 r5 v j):=km h
def Bq (p:Bool) (t:af) (e:ai) (k:Int) (r0 r1 r2 r3 r4 r5:ae) (v:List Int):VS:=⟨[(3,(.c (.rt 6 0 0)),[]),(4,(.c (.rt 7 0 0)),[]),(5,(.c (.rt 8 0 0)),[]),(6,(.c (.rt 9 0 0)),[]),(7,(.c (.rt 11 0 0)),[])],[r0,r1,r2,r3,r4,r5,(eb t),(dZ e),(.box [(ci k)]),(.box [dn]),.set v,(.box [(.mp 10)])],[]⟩
abbrev Pb (aj aA aB aT bp bP:ae) (bU:af) (jN:ai) (yh:Int) (Jv:List Int):List ae:=[aj,aA,aB,aT,bp,bP,(eb bU),(dZ jN),(.box [(ci yh)]),(.box [dn]),(.set Jv),(.box [(.mp 10)]),(dZ jN),.kF,(.loop 52 137 [(3,((.c (.rt 6 0 0)),[])),(5,((.c (.rt 8 0 0)),[])),(6,((.c (.rt 9 0 0)),[])),(7,((.c (.rt 11 0 0)),[])),(110,((.c (.fh 76 [12])),[]))] [111] (pw 52) (pg 52) .ready none)]
theorem RN (h:(LC 65 [(.a (lift (bz (e))))] [r0,r1,r2,r3,r4,r5,(eb t),(dZ e),(.box [(ci k)]),(.box [dn]),(.set v),(.box [(.mp 10)])] (.c (.fh 76 [12])) [r0,r1,r2,r3,r4,r5,(eb t),(dZ e),(.box [(ci k)]),(.box [dn]),(.set v),(.box [(.mp 10)]),(dZ e)]/\br (p) ((LC 76 [(.c (.yl 14)),(.c (.rt 12 0 0))] (Pb r0 r1 r2 r3 r4 r5 t e k v) (.t []) (Pb r0 r1 r2 r3 r4 r5 t e k v)/\QE (bool true) [r0,r1,r2,r3,r4,r5,(.box (fX (t) 1)),(.box (lift (bz (e)))),(.box [(ci k)]),(.box [(.im (.v (.bool true)))]),(.set v),(.box [(.mp 10)]),(.box (lift (bz (e)))),.dead,.dead])) ((LC 76 [(.c (.yl 14)),(.c (.rt 12 0 0))] (Pb r0 r1 r2 r3 r4 r5 t e k v) (.t []) [r0,r1,r2,r3,r4,r5,(eb t),(dZ e),(.box [(ci k)]),(.box [dn]),(.set v),(.box [(.mp 10)]),(dZ e),.kF,(.loop 52 137 [(3,((.c (.rt 6 0 0)),[])),(5,((.c (.rt 8 0 0)),[])),(6,((.c (.rt 9 0 0)),[])),(7,((.c (.rt 11 0 0)),[])),(110,((.c (.fh 76 [12])),[]))] [111] (pw 52) (pg 52) .done (some .ret))]/\QE (bool false) [r0,r1,r2,r3,r4,r5,(.box (fX (t) 1)),(.box (lift (bz (e)))),(.box [(ci k)]),(.box [(.im (.v (.bool false)))]),(.set v),(.box [(.mp 10)]),(.box (lift (bz (e)))),.dead,.dead])))):cW (Q0 p) 52 yI L QE 20 (Bq p t e k r0 r1 r2 r3 r4 r5 v):=km h
abbrev Ox:ae:=.loop 52 137 [(3,((.c (.rt 6 0 0)),[])),(5,((.c (.rt 8 0 0)),[])),(6,((.c (.rt 9 0 0)),[])),(7,((.c (.rt 11 0 0)),[])),(110,((.c (.fh 76 [12])),[]))] [111] (pw 52) (pg 52) .busy none
abbrev LV (ER:ae):Prop:=aj (bool false) [aA,aB,aT,bp,bP,bU,(.box (fX (jN) 1)),(.box (lift (bz (yh)))),(.box [(ci Jv)]),(.box [(.im (.v (.bool false)))]),(.set OE),(.box [(.mp 10)]),(.box (lift (bz (yh)))),.kF,(.loop 52 137 [(3,((.c (.rt 6 0 0)),[])),(5,((.c (.rt 8 0 0)),[])),(6,((.c (.rt 9 0 0)),[])),(7,((.c (.rt 11 0 0)),[])),(110,((.c (.fh 76 [12])),[]))] [111] (pw 52) (pg 52) .done (some .ret)),ER]
abbrev Ms (ER:ae):Prop:=aj (bool true) [aA,aB,aT,bp,bP,bU,(.box (fX (jN) 1)),(.box (lift (bz (yh)))),(.box [(ci Jv)]),(.box [(.im (.v (.bool false)))]),(.set OE),(.box [(.mp 10)]),(.box (lift (bz (yh)))),.kF,(.loop 52 137 [(3,((.c (.rt 6 0 0)),[])),(5,((.c (.rt 8 0 0)),[])),(6,((.c (.rt 9 0 0)),[])),(7,((.c (.rt 11 0 0)),[])),(110,((.c (.fh 76 [12])),[]))] [111] (pw 52) (pg 52) .ready none),ER]
theorem ZC (r0 r1 r2 r3 r4 r5:ae) (x:ae) (h:br (n != -1) ((LC 51 [(.a (fX (t) 1)),(int n),(int k)] [r0,r1,r2,r3,r4,r5,(eb t),(dZ e),(.box [(ci k)]),(.box [dn]),(.set v),(.box [(.mp 10)]),(dZ e),.kF,Ox,x] (bool (eW t n k)) [r0,r1,r2,r3,r4,r5,(eb t),(dZ e),(.box [(ci k)]),(.box [dn]),(.set v),(.box [(.mp 10)]),(dZ e),.kF,Ox,x]/\br (!eW t n k) (LV QE r0 r1 r2 r3 r4 r5 t e k v x) (nd (dm n t.2.1) (br ((t.ins.2 n.toNat).1==17) (br (!ez n v) (LV QE r0 r1 r2 r3 r4 r5 t e k v x) (Ms QE r0 r1 r2 r3 r4 r5 t e k v x)) (Ms QE r0 r1 r2 r3 r4 r5 t e k v x))))) (Ms QE r0 r1 r2 r3 r4 r5 t e k v x)):vcY X8 52 14 QE ((111,int n,[])::FV) [r0,r1,r2,r3,r4,r5,.box (fX t 1),.box (lift (bz e)),.box [.im (iI k)],.box [.im (iB false)],.set v,.box [.mp 10],.box (lift (bz e)),.kF,.loop 52 137 FV [111] (pw 52) (pg 52) .ready none,x]:=km h
theorem y93 (r0 r1 r2 r3 r4 r5:ae) (x:ae) (hk:k<=t.ins.n):lW lE Try.prog 14 [int n] [r0,r1,r2,r3,r4,r5,.box (fX t 1),.box (lift (bz e)),.box [.im (iI k)],.box [.im (iB false)],.set v,.box [.mp 10],.box (lift (bz e)),.kF,.loop 52 137 FV [111] (pw 52) (pg 52) .ready none,x] (bool (jD t k v n)) [r0,r1,r2,r3,r4,r5,.box (fX t 1),.box (lift (bz e)),.box [.im (iI k)],.box [.im (iB false)],.set v,.box [.mp 10],.box (lift (bz e)),.kF,.loop 52 137 FV [111] (pw 52) (pg 52) (bif jD t k v n then .ready else .done) (bif jD t k v n then none else some .ret),x]:=by
 refine Uf (X:=X8) (f:=52) (vf:=FV) (zN:=(111,int n,[])::FV) (ps:=[111]) (by kernel_rfl) (by kernel_rfl) (ZC _ t e k n v r0 r1 r2 r3 r4 r5 x ?_)
 refine aq (λh=>?_) (λh=>?_)
 .have h:(n == -1)=false:=(Bool.not_eq_true' _).mp h
  refine ⟨Mu _ _ _ _ _ _ _ _ _ _ _ _ _ _ _ _ _ _ _ hk,?_⟩
  refine aq (λh1=>?_) (λh1=>ay (vn (by simpa using h1) hk) ?_)
  .have e1:jD t k v n=false:=by grind [jD]
   rw [e1]
   exact ⟨16,aH rfl,aH rfl,rfl,rfl,bf.refl _,by repeat' (first|exact trivial|refine ⟨.inl (.inl rfl),?_⟩|refine ⟨.inl (.inr ⟨_,_,_,_,_,_,_,_,_,_,rfl,rfl⟩),?_⟩|done)⟩
  .have h1:eW t n k=true:=by simpa using h1
   refine aq (λh2=>aq (λh3=>?_) (λh3=>?_)) (λh2=>?_)
   .have e1:jD t k v n=false:=by grind [jD]
    rw [e1]
    exact ⟨16,aH rfl,aH rfl,rfl,rfl,bf.refl _,by repeat' (first|exact trivial|refine ⟨.inl (.inl rfl),?_⟩|refine ⟨.inl (.inr ⟨_,_,_,_,_,_,_,_,_,_,rfl,rfl⟩),?_⟩|done)⟩
   .have e1:jD t k v n=true:=by grind [jD]
    rw [e1]
    exact ⟨16,aH rfl,aH rfl,rfl,rfl,bf.refl _,by repeat' (first|exact trivial|refine ⟨.inl (.inl rfl),?_⟩|refine ⟨.inl (.inr ⟨_,_,_,_,_,_,_,_,_,_,rfl,rfl⟩),?_⟩|done)⟩
   .have e1:jD t k v n=true:=by grind [jD]
    rw [e1]
    exact ⟨16,aH rfl,aH rfl,rfl,rfl,bf.refl _,by repeat' (first|exact trivial|refine ⟨.inl (.inl rfl),?_⟩|refine ⟨.inl (.inr ⟨_,_,_,_,_,_,_,_,_,_,rfl,rfl⟩),?_⟩|done)⟩
 .have h:(n == -1)=true:=(Bool.not_eq_false' _▸h:(n == -1)=true)
  have e1:jD t k v n=true:=by grind [jD]
  rw [e1]
  exact ⟨16,aH rfl,aH rfl,rfl,rfl,bf.refl _,by repeat' (first|exact trivial|refine ⟨.inl (.inl rfl),?_⟩|refine ⟨.inl (.inr ⟨_,_,_,_,_,_,_,_,_,_,rfl,rfl⟩),?_⟩|done)⟩
theorem SY (hk:k<=t.ins.n) (hS:jd e) (hw:eh 6 [r0,r1,r2,r3,r4,r5]) (v:List Int) (a:Bool) (hp:p=allM (jD t k v) e) (ha:p=a):ag 52 6 (Go.V.Ends [r0,r1,r2,r3,r4,r5] (bool a) [r0,r1,r2,r3,r4,r5]) (ah 52 20) (Bq p t e k r0 r1 r2 r3 r4 r5 v):=by
 have c:=Y3 (jD t k v) e (r0) (r1) (r2) (r3) (r4) (r5) (.box (fX t 1)) (.box (lift (bz e))) (.box [.im (iI k)]) (.box [.im (iB false)]) (.set v) (.box [.mp 10]) (.kF) 52 137 FV [111] (pw 52) (pg 52) (λn x=>y93 t e k n v r0 r1 r2 r3 r4 r5 x hk) hS ⟨(hw.1).mono (by decide),(hw.2.1).mono (by decide),(hw.2.2.1).mono (by decide),(hw.2.2.2.1).mono (by decide),(hw.2.2.2.2.1).mono (by decide),(hw.2.2.2.2.2.1).mono (by decide),.inl rfl,.inl rfl,.inl rfl,.inl rfl,.inl rfl,.inl rfl,.inl rfl,.inl rfl,rE rfl,trivial⟩
 refine aF (X:=Q0 p) (stop:=yI) (RN _ _ p t e k r0 r1 r2 r3 r4 r5 v ⟨YT _ _ _ _ _ _ _ _ _ _ _ _ _,?_⟩)
 rw [<- hp] at c
 refine aq (λh=>⟨?_,?_⟩) (λh=>⟨?_,?_⟩)
 .rw [h] at c; exact c
 .rw [<- ha,h]; exact ⟨6,aH rfl,aH rfl,rfl,rfl,bf.refl _,bm _ _⟩
 .rw [h] at c; exact c
 .rw [<- ha,h]; exact ⟨6,aH rfl,aH rfl,rfl,rfl,bf.refl _,bm _ _⟩
theorem Sx (hk:k<=t.ins.n) (hS:jd e) (hw:eh 6 [r0,r1,r2,r3,r4,r5]) (v:List Int) (a:Bool) (hN:e.frames.n<=6) (hp:p=allM (jD t k v) e):∀ j,j<=e.frames.n->(cO (λj=>LA (e.frames.get j)) (e.frames.n-j) j&&p)=a->ag 52 6 (Go.V.Ends [r0,r1,r2,r3,r4,r5] (bool a) [r0,r1,r2,r3,r4,r5]) (ah 52 15) (Cr p t e k r0 r1 r2 r3 r4 r5 v j):=by
 refine bc (λj hj ih ha=>?_) (λha=>?_)
 .have q:e.frames.n-j=(e.frames.n-(j+1))+1:=by omega
  rw [q] at ha
  have no:LA (e.frames.get j)=false->a=false:=λq=>by grind [fp]
  have go:LA (e.frames.get j)=true->ag 52 6 (Go.V.Ends [r0,r1,r2,r3,r4,r5] (bool a) [r0,r1,r2,r3,r4,r5]) (ah 52 15) (Cr p t e k r0 r1 r2 r3 r4 r5 v (j+1)):=λq=>by grind [gV]
  refine aF (X:=Q0 p) (stop:=yI) (IZ _ _ p t e k r0 r1 r2 r3 r4 r5 v j ?_)
  rw [dy hj (eA hN (by decide))]
  refine aq (λh=>?_) (λh=>(dec_lt h hj).elim)
  refine ay (aP hj) ?_
  refine aq (λh1=>?_) (λh1=>aq (λh2=>?_) (λh2=>aq (λh3=>?_) (λh3=>?_)))
  .rw [no (by grind [LA])]; exact ⟨6,aH rfl,aH rfl,rfl,rfl,bf.refl _,bm _ _⟩
  .rw [no (by grind [LA])]; exact ⟨6,aH rfl,aH rfl,rfl,rfl,bf.refl _,bm _ _⟩
  .rw [no (by grind [LA])]; exact ⟨6,aH rfl,aH rfl,rfl,rfl,bf.refl _,bm _ _⟩
  .refine ag.cut 12 (aH rfl) (aH rfl) rfl rfl ⟨(hw.1).mono (by decide),(hw.2.1).mono (by decide),(hw.2.2.1).mono (by decide),(hw.2.2.2.1).mono (by decide),(hw.2.2.2.2.1).mono (by decide),(hw.2.2.2.2.2.1).mono (by decide),.inl rfl,.inl rfl,.inl rfl,.inl rfl,.inl rfl,.inl rfl,trivial⟩ (go ?_)
   grind [LA]
 .rw [Nat.sub_self] at ha
  refine aF (X:=Q0 p) (stop:=yI) (IZ _ _ p t e k r0 r1 r2 r3 r4 r5 v _ ?_)
  refine aq (λh=>cj h) (λh=>?_)
  exact ag.lr (Bq p t e k r0 r1 r2 r3 r4 r5 v) (SY p t e k r0 r1 r2 r3 r4 r5 hk hS hw v a hp (by simpa [cO] using ha))
theorem Wc (hk:k<=t.ins.n) (hS:jd e) (hw:eh 6 [r0,r1,r2,r3,r4,r5]) (a:Bool) (hN:e.frames.n<=6) (hp:p=allM (jD t k (kY e.aC e.aC.n)) e):∀ j,j<=e.aC.n->(cO (J7 t e k) (e.aC.n-j) j&&(dB (λj=>LA (e.frames.get j)) e.frames.n&&p))=a->ag 52 6 (Go.V.Ends [r0,r1,r2,r3,r4,r5] (bool a) [r0,r1,r2,r3,r4,r5]) (ah 52 5) (G8 p t e k r0 r1 r2 r3 r4 r5 (kY e.aC j) j):=by
 have hO:=hS.aC
 refine bc (λj hj ih ha=>?_) (λha=>?_)
 .have q:e.aC.n-j=(e.aC.n-(j+1))+1:=by omega
  rw [q] at ha
  have no:J7 t e k j=false->a=false:=λq=>by rw [fp q,Bool.false_and] at ha; exact ha.symm
  have go:J7 t e k j=true->ag 52 6 (Go.V.Ends [r0,r1,r2,r3,r4,r5] (bool a) [r0,r1,r2,r3,r4,r5]) (ah 52 5) (G8 p t e k r0 r1 r2 r3 r4 r5 (kY e.aC (j+1)) (j+1)):=λq=>by rw [gV q] at ha; exact ih ha
  refine aF (X:=Q0 p) (stop:=yI) (Nh _ _ p t e k r0 r1 r2 r3 r4 r5 (kY e.aC j) j ?_)
  rw [dy hj (eA hO (by decide))]
  refine aq (λh=>?_) (λh=>(dec_lt h hj).elim)
  refine ay (aP hj) ⟨NQ _ _ _ _ _ _ _ _ _ _ _ _ _ _ _ _ hk,?_⟩
  refine aq (λh1=>?_) (λh1=>?_)
  .rw [no (by grind [J7])]; exact ⟨6,aH rfl,aH rfl,rfl,rfl,bf.refl _,bm _ _⟩
  have h1:eW t (e.aC.get j).value k=true:=by simpa using h1
  refine aq (λh2=>?_) (λh2=>?_)
  .rw [no (by grind [J7])]; exact ⟨6,aH rfl,aH rfl,rfl,rfl,bf.refl _,bm _ _⟩
  have h2:ez (e.aC.get j).value (kY e.aC j)=false:=h2
  refine aq (λh3=>?_) (λh3=>ay (vn h1 hk) ?_)
  .rw [no (by grind [J7])]; exact ⟨6,aH rfl,aH rfl,rfl,rfl,bf.refl _,bm _ _⟩
  have h3:(((e.aC.get j).items.n:Int)!=((e.aC.get j).names.n:Int))=false:=h3
  refine aq (λh4=>?_) (λh4=>?_)
  .rw [no (by grind [J7])]; exact ⟨6,aH rfl,aH rfl,rfl,rfl,bf.refl _,bm _ _⟩
  have h4:((t.ins.get (e.aC.get j).value.toNat).op != 17)=false:=h4
  refine aq (λh5=>?_) (λh5=>⟨Uv _ _,?_⟩)
  .rw [no (by grind [J7])]; exact ⟨6,aH rfl,aH rfl,rfl,rfl,bf.refl _,bm _ _⟩
  have h5:((t.ins.get (e.aC.get j).value.toNat).n != (e.aC.get j).cls)=false:=h5
  refine aq (λh6=>?_) (λh6=>?_)
  .rw [no (by grind [J7])]; exact ⟨6,aH rfl,aH rfl,rfl,rfl,bf.refl _,bm _ _⟩
  have h6:(!eJ sC (t.ins.get (e.aC.get j).value.toNat).names (e.aC.get j).names)=false:=h6
  refine ag.cut 12 (aH rfl) (aH rfl) rfl rfl ⟨(hw.1).mono (by decide),(hw.2.1).mono (by decide),(hw.2.2.1).mono (by decide),(hw.2.2.2.1).mono (by decide),(hw.2.2.2.2.1).mono (by decide),(hw.2.2.2.2.2.1).mono (by decide),.inl rfl,.inl rfl,.inl rfl,.inl rfl,.inl rfl,.inl rfl,trivial⟩ (go ?_)
  grind [J7]
 .rw [Nat.sub_self] at ha
  refine aF (X:=Q0 p) (stop:=yI) (Nh _ _ p t e k r0 r1 r2 r3 r4 r5 (kY e.aC _) _ ?_)
  refine aq (λh=>cj h) (λh=>?_)
  exact Sx p t e k r0 r1 r2 r3 r4 r5 hk hS hw _ a hN hp 0 (bn _) (by simpa [cO,dB] using ha)
theorem ac1 (hk:k<=t.ins.n) (hS:jd e) (hw:eh 6 [r0,r1,r2,r3,r4,r5]):LC 52 [yp t 1,Ir e,int k] [r0,r1,r2,r3,r4,r5] (bool (ku t e k)) [r0,r1,r2,r3,r4,r5]:=by
 refine gM az1 (aH (by kernel_rfl)) (cU (X:=Q0 (allM (jD t k (kY e.aC e.aC.n)) e)) (stop:=yI) (ax3 _ _ (allM (jD t k (kY e.aC e.aC.n)) e) t e k r0 r1 r2 r3 r4 r5 ?_))
 refine aq (λh1=>?_) (λh1=>aq (λh2=>?_) (λh2=>aq (λh3=>?_) (λh3=>?_)))
 .rw [show ku t e k=false from by grind [ku]]; exact ⟨6,aH rfl,aH rfl,rfl,rfl,bf.refl _,bm _ _⟩
 .rw [show ku t e k=false from by grind [ku]]; exact ⟨6,aH rfl,aH rfl,rfl,rfl,bf.refl _,bm _ _⟩
 .rw [show ku t e k=false from by grind [ku]]; exact ⟨6,aH rfl,aH rfl,rfl,rfl,bf.refl _,bm _ _⟩
 .have hN:e.frames.n<=6:=by grind
  refine Wc _ t e k r0 r1 r2 r3 r4 r5 hk hS hw _ hN rfl 0 (bn _) ?_
  grind [ku,dB]
end
open Go Go.V
section
variable (t:af) (l:List Int) (k:Nat)
def b3:Bool := !(ib (t.ins.get k)!=((k:Int)==(t.ins.n:Int)-1))&&(a8 (t.ins.get k) && !((t.ins.get k).once && !eV (t.ins.get k).op [2,3,4,5,6,7,8,9,10,12,14]))
def b7:Bool := !((t.ins.get k).op==1&&(decide ((k:Int)≥(mM t.ins:Int))||(decide ((k:Int)>0)&&decide ((t.ins.get k).k.n<=(t.ins.get (k-1)).k.n))))
def b9:Bool := !((t.ins.get k).op==20&&(((t.ins.get k).args.n:Int)!=(mM t.ins:Int)))
def QT:Bool := !decide ((t.ins.get k).exit < -1)&&(!decide ((t.ins.get k).exit≥(t.aa.n:Int))&&(!(decide ((t.ins.get k).exit≥0) && !En (t.ins.get k).op) && !(decide ((t.ins.get k).exit<0)&&eV (t.ins.get k).op [5,6,7,8,9,15,18,21])))
def Ng:Bool×List Int:=bif decide ((t.ins.get k).exit<0) then (true,l) else bif ez (t.ins.get k).exit l then (false,l) else (ku t (t.aa.get (t.ins.get k).exit.toNat) k,rP (t.ins.get k).exit l)
def o13:Bool×List Int:=bif LI t k then Ng t l k else (false,l)
def OZ:Bool×List Int:=bif QT t k then o13 t l k else (false,l)
def o9:Bool×List Int:=bif b9 t k then OZ t l k else (false,l)
def o7:Bool×List Int:=bif b7 t k then o9 t l k else (false,l)
def o3:Bool×List Int:=bif b3 t k then o7 t l k else (false,l)
end
def Km (x:Option ae):List Int:=match x with
 | some (.set l)=>l
 | _=>[]
def F9L:wA:=[
 (52,λds rs=>(bool (ku (ff ds 0) (US ds 1) (aI ds 2)),[],[])),
 (27,λds rs=>(bool (o3 (ff ds 0) (Km (aR rs 1)) (aI ds 1).toNat).1,[(1,.set (o3 (ff ds 0) (Km (aR rs 1)) (aI ds 1).toNat).2)],[]))]
def F9:=ext F8 F9L
def zy:gr:={ F:=F9,S:=[1] }
def qk:Nat->Bool:=λi=>Nat.beq i 3||Nat.beq i 7||Nat.beq i 9||Nat.beq i 11||Nat.beq i 13||Nat.beq i 14
theorem ax7:Fn 27:={}
abbrev gS (aj:Nat):D:=int (↑aj:Int)
abbrev js (aj:Nat):gn:=(1,((gS aj),[]))
abbrev lj (aj:af):D:=int ((↑(mM aj.2):Int))
abbrev rV:gn:=(3,((.c (.rt 3 0 0)),[]))
abbrev og:gn:=(7,((.c (.rt 4 0 0)),[]))
section
variable (aj:af) (L:LP) (aA:Nat) (QE:D->List ae->Prop) (t:af) (r0 r2:ae) (l:List Int) (k j:Nat)
abbrev na:ae:=.box (lift (b8 (aj.ins.2 aA)))
abbrev jt (aj:ae) (aA:List Int) (aB:ae) (aT:af) (bp:Nat):List ae:=[aj,(.set aA),aB,(eb aT),(na aT bp)]
theorem aw3 (h:nd (dm (↑k:Int) t.2.1) (L (ah 27 3) ⟨[(js k),(2,((lj t),[])),rV,og,(8,((bool ((↑k:Int)==IntKind.i64.wrap ((↑t.2.1:Int)-1))),[]))],(jt r0 l r2 t k),[]⟩)):fG zy 27 qk L QE [yp t 1,int k,int (mM t.ins)] [r0,.set l,r2]:=km h
abbrev nP (aj:Nat):gn:=(1,(gS aj),[])
abbrev s9:gn:=(3,(.c (.rt 3 0 0)),[])
abbrev tA:gn:=(7,(.c (.rt 4 0 0)),[])
def Px  : VS:=⟨[(nP k),(2,(lj t),[]),s9,tA,(8,(bool ((↑k:Int)==IntKind.i64.wrap ((↑t.2.1:Int)-1))),[])],(jt r0 l r2 t k),[]⟩
abbrev kV (aj:D->List ae->Prop) (aA:ae) (aB:List Int) (aT:ae) (bp:af) (bP:Nat):Prop:=aj (bool false) [aA,(.set aB),aT,(.box (fX (bp) 1)),(.box (lift (b8 (bp.ins.2 bP))))]
abbrev mV:List D:=[(int ((aj.ins.2 aA).1))]
abbrev OI (aj:LP) (aA:Nat) (aB:af) (aT:ae) (bp:List Int) (bP:ae):Prop:=aj (ah 27 7) ⟨[(1,((int (↑aA:Int)),[])),(2,((int ((↑(mM aB.2):Int))),[])),(3,((.c (.rt 3 0 0)),[])),(7,((.c (.rt 4 0 0)),[])),(24,((bool false),[]))],(jt aT bp bP aB aA),[]⟩
abbrev Ue (aB:D->List ae->Prop) (aT:ae) (bp:List Int) (bP:ae) (bU:LP):Prop:=(LC 46 [(.a (lift (b8 (aj.ins.2 aA))))] [] (bool (a8 (aj.ins.2 aA))) []/\br (!a8 (aj.ins.2 aA)) (kV aB aT bp bP aj aA) (br ((aj.ins.2 aA).11) ((LC 47 (mV aj aA) [] (bool (eV (aj.ins.2 aA).1 [2,3,4,5,6,7,8,9,10,12,14])) []/\br (!eV (aj.ins.2 aA).1 [2,3,4,5,6,7,8,9,10,12,14]) (kV aB aT bp bP aj aA) (OI bU aA aj aT bp bP))) (OI bU aA aj aT bp bP)))
theorem Vu (h:br ((t.ins.2 k).1==20) (br (!true==((↑k:Int)==IntKind.i64.wrap ((↑t.2.1:Int)-1))) (kV QE r0 l r2 t k) (Ue t k QE r0 l r2 L)) (br (!((t.ins.2 k).1==21)==((↑k:Int)==IntKind.i64.wrap ((↑t.2.1:Int)-1))) (kV QE r0 l r2 t k) (Ue t k QE r0 l r2 L))):cW zy 27 qk L QE 3 (Px t r0 r2 l k ):=km h
def xQ  : VS:=⟨[(nP k),(2,(lj t),[]),s9,tA],(jt r0 l r2 t k),[]⟩
abbrev Gs (aj:LP) (aA:Nat) (aB:af) (aT:ae) (bp:List Int) (bP:ae):Prop:=aj (ah 27 9) ⟨[(js aA),(2,((lj aB),[])),rV,og,(46,((bool false),[]))],(jt aT bp bP aB aA),[]⟩
theorem Wa (h:br ((t.ins.2 k).1==1) (br (decide ((↑k:Int)≥(↑(mM t.2):Int))) (kV QE r0 l r2 t k) (br (decide ((↑k:Int)>0)) (nd (dm (IntKind.i64.wrap ((↑k:Int)-1)) t.2.1) (br (decide ((t.ins.2 k).7.2<=(t.ins.2 (IntKind.i64.wrap ((↑k:Int)-1)).toNat).7.2)) (kV QE r0 l r2 t k) (Gs L k t r0 l r2))) (Gs L k t r0 l r2))) (Gs L k t r0 l r2)):cW zy 27 qk L QE 7 (xQ t r0 r2 l k ):=km h
def tJ  : VS:=⟨[(nP k),(2,(lj t),[]),s9,tA],(jt r0 l r2 t k),[]⟩
theorem W6 (h:br ((t.ins.2 k).1==20) (br ((↑(t.ins.2 k).6.1:Int)!=(↑(mM t.2):Int)) (kV QE r0 l r2 t k) (L (ah 27 11) ⟨[(js k),rV,og,(74,((bool false),[]))],(jt r0 l r2 t k),[]⟩)) (L (ah 27 11) ⟨[(js k),rV,og,(74,((bool false),[]))],(jt r0 l r2 t k),[]⟩)):cW zy 27 qk L QE 9 (tJ t r0 r2 l k ):=km h
def vu  : VS:=⟨[(nP k),s9,tA],(jt r0 l r2 t k),[]⟩
abbrev OC (aB:D->List ae->Prop) (aT:ae) (bp:List Int) (bP:ae) (bU:LP):Prop:=br (decide ((aj.ins.2 aA).10<0)) ((LC 49 (mV aj aA) [] (bool (eV (aj.ins.2 aA).1 [5,6,7,8,9,15,18,21])) []/\br (eV (aj.ins.2 aA).1 [5,6,7,8,9,15,18,21]) (kV aB aT bp bP aj aA) (bU (ah 27 13) ⟨[(js aA),rV,og,(85,((bool false),[]))],(jt aT bp bP aj aA),[]⟩))) (bU (ah 27 13) ⟨[(js aA),rV,og,(85,((bool false),[]))],(jt aT bp bP aj aA),[]⟩)
theorem R4 (h:br (decide ((t.ins.2 k).10 < -1)) (kV QE r0 l r2 t k) (br (decide ((t.ins.2 k).10≥(↑t.3.1:Int))) (kV QE r0 l r2 t k) (br (decide ((t.ins.2 k).10≥0)) ((LC 48 (mV t k) [] (bool (En (t.ins.2 k).1)) []/\br (!En (t.ins.2 k).1) (kV QE r0 l r2 t k) (OC t k QE r0 l r2 L))) (OC t k QE r0 l r2 L)))):cW zy 27 qk L QE 11 (vu t r0 r2 l k ):=km h
def vd  : VS:=⟨[(nP k),s9,tA],(jt r0 l r2 t k),[]⟩
abbrev Uo:D:=.c (.im (.sl 1 ((aV (aj.ins.2 aA)).1) (λi=>bF ((aV (JT [D.a (lift [iI (aj.ins.get aA).op,iI (aj.ins.get aA).a,iI (aj.ins.get aA).b,iI (aj.ins.get aA).c,iI (aj.ins.get aA).n,yr 1 bF (aj.ins.get aA).args,iI (aj.ins.get aA).k.kind,iI (aj.ins.get aA).k.n,iS (aj.ins.get aA).k.s,yr 1 dF (aj.ins.get aA).names,iI (aj.ins.get aA).place.fn,iI (aj.ins.get aA).place.line,iI (aj.ins.get aA).exit,iB (aj.ins.get aA).once])] 0)).2 i))))
theorem SM (h:(LC 50 [(.a (lift (b8 (t.ins.2 k))))] [] (Uo t k) []/\L (ah 27 14) ⟨[(js k),rV,og,(120,((Uo t k),[])),(121,((int ((↑(aV (t.ins.2 k)).1:Int))),[])),(122,((int 0),[]))],(jt r0 l r2 t k),[]⟩)):cW zy 27 qk L QE 13 (vd t r0 r2 l k ):=km h
def Cs:VS:=⟨[(nP k),s9,tA,(120,iR 1 bF (aV (t.ins.get k)),[]),(121,(int ((↑(aV (t.ins.2 k)).1:Int))),[]),(122,int j,[])],(jt r0 l r2 t k),[]⟩
theorem Jz (h:br (decide ((↑j:Int)<(↑(aV (t.ins.2 k)).1:Int))) (nd (dm (↑j:Int) (aV (t.ins.2 k)).1) ((LC 51 [(.a (fX (t) 1)),(int ((aV (t.ins.get k)).2 j)),(int (↑k:Int))] (jt r0 l r2 t k) (bool (eW t ((aV (t.ins.get k)).2 j) (Int.ofNat k))) (jt r0 l r2 t k)/\br (!eW t ((aV (t.ins.get k)).2 j) (Int.ofNat k)) (kV QE r0 l r2 t k) (nd (dm ((aV (t.ins.get k)).2 j) t.2.1) (br ((t.ins.2 ((aV (t.ins.get k)).2 j).toNat).1==17) (kV QE r0 l r2 t k) (L (ah 27 14) ⟨[(js k),rV,og,(120,((.c (.im (.sl 1 ((aV (t.ins.2 k)).1) (λi=>bF ((aV (t.ins.get k)).2 i))))),[])),(121,((int ((↑(aV (t.ins.2 k)).1:Int))),[])),(122,((int (IntKind.i64.wrap ((↑j:Int)+1))),[]))],(jt r0 l r2 t k),[]⟩)))))) (br (decide ((t.ins.2 k).10<0)) (QE (bool true) [r0,(.set l),r2,(.box (fX (t) 1)),(.box (lift (b8 (t.ins.2 k))))]) (br (ez (t.ins.2 k).10 l) (kV QE r0 l r2 t k) (nd (dm (t.ins.2 k).10 t.3.1) ((LC 52 [(.a (fX (t) 1)),(.a (lift (bz (t.aa.2 (t.ins.2 k).10.toNat)))),(int (↑k:Int))] [r0,(.set (rP (t.ins.2 k).10 l)),r2,(eb t),(na t k),.dead] (bool (ku t (t.aa.2 (t.ins.2 k).10.toNat) (Int.ofNat k))) [r0,(.set (rP (t.ins.2 k).10 l)),r2,(eb t),(na t k),.dead]/\QE (bool (ku t (t.aa.2 (t.ins.2 k).10.toNat) (Int.ofNat k))) [r0,(.set (rP (t.ins.2 k).10 l)),r2,(.box (fX (t) 1)),(.box (lift (b8 (t.ins.2 k)))),.dead])))))):cW zy 27 qk L QE 14 (Cs t r0 r2 l k j):=km h
theorem S6 (hk:k<t.ins.n) (hS:bk t) (hw:eh 3 [r0,.set l,r2]) (hE:(t.ins.get k).exit<t.aa.n):∀ j,j<=(aV (t.ins.get k)).n->∀ o:Bool×List Int,(bif cO (λj=>u16 t k ((aV (t.ins.get k)).get j)) ((aV (t.ins.get k)).n-j) j then Ng t l k else (false,l))=o->ag 27 3 (Go.V.Ends [r0,.set l,r2] (bool (o).1) [r0,.set (o).2,r2]) (ah 27 14) (Cs t r0 r2 l k j):=by
 have hN:(aV (t.ins.get k)).n<=1000:=SZ _ (hS.args k hk)
 refine bc (λj hj ih o ho=>?_) (λo ho=>?_)
 .have q:(aV (t.ins.get k)).n-j=((aV (t.ins.get k)).n-(j+1))+1:=by omega
  rw [q] at ho
  have no:u16 t k ((aV (t.ins.get k)).get j)=false->o=(false,l):=λq=>by grind [fp]
  have go:u16 t k ((aV (t.ins.get k)).get j)=true->ag 27 3 (Go.V.Ends [r0,.set l,r2] (bool (o).1) [r0,.set (o).2,r2]) (ah 27 14) (Cs t r0 r2 l k (j+1)):=λq=>by grind [gV]
  refine aF (X:=zy) (stop:=qk) (Jz _ _ t r0 r2 l k j ?_)
  rw [dy hj (eA hN (by decide))]
  refine aq (λh=>?_) (λh=>(dec_lt h hj).elim)
  refine ay (aP hj) ⟨RE _ _ _ _ _ _ _ _ (by omega),?_⟩
  refine aq (λh1=>?_) (λh1=>?_)
  .rw [no (by grind [u16])]; exact ⟨3,aH rfl,aH rfl,rfl,rfl,bf.refl _,⟨.inl (.inl rfl),.inr rfl,.inl (.inl rfl),trivial⟩⟩
  have h1:eW t ((aV (t.ins.get k)).get j) k=true:=by simpa using h1
  refine ay (vn h1 (by omega)) (aq (λh2=>?_) (λh2=>?_))
  .rw [no (by grind [u16])]; exact ⟨3,aH rfl,aH rfl,rfl,rfl,bf.refl _,⟨.inl (.inl rfl),.inr rfl,.inl (.inl rfl),trivial⟩⟩
  refine ag.cut 5 (aH rfl) (aH rfl) rfl rfl ⟨hw.1.mono (by decide),.inl rfl,hw.2.2.1.mono (by decide),.inl rfl,.inl rfl,trivial⟩ (go ?_)
  grind [u16]
 .rw [Nat.sub_self] at ho
  have ho:Ng t l k=o:=ho
  subst ho
  refine aF (X:=zy) (stop:=qk) (Jz _ _ t r0 r2 l k _ ?_)
  refine aq (λh=>cj h) (λh=>?_)
  refine aq (λh1=>?_) (λh1=>aq (λh2=>?_) (λh2=>?_))
  .rw [show Ng t l k=(true,l) from by grind [Ng]]; exact ⟨3,aH rfl,aH rfl,rfl,rfl,bf.refl _,⟨.inl (.inl rfl),.inr rfl,.inl (.inl rfl),trivial⟩⟩
  .rw [show Ng t l k=(false,l) from by grind [Ng]]; exact ⟨3,aH rfl,aH rfl,rfl,rfl,bf.refl _,⟨.inl (.inl rfl),.inr rfl,.inl (.inl rfl),trivial⟩⟩
  .have h0:0<=(t.ins.get k).exit:=by grind
   have hx:=hE
   refine ay (qS h0 hx) ⟨ac1 _ _ _ _ _ _ _ _ _ (by omega) (hS.ex _ (by omega)) ⟨hw.1.mono (by decide),.inl rfl,hw.2.2.1.mono (by decide),.inl rfl,.inl rfl,.inl rfl,trivial⟩,?_⟩
   rw [show Ng t l k=(ku t (t.aa.get (t.ins.get k).exit.toNat) k,rP (t.ins.get k).exit l) from by grind [Ng]]; exact ⟨3,aH rfl,aH rfl,rfl,rfl,bf.refl _,⟨.inl (.inl rfl),.inr rfl,.inl (.inl rfl),trivial⟩⟩
end
section
variable (aj:af) (L:LP) (t:af) (r0:ae) (QD:D->Prop) (r2:ae) (l:List Int) (k:Nat)
theorem Su (hk:k<t.ins.n) (hS:bk t) (hw:eh 3 [r0,.set l,r2]) (hE:(t.ins.get k).exit<t.aa.n):ag 27 3 (Go.V.Ends [r0,.set l,r2] (bool (o13 t l k).1) [r0,.set (o13 t l k).2,r2]) (ah 27 13) (vd t r0 r2 l k):=by
 refine aF (X:=zy) (stop:=qk) (SM _ _ t r0 r2 l k ⟨ag8 _,?_⟩)
 exact S6 t r0 r2 l k hk hS hw hE 0 (bn _) _ rfl
theorem TC (hk:k<t.ins.n) (hS:bk t) (hw:eh 3 [r0,.set l,r2]):ag 27 3 (Go.V.Ends [r0,.set l,r2] (bool (OZ t l k).1) [r0,.set (OZ t l k).2,r2]) (ah 27 11) (vu t r0 r2 l k):=by
 have no:QT t k=false->Go.V.Ends [r0,.set l,r2] (bool (OZ t l k).1) [r0,.set (OZ t l k).2,r2] (bool false) [r0,.set l,r2,.box (fX t 1),.box (lift (b8 (t.ins.get k)))]:=λq=>by
  rw [show OZ t l k=(false,l) from by unfold OZ; rw [q]; rfl]; exact ⟨3,aH rfl,aH rfl,rfl,rfl,bf.refl _,⟨.inl (.inl rfl),.inr rfl,.inl (.inl rfl),trivial⟩⟩
 have go:QT t k=true->ag 27 3 (Go.V.Ends [r0,.set l,r2] (bool (OZ t l k).1) [r0,.set (OZ t l k).2,r2]) (ah 27 13) (vd t r0 r2 l k):=λq=>by
  grind [OZ,Su,QT]
 refine aF (X:=zy) (stop:=qk) (R4 _ _ t r0 r2 l k ?_)
 repeat' (first|refine aq (λh=>?_) (λh=>?_)|refine ⟨ae9 _,?_⟩|refine ⟨Uz _,?_⟩|done)
 all_goals (try simp only [Bool.not_eq_true',Bool.not_eq_false'] at *)
 all_goals first
  | exact no (by simp only [QT, *,jI])
  | exact ag.lr (vd t r0 r2 l k) (go (by grind [QT]))
  | (exfalso; simp only [decide_eq_true_eq,decide_eq_false_iff_not] at *; omega)
theorem XU (hk:k<t.ins.n) (hS:bk t) (hw:eh 3 [r0,.set l,r2]):ag 27 3 (Go.V.Ends [r0,.set l,r2] (bool (o9 t l k).1) [r0,.set (o9 t l k).2,r2]) (ah 27 9) (tJ t r0 r2 l k):=by
 have no:b9 t k=false->Go.V.Ends [r0,.set l,r2] (bool (o9 t l k).1) [r0,.set (o9 t l k).2,r2] (bool false) [r0,.set l,r2,.box (fX t 1),.box (lift (b8 (t.ins.get k)))]:=λq=>by
  rw [show o9 t l k=(false,l) from by unfold o9; rw [q]; rfl]; exact ⟨3,aH rfl,aH rfl,rfl,rfl,bf.refl _,⟨.inl (.inl rfl),.inr rfl,.inl (.inl rfl),trivial⟩⟩
 have go:b9 t k=true->ag 27 3 (Go.V.Ends [r0,.set l,r2] (bool (o9 t l k).1) [r0,.set (o9 t l k).2,r2]) (ah 27 11) (vu t r0 r2 l k):=λq=>by
  grind [o9,TC]
 refine aF (X:=zy) (stop:=qk) (W6 _ _ t r0 r2 l k ?_)
 repeat' (first|refine aq (λh=>?_) (λh=>?_) |  done)
 all_goals (try simp only [Bool.not_eq_true',Bool.not_eq_false'] at *)
 all_goals first
  | exact no (by simp only [b9, *,jI])
  | exact ag.lr (vu t r0 r2 l k) (go (by grind [b9]))
  | (exfalso; simp only [decide_eq_true_eq,decide_eq_false_iff_not] at *; omega)
theorem X6 (hk:k<t.ins.n) (hS:bk t) (hw:eh 3 [r0,.set l,r2]):ag 27 3 (Go.V.Ends [r0,.set l,r2] (bool (o7 t l k).1) [r0,.set (o7 t l k).2,r2]) (ah 27 7) (xQ t r0 r2 l k):=by
 have no:b7 t k=false->Go.V.Ends [r0,.set l,r2] (bool (o7 t l k).1) [r0,.set (o7 t l k).2,r2] (bool false) [r0,.set l,r2,.box (fX t 1),.box (lift (b8 (t.ins.get k)))]:=λq=>by
  rw [show o7 t l k=(false,l) from by unfold o7; rw [q]; rfl]; exact ⟨3,aH rfl,aH rfl,rfl,rfl,bf.refl _,⟨.inl (.inl rfl),.inr rfl,.inl (.inl rfl),trivial⟩⟩
 have go:b7 t k=true->ag 27 3 (Go.V.Ends [r0,.set l,r2] (bool (o7 t l k).1) [r0,.set (o7 t l k).2,r2]) (ah 27 9) (tJ t r0 r2 l k):=λq=>by
  grind [o7,XU]
 refine aF (X:=zy) (stop:=qk) (Wa _ _ t r0 r2 l k ?_)
 have w1:decide ((k:Int)>0)=true->IntKind.i64.wrap ((k:Int)-1)=((k-1:Nat):Int):=λh=>by
  have h:=of_decide_eq_true h
  rw [gG (by omega) (by have:=hS.ins; omega)]
  omega
 refine aq (λh=>?_) (λh=>?_)
 .have h:((t.ins.get k).op==1)=true:=h
  refine aq (λh0=>no (by grind [b7])) (λh0=>?_)
  have h0:decide ((k:Int)≥(mM t.ins:Int))=false:=h0
  refine aq (λh1=>?_) (λh1=>?_)
  .rw [w1 h1]
   have nA:decide ((k:Int)>0)=true:=h1
   have h1'':=of_decide_eq_true h1
   refine ay (aP (by omega)) (aq (λh2=>no ?_) (λh2=>?_))
   .grind [b7]
   .exact ag.lr (tJ t r0 r2 l k) (go (by grind [b7]))
  .exact ag.lr (tJ t r0 r2 l k) (go (by grind [b7]))
 .exact ag.lr (tJ t r0 r2 l k) (go (by grind [b7]))
theorem Vo (hk:k<t.ins.n) (hS:bk t) (hw:eh 3 [r0,.set l,r2]):ag 27 3 (Go.V.Ends [r0,.set l,r2] (bool (o3 t l k).1) [r0,.set (o3 t l k).2,r2]) (ah 27 3) (Px t r0 r2 l k):=by
 have no:b3 t k=false->Go.V.Ends [r0,.set l,r2] (bool (o3 t l k).1) [r0,.set (o3 t l k).2,r2] (bool false) [r0,.set l,r2,.box (fX t 1),.box (lift (b8 (t.ins.get k)))]:=λq=>by
  rw [show o3 t l k=(false,l) from by unfold o3; rw [q]; rfl]; exact ⟨3,aH rfl,aH rfl,rfl,rfl,bf.refl _,⟨.inl (.inl rfl),.inr rfl,.inl (.inl rfl),trivial⟩⟩
 have go:b3 t k=true->ag 27 3 (Go.V.Ends [r0,.set l,r2] (bool (o3 t l k).1) [r0,.set (o3 t l k).2,r2]) (ah 27 7) (xQ t r0 r2 l k):=λq=>by
  grind [o3,X6]
 refine aF (X:=zy) (stop:=qk) (Vu _ _ t r0 r2 l k ?_)
 rw [Lv (by omega) hS.ins]
 refine aq (λh=>?_) (λh=>?_)
 .have h0:ib (t.ins.get k)=true:=by grind [ib]
  clear h
  refine aq (λh1=>?_) (λh1=>?_)
  .grind [b3]
  have h1:(true != ((k:Int)==(t.ins.n:Int)-1))=false:=h1
  repeat' (first|refine aq (λh=>?_) (λh=>?_)|refine ⟨UZ _,?_⟩|refine ⟨Ui _,?_⟩|done)
  all_goals (try simp only [Bool.not_eq_true',Bool.not_eq_false'] at *)
  all_goals first
   | exact no (by simp only [b3, *,jI])
   | exact ag.lr (xQ t r0 r2 l k) (go (by grind [b3]))
   | (exfalso; simp only [decide_eq_true_eq,decide_eq_false_iff_not] at *; omega)
 .have h0:ib (t.ins.get k)=((t.ins.get k).op==21):=by grind [ib]
  clear h
  refine aq (λh1=>?_) (λh1=>?_)
  .grind [b3]
  have h1:(((t.ins.get k).op==21)!=((k:Int)==(t.ins.n:Int)-1))=false:=h1
  repeat' (first|refine aq (λh=>?_) (λh=>?_)|refine ⟨UZ _,?_⟩|refine ⟨Ui _,?_⟩|done)
  all_goals (try simp only [Bool.not_eq_true',Bool.not_eq_false'] at *)
  all_goals first
   | exact no (by simp only [b3, *,jI])
   | exact ag.lr (xQ t r0 r2 l k) (go (by grind [b3]))
   | (exfalso; simp only [decide_eq_true_eq,decide_eq_false_iff_not] at *; omega)
theorem aj0 (hk:k<t.ins.n) (hS:bk t) (hw:eh 3 [r0,.set l,r2]):LC 27 [yp t 1,int k,int (mM t.ins)] [r0,.set l,r2] (bool (o3 t l k).1) [r0,.set (o3 t l k).2,r2]:=
 gM ax7 (aH (by kernel_rfl)) (cU (X:=zy) (stop:=qk) (aw3 _ _ t r0 r2 l k (ay (aP hk) (Vo t r0 r2 l k hk hS hw))))
def P3:Nat->Bool:=λi=>Nat.beq i 8
theorem av8:Fn 16:={}
abbrev iv:D:=.a (lift (aJ (aj)))
abbrev ko:gn:=(3,((.c (.rt 2 0 0)),[]))
abbrev bE:ae:=.box (lift (aJ (aj)))
theorem ao0 (t:af) (h:br (decide ((↑t.2.1:Int)>200)) (QD (int 2)) (br (decide ((↑t.3.1:Int)>60)) (QD (int 2)) (br (decide (t.1.1<0)) (QD (int 31)) (br (decide (t.1.2<0)) (QD (int 31)) (br ((↑t.2.1:Int)==0) (QD (int 31)) ((LC 26 [(iv t)] [] (lj t) []/\L (ah 16 8) ⟨[ko,(4,((lj t),[])),(39,((gX t),[])),(40,((int 0),[]))],[(bE t),(.set []),(eb t)],[]⟩))))))):fG zy 16 P3 L (cy QD) [bH t] []:=km h
def MN:VS:=⟨[(3,(.c (.rt 2 0 0)),[]),(4,(lj t),[]),(39,(gX t),[]),(40,int k,[])],[(bE t),.set l,(eb t)],[]⟩
theorem P2 (t:af) (l:List Int) (k:Nat) (h:br (decide ((↑k:Int)<(↑t.2.1:Int))) ((LC 27 [(.a (fX (t) 1)),(int (↑k:Int)),(lj t)] [(bE t),(.set l),(eb t)] (bool ((o3 t (Km (some (ae.set l))) k).1)) [(bE t),(.set ((o3 t (Km (some (ae.set l))) k).2)),(eb t)]/\br (!(o3 t (Km (some (ae.set l))) k).1) (QD (int 31)) (L (ah 16 8) ⟨[ko,(4,((lj t),[])),(39,((gX t),[])),(40,((int (IntKind.i64.wrap ((↑k:Int)+1))),[]))],[(bE t),(.set ((o3 t (Km (some (ae.set l))) k).2)),(eb t)],[]⟩))) (QD (int 0))):cW zy 16 P3 L (cy QD) 8 (MN t l k):=km h
def Bg (t:af):Nat->Nat->List Int->Bool
 | 0,_,_=>true
 | m+1,k,l=>bif (o3 t l k).1 then Bg t m (k+1) (o3 t l k).2 else false
def bM:Int:=bif decide ((t.ins.n:Int)>200) then 2 else bif decide ((t.aa.n:Int)>60) then 2 else bif !(decide (t.place.fn<0)||(decide (t.place.line<0)||((t.ins.n:Int)==0)))&&Bg t t.ins.n 0 [] then 0 else 31
theorem VI (hS:bk t) (a:Int):∀ k,k<=t.ins.n->∀ l,(bif Bg t (t.ins.n-k) k l then 0 else 31)=a->ag 16 0 (cw (int a)) (ah 16 8) (MN t l k):=by
 have hN:=hS.ins
 refine bc (λk hk ih l ha=>?_) (λl ha=>?_)
 .have q:t.ins.n-k=(t.ins.n-(k+1))+1:=by omega
  rw [q] at ha
  refine bt (X:=zy) (stop:=P3) (P2 _ _ t l k ?_)
  rw [dy hk (eA hN (by decide))]
  refine aq (λh=>?_) (λh=>(dec_lt h hk).elim)
  refine ⟨aj0 t _ _ l k hk hS ⟨.inl rfl,.inl rfl,.inl rfl,trivial⟩,?_⟩
  refine aq (λh1=>?_) (λh1=>?_)
  .have h1:(o3 t l k).1=false:=(Bool.not_eq_true' _).mp h1
   grind [Bg,bf.refl]
  .have h1:(o3 t l k).1=true:=(Bool.not_eq_false' _▸h1:(o3 t l k).1=true)
   rw [show Bg t (t.ins.n-(k+1)+1) k l=Bg t (t.ins.n-(k+1)) (k+1) (o3 t l k).2 from by grind [Bg]] at ha
   exact ih _ ha
 .rw [Nat.sub_self] at ha
  refine bt (X:=zy) (stop:=P3) (P2 _ _ t l _ ?_)
  refine aq (λh=>cj h) (λh=>?_)
  subst ha; exact bf.refl _
theorem I6 (hS:bk t):LC 16 [bH t] [] (int (bM t)) []:=by
 refine pv (X:=zy) (stop:=P3) av8 (ao0 _ _ t ?_)
 refine aq (λh1=>?_) (λh1=>aq (λh2=>?_) (λh2=>aq (λh3=>?_) (λh3=>aq (λh4=>?_) (λh4=>aq (λh5=>?_) (λh5=>⟨Zi _,?_⟩)))))
 .grind [bM,bf.refl]
 .grind [bM,bf.refl]
 .grind [bM,bf.refl]
 .grind [bM,bf.refl]
 .grind [bM,bf.refl]
 .exact VI t hS _ 0 (bn _) [] (by grind [bM])
end
open Go Go.V
section
variable (L:LP) (x:ak) (t:af) (op:Int) (QD:D->Prop) (a:Int) (y:ak) (i k:Nat)
def oA (b:Bool):D:=.t [(true,lift (b8 x)),(false,[.im (iB b)])]
def lY:Bool:=x.n != y.n || !eJ sC x.names y.names
def jS:Bool:=iK op||dE op
def MW:ak:=⟨0,0,0,0,0,aK 0,⟨0,0,ByteArray.mk ⟨[]⟩⟩,aK (ByteArray.mk ⟨[]⟩),⟨0,0⟩,0,false⟩
def M8:Bool:=(t.ins.get k).op==7&&(!(t.ins.get k).once&&(t.ins.get k).a==a)
def pK:Int:=bif (t.ins.get a.toNat).op==16 then a else my (M8 t a) i
def UF (s:Int):D:=bif decide (s≥0) then oA (t.ins.get s.toNat) true else oA MW false
def aw6:wA:=[
 (16,λds rs=>(int (bM (ff ds 0)),[],[])),
 (41,λds rs=>(bool (jS (aI ds 0)),[],[])),
 (30,λds rs=>(bool (lY (JT ds 0) (JT ds 1)),[],[]))]
def F10:=ext F9 aw6
theorem Rj {l l':List C} {c:C} (h:az dT l l'):bf (.t [(true,l),(false,[c])]) (.t [(true,l'),(false,[c])]):=by
 rintro E av w v ⟨vs,rfl,hv⟩
 refine ⟨vs,rfl,?_⟩
 generalize vs.toList=ys at hv
 cases hv with|cons h1 hv=>cases hv with|cons h2 hv=>
  cases hv
  obtain ⟨cs,rfl,h3⟩:=h1
  exact .cons ⟨cs,rfl,az.cle h h3⟩ (.cons h2 .nil)
theorem zero_le:bf (.t [(true,[(.im (.v (.int .i64 0))),(.im (.v (.int .i64 0))),(.im (.v (.int .i64 0))),(.im (.v (.int .i64 0))),(.im (.v (.int .i64 0))),(.im (.v (.slice .none 0 0))),(.im (.v (.int .i64 0))),(.im (.v (.int .i64 0))),(.im (.v (.string ⟨⟨[]⟩⟩))),(.im (.v (.slice .none 0 0))),(.im (.v (.int .i64 0))),(.im (.v (.int .i64 0))),(.im (.v (.int .i64 0))),(.im (.v (.bool false)))]),(false,[(.im (.v (.bool false)))])]) (oA MW false):=by
 refine Rj ?_
 repeat' (first|exact .nil|refine .cons (dT.refl _) ?_|refine .cons (dT.nil 1 _) ?_|done)
def Vi:gr:={ F:=F10 }
def U0:Nat->Bool:=cD
theorem Zn:Fn 41:={}
theorem ZK (op:Int) (h:(LC 28 [(int op)] [] (bool (iK op)) []/\br (iK op) (QD (bool true)) ((LC 33 [(int op)] [] (bool (dE op)) []/\QD (bool (dE op)))))):fG Vi 41 U0 L (cy QD) [int op] []:=km h
theorem Nc:LC 41 [int op] [] (bool (jS op)) []:=by
 refine pv (X:=Vi) (stop:=U0) Zn (ZK _ _ op ⟨v8 _,aq (λh=>?_) (λh=>⟨tQ _,?_⟩)⟩)
 all_goals grind [jS,bf.refl]
def Ur:gr:={ F:=F10 }
def U3:Nat->Bool:=cD
theorem YM:Fn 30:={}
theorem ab3 (x y:ak) (h:br (x.5 != y.5) (QD (bool true)) ((LC 53 [(FN x),(FN y)] [] (bool (eJ sC x.8 y.8)) []/\QD (bool (!eJ sC x.8 y.8))))):fG Ur 30 U3 L (cy QD) [iJ x,iJ y] []:=km h
theorem Hj:LC 30 [iJ x,iJ y] [] (bool (lY x y)) []:=by
 refine pv (X:=Ur) (stop:=U3) YM (ab3 _ _ x y (aq (λh=>?_) (λh=>⟨Uv _ _,?_⟩)))
 all_goals grind [lY,bf.refl]
def Ek:gr:={ F:=F10 }
def EZ:Nat->Bool:=λi=>Nat.beq i 4
theorem Zm:Fn 61:={}
abbrev qp:gn:=(6,((.c (.rt 1 0 0)),[]))
abbrev BC (aj:Nat):gn:=(26,((int (↑aj:Int)),[]))
abbrev dO:C:=.im (.v (.slice .none 0 0))
abbrev eR:C:=.im (.v (.string ⟨⟨[]⟩⟩))
abbrev EY:ae:=.box [(ci 0),(ci 0),(ci 0),(ci 0),(ci 0),dO,(ci 0),(ci 0),eR,dO,(ci 0),(ci 0),(ci 0),dn]
theorem Z6 (t:af) (a:Int) (i:Nat) (h:nd (dm a t.2.1) (br ((t.ins.2 a.toNat).1==16) (nd (dm a t.2.1) (QD (.t [(.true,(lift (b8 (t.ins.2 a.toNat)))),(.false,[(.im (.v (.bool true)))])]))) (nd (Li (↑i:Int) t.2.1) (L (ah 61 4) ⟨[(1,((int a),[])),qp,(25,((.c (.im (.sl 14 i (λi=>bQ (t.ins.2 i))))),[])),(BC i),(27,((int 0),[]))],[(bE t),EY],[]⟩)))):fG Ek 61 EZ L (cy QD) [bH t,int a,int i] []:=km h
def Cn:VS:=⟨[(1,(int a),[]),(6,(.c (.rt 1 0 0)),[]),(25,(.c (.im (.sl 14 i (λi=>bQ (t.ins.2 i))))),[]),(26,(int (↑i:Int)),[]),(27,int k,[])],[(bE t),EY],[]⟩
theorem IV (t:af) (a:Int) (i:Nat) (k:Nat) (h:br (decide ((↑k:Int)<(↑i:Int))) (nd (dm (↑k:Int) i) (br ((t.ins.2 k).1==7) (br (!(t.ins.2 k).11) (br ((t.ins.2 k).2==a) (QD (.t [(.true,(lift (b8 (t.ins.2 k)))),(.false,[(.im (.v (.bool true)))])])) (L (ah 61 4) ⟨[(1,((int a),[])),qp,(25,((.c (.im (.sl 14 i (λi=>bQ (t.ins.2 i))))),[])),(BC i),(27,((int (IntKind.i64.wrap ((↑k:Int)+1))),[]))],[(bE t),EY,(na t k)],[]⟩)) (L (ah 61 4) ⟨[(1,((int a),[])),qp,(25,((.c (.im (.sl 14 i (λi=>bQ (t.ins.2 i))))),[])),(BC i),(27,((int (IntKind.i64.wrap ((↑k:Int)+1))),[]))],[(bE t),EY,(na t k)],[]⟩)) (L (ah 61 4) ⟨[(1,((int a),[])),qp,(25,((.c (.im (.sl 14 i (λi=>bQ (t.ins.2 i))))),[])),(BC i),(27,((int (IntKind.i64.wrap ((↑k:Int)+1))),[]))],[(bE t),EY,(na t k)],[]⟩))) (QD (.t [(.true,[(ci 0),(ci 0),(ci 0),(ci 0),(ci 0),(.im (.v (.slice .none 0 0))),(ci 0),(ci 0),(.im (.v (.string ⟨⟨[]⟩⟩))),(.im (.v (.slice .none 0 0))),(ci 0),(ci 0),(ci 0),(.im (.v (.bool false)))]),(.false,[(.im (.v (.bool false)))])]))):cW Ek 61 EZ L (cy QD) 4 (Cn t a i k):=km h
theorem Rf (hi:i<=t.ins.n) (hS:bk t) (s:Int):∀ k,k<=i->iy (M8 t a) (i-k) k=s->ag 61 0 (cw (UF t s)) (ah 61 4) (Cn t a i k):=by
 have hN:=hS.ins
 refine bc (λk hk ih ha=>?_) (λha=>?_)
 .have q:i-k=(i-(k+1))+1:=by omega
  rw [q] at ha
  have yes:M8 t a k=true->s=(k:Int):=λq=>by rw [oP q] at ha; exact ha.symm
  have go:M8 t a k=false->ag 61 0 (cw (UF t s)) (ah 61 4) (Cn t a i (k+1)):=λq=>by rw [mD q] at ha; exact ih ha
  refine bt (X:=Ek) (stop:=EZ) (IV _ _ t a i k ?_)
  rw [dy hk (by unfold maxLen; omega)]
  refine aq (λh=>?_) (λh=>(dec_lt h hk).elim)
  have nb:dm (k:Int) i=true:=aP (by omega)
  refine ay nb ?_
  refine aq (λh1=>?_) (λh1=>?_)
  .have h1:((t.ins.get k).op==7)=true:=h1
   refine aq (λh2=>?_) (λh2=>?_)
   .have h2:(!(t.ins.get k).once)=true:=h2
    refine aq (λh3=>?_) (λh3=>?_)
    .rw [yes (by grind [M8])]
     rw [show UF t (k:Int)=oA (t.ins.get k) true from by rfl]; exact bf.refl _
    .exact ag.rename [0,1] rfl (go (by grind [M8]))
   .have h2:(!(t.ins.get k).once)=false:=h2
    exact ag.rename [0,1] rfl (go (by grind [M8]))
  .exact ag.rename [0,1] rfl (go (by grind [M8]))
 .rw [Nat.sub_self] at ha
  refine bt (X:=Ek) (stop:=EZ) (IV _ _ t a i _ ?_)
  refine aq (λh=>cj h) (λh=>?_)
  subst ha
  exact zero_le
theorem W9 (ha:dm a t.ins.n=true) (h0:0<=a) (hi:i<=t.ins.n) (hS:bk t):LC 61 [bH t,int a,int i] [] (UF t (pK t a i)) []:=by
 refine pv (X:=Ek) (stop:=EZ) Zm (Z6 _ _ t a i (ay ha (aq (λh=>ay ha ?_) (λh=>ay ?_ ?_))))
 .rw [show pK t a i=a from by grind [pK],show UF t a=oA (t.ins.get a.toNat) true from by grind [UF]]; exact bf.refl _
 .show Nat.ble i t.ins.n=true
  simp_all
 .rw [show pK t a i=my (M8 t a) i from by grind [pK]]
  exact Rf t a i hi hS _ 0 (bn _) rfl
end
open Go Go.V
section
variable (aj t:af) (s aA a:Int) (aB:Nat) (b:Int) (i:Nat)
def yi:ak:=bif decide (s≥0) then t.ins.get s.toNat else MW
def ZD:Bool:=decide (pK t a i≥0)&&(decide (pK t b i≥0)&&lY (yi t (pK t a i)) (yi t (pK t b i)))
def Un:Bool:=bif a==b then false else bif (t.ins.get (if b>a then b else a).toNat).op==16 then true else bif (t.ins.get (a).toNat).op==16&&(t.ins.get (b).toNat).op==16 then true else ZD t a b i
def apR:Bool:=bif a==b then false else bif ((t.ins.get (a).toNat).op==16&&(t.ins.get (b).toNat).op==16)||(((t.ins.get (a).toNat).op==16&&decide (b<a))||((t.ins.get (b).toNat).op==16&&decide (a<b))) then true else ZD t a b i
def aw4:wA:=[
 (61,λds rs=>(oA (yi (ff ds 0) (pK (ff ds 0) (aI ds 1) (aI ds 2).toNat)) (decide (pK (ff ds 0) (aI ds 1) (aI ds 2).toNat≥0)),[],[]))]
def F11:=ext F10 aw4
theorem WY:UF t s=oA (yi t s) (decide (s≥0)):=by
 unfold UF yi
 grind
theorem S2 {a:Int} {n:Nat} (h:dm a n=true):0<=a/\a<n:=by
 cases a with
 | ofNat m=>
   have:Nat.blt m n=true:=h
   simp_all
 | negSucc m=>exact absurd h (by simp [dm])
theorem Qs {t:af} {s:Int} (h:decide (s≥0)=true):t.ins.get s.toNat=yi t s:=by unfold yi; rw [h]; rfl
def T5:gr:={ F:=F11 }
def T4:Nat->Bool:=cD
theorem ah0:Fn 43:={}
abbrev NJ:D:=.t [(.true,(lift (b8 (yi aj (pK aj aA aB))))),(.false,[(.im (.v (.bool (decide (pK aj aA aB≥0)))))])]
abbrev Uq (aT:Int) (bp:D->Prop):Prop:=(LC 61 [(iv aj),(int aA),(gS aB)] [] (NJ aj aA aB) []/\(LC 61 [(iv aj),(int aT),(gS aB)] [] (NJ aj aT aB) []/\br (decide (pK aj aA aB≥0)) (br (decide (pK aj aT aB≥0)) ((LC 30 [(.a (lift (b8 (yi aj (pK aj aA aB))))),(.a (lift (b8 (yi aj (pK aj aT aB)))))] [] (bool (lY (yi aj (pK aj aA aB)) (yi aj (pK aj aT aB)))) []/\bp (bool (lY (yi aj (pK aj aA aB)) (yi aj (pK aj aT aB)))))) (bp (bool false))) (bp (bool false))))
theorem Zt (L:LP) (QD:D->Prop) (t:af) (a b:Int) (i:Nat) (h:br (a==b) (QD (bool false)) (nd (dm (if b>a then b else a) t.2.1) (br ((t.ins.2 (if b>a then b else a).toNat).1==16) (QD (bool true)) (nd (dm a t.2.1) (br ((t.ins.2 a.toNat).1==16) (nd (dm b t.2.1) (br ((t.ins.2 b.toNat).1==16) (QD (bool true)) (Uq t a i b QD))) (Uq t a i b QD)))))):fG T5 43 T4 L (cy QD) [bH t,int a,int b,int i] []:=km h
theorem TX (ha:dm a t.ins.n=true) (hi:i<=t.ins.n) (hS:bk t):LC 61 [bH t,int a,int i] [] (oA (yi t (pK t a i)) (decide (pK t a i≥0))) []:=WY t _▸W9 t a i ha (S2 ha).1 hi hS
theorem V2 (ha:dm a t.ins.n=true) (hb:dm b t.ins.n=true) (hi:i<=t.ins.n) (hS:bk t):LC 43 [bH t,int a,int b,int i] [] (bool (Un t a b i)) []:=by
 have hm:dm (if b>a then b else a) t.ins.n=true:=by split<;>assumption
 refine pv (X:=T5) (stop:=T4) ah0 (Zt _ _ t a b i ?_)
 repeat' (first|refine ay (by omega) ?_|refine aq (λh=>?_) (λh=>?_)|refine ⟨TX _ _ _ (by assumption) hi hS,?_⟩|refine ⟨Hj _ _,?_⟩|done)
 all_goals (try rw [Qs (s:=pK t a i) (by assumption),Qs (s:=pK t b i) (by assumption)])
 all_goals grind [Un,ZD,bf.refl]
end
end
end Go.Proofs.Ytapefhcmohbmaaa
