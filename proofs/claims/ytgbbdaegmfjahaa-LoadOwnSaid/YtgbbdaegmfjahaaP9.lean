/- Loops: what is to be shown. -/
import Derived.Test.YtgbbdaegmfjahaaP8
import Derived.Test.YtgbbdaegmfjahaaP6
set_option linter.unusedVariables false
set_option linter.unusedSimpArgs false
set_option maxRecDepth 1000000
namespace Go.Proofs.Ytgbbdaegmfjahaa
open Go Go.V
noncomputable section
section
def XA (s1:Sq Int):fN:={ F:=ext vh [(76,λ_ _=>(.t [],[(6,mz s1)],[]))],S:=zn }
def XB (s1:Sq Int):fN:={ F:=ext vh [(76,λ_ _=>(.t [],[(9,mz s1)],[]))],S:=zn }
def X7 (c:Int) (r:ag):fN:={ F:=ext vh [(71,λ_ _=>(int c,[],[])),(75,λ_ _=>(.t [],[(0,r)],[]))],S:=zn }
def X22 (r:ag):fN:={ F:=ext vh [(75,λ_ _=>(.t [],[(7,r)],[]))],S:=zn }
def aY {α:Type} (f:α->α) (s:Sq α) (k:Nat):Sq α:=⟨s.n,λi=>bif Nat.blt i k then f (s.get i) else s.get i⟩
def gQ (a b:Int) (x:aj):aj:={ pY (gh x.op).toNat a b x with args:=oD a b x.args x.args.n }
def Mr (a b:Int) (x:cK):cK:={ x with vars:=oD a b x.vars x.vars.n }
def GV (a b:Int) (x:cG):cG:={ x with value:=sw a b x.value,items:=oD a b x.items x.items.n }
def iy (a b:Int) (x:ah):ah:={ x with frames:=aY (Mr a b) x.frames x.frames.n,ax:=aY (GV a b) x.ax x.ax.n }
def Sv (t:ae):ag:=.box [.im (iI t.place.fn),.im (iI t.place.line),.sa 0 t.ins.n,.sa 1 t.aa.n]
def Sr:ag:=.box [.dM 75 [3,4]]
def foA (n k:Nat) (g:Nat->Nat->O) (x:aj) (p:Nat):ag:=.bt 56 14 n g (some (k,setAt (iY (bD x) 14 0) 5 (.c (.sa p x.args.n))))
def LZ (n k:Nat) (g:Nat->Nat->O) (x:ah):ag:=.bt 72 3 n g (some (k,setAt (setAt (iY (bs x) 3 0) 0 (.c (.sa 6 x.frames.n))) 1 (.c (.sa 7 x.ax.n))))
def aA2 (n k:Nat) (g:Nat->Nat->O) (x:cK) (p:Nat):ag:=.bt 74 3 n g (some (k,setAt (iY (du x) 3 0) 2 (.c (.sa p x.vars.n))))
def aD1 (n k:Nat) (g:Nat->Nat->O) (x:cG) (p:Nat):ag:=.bt 77 4 n g (some (k,setAt (iY (fE x) 4 0) 3 (.c (.sa p x.items.n))))
end
def eO:Nat->Bool:=λi=>Nat.beq i 4||Nat.beq i 7||Nat.beq i 8||Nat.beq i 11||Nat.beq i 12||Nat.beq i 14||Nat.beq i 15||Nat.beq i 19||Nat.beq i 20||Nat.beq i 22
theorem aq0:Fn 66:={}
abbrev jA:fp:=(6,((.c (.rt 5 0 0)),[]))
abbrev jE:fp:=(7,((.c (.dM 76 [5])),[]))
abbrev vk (aw:ae):ag:=.bt 72 3 aw.3.1 (λi=>bs (aw.3.2 i)) .none
abbrev gj (aw:ae):ag:=.box [(ci aw.1.1),(ci aw.1.2),(.sa 0 aw.2.1),(.sa 1 aw.3.1)]
abbrev iT:ag:=.box [(.dM 75 [3,4])]
theorem aq6 (L:LP) (QE:D->List ag->Prop) (t:ae) (a b:Int) (s1:Sq Int) (h:L (ai 66 4) ⟨[fZ,jA,jE,(20,((iw t),[])),(21,((int 0),[]))],[(oK t),(vk t),(gj t),(.box [(ci a)]),(.box [(ci b)]),iT],[]⟩):fx (XA s1) 66 eO L QE [.a [.im (iI t.place.fn),.im (iI t.place.line),.sa 0 t.ins.n,.sa 1 t.aa.n],int a,int b] [bR t.ins,eS t.aa]:=km h
abbrev rL:fp:=(6,.c (.rt 5 0 0),[])
abbrev rH:fp:=(7,.c (.dM 76 [5]),[])
def ky (t:ae) (a b:Int) (s1:Sq Int) (k:Nat):VS:=⟨[il,rL,rH,(20,int t.ins.n,[]),(21,int k,[])],[bR (aY (gQ a b) t.ins k),eS t.aa,Sv t,bx a,bx b,Sr],[]⟩
abbrev Fi (aw:Nat) (aG:ae):aK:=[fZ,jA,jE,(9,((.c (.rt 0 aw 0)),[])),(20,((iw aG),[])),(21,((kh aw),[]))]
abbrev Ny (aw:ae) (aG bk:Int) (bN:Nat):List ag:=[(.bt 56 14 aw.2.1 (λi=>bD ((aY (gQ aG bk) aw.2 bN).get i)) .none),(vk aw),(gj aw),(.box [(ci aG)]),(.box [(ci bk)]),iT]
abbrev mv (aw:ae):fp:=(54,((.c (.sa 1 aw.3.1)),[]))
abbrev mc (aw:ae):fp:=(55,((IL aw),[]))
theorem KP (L:LP) (QE:D->List ag->Prop) (t:ae) (a b:Int) (s1:Sq Int) (k:Nat) (h:br (decide ((↑k:Int)<(↑t.2.1:Int))) (nd (cM (↑k:Int) t.2.1) (L (ai 66 7) ⟨(Fi k t),(Ny t a b k),[]⟩)) (L (ai 66 11) ⟨[jA,jE,(mv t),(mc t),(56,((int 0),[]))],(Ny t a b k),[]⟩)):cB (XA s1) 66 eO L QE 4 (ky t a b s1 k):=km h
abbrev Wf (aw:Nat) (aG:ae):aK:=[il,rL,rH,(9,.c (.rt 0 aw 0),[]),(20,int aG.ins.n,[]),(21,int aw,[])]
def pL (t:ae) (a b:Int) (s1:Sq Int) (k:Nat) (g:Nat->Nat->O) (x:aj):VS:=⟨(Wf k t),[foA t.ins.n k g x 6,eS t.aa,Sv t,bx a,bx b,Sr,mz x.args],[]⟩
abbrev Ru (aw:ae) (aG:Nat->Nat->O) (bk:Nat) (bN:aj):ag:=.bt 56 14 aw.2.1 (aG) (.some (bk,[(.c (ci bN.1)),(.c (ci bN.2)),(.c (ci bN.3)),(.c (ci bN.4)),(.c (ci bN.5)),(.c (.sa 6 bN.6.1)),(.c (ci bN.7.1)),(.c (ci bN.7.2)),(.c (.im (.v (.string bN.7.3)))),(.c (.im (.sl 1 bN.8.1 (λi=>cw (bN.8.2 i))))),(.c (ci bN.9.1)),(.c (ci bN.9.2)),(.c (ci bN.10)),(.c (.im (.v (.bool bN.11))))]))
theorem TI (L:LP) (QE:D->List ag->Prop) (t:ae) (a b:Int) (s1:Sq Int) (k:Nat) (g:Nat->Nat->O) (x:aj) (h:nd (k.blt t.2.1) (nd (k.beq k) ((LC 76 [(.c (.sa 6 x.6.1)),(.c (.rt 5 0 0))] [(Ru t g k x),(vk t),(gj t),(.box [(ci a)]),(.box [(ci b)]),iT,(.arr 3 1 x.6.1 (λi=>bA (x.6.2 i)))] (.t []) [(Ru t g k x),(vk t),(gj t),(.box [(ci a)]),(.box [(ci b)]),iT,(iN s1)]/\L (ai 66 4) ⟨[fZ,jA,jE,(20,((iw t),[])),(21,((int (IntKind.i64.wrap ((↑k:Int)+1))),[]))],[(Ru t g k x),(vk t),(gj t),(.box [(ci a)]),(.box [(ci b)]),iT,(iN s1)],[]⟩)))):cB (XA s1) 66 eO L QE 8 (pL t a b s1 k g x):=km h
abbrev B3 (aw:Nat) (aG:ae) (bk:Nat->Nat->O) (bN:aj) (dp fq:Int):VS:=⟨(Wf aw aG),[wB aG.ins.n aw bk bN,eS aG.aa,Sv aG,bx dp,bx fq,Sr],[]⟩
def tD (t:ae) (a b:Int) (k:Nat) (g:Nat->Nat->O) (y:aj) (x:aj):VS:=(B3 k t g x a b)
abbrev mG (aw:ae) (aG:Nat->Nat->O) (bk:Nat) (bN:aj) (dp fq:Int):List ag:=[(.bt 56 14 aw.2.1 (aG) (.some (bk,[(.c (ci bN.1)),(.c (ci bN.2)),(.c (ci bN.3)),(.c (ci bN.4)),(.c (ci bN.5)),(.o (.ar 3 1 bN.6.1 (λi=>bA (bN.6.2 i)))),(.c (ci bN.7.1)),(.c (ci bN.7.2)),(.c (.im (.v (.string bN.7.3)))),(.c (.im (.sl 1 bN.8.1 (λi=>cw (bN.8.2 i))))),(.c (ci bN.9.1)),(.c (ci bN.9.2)),(.c (ci bN.10)),(.c (.im (.v (.bool bN.11))))]))),(vk aw),(gj aw),(.box [(ci dp)]),(.box [(ci fq)]),iT,(.row 122 1 3 [(.rt 0 bk 1),(.rt 0 bk 2),(.rt 0 bk 3)]),.dead,.dead]
theorem L1 (L:LP) (QE:D->List ag->Prop) (t:ae) (a b:Int) (k:Nat) (g:Nat->Nat->O) (y:aj) (x:aj) (h:nd (k.blt t.2.1) (nd (k.beq k) ((LC 71 [(int x.1)] [] (int 0) []/\(LC 75 [(.c (.sa 6 0)),(.c (.rt 3 0 0)),(.c (.rt 4 0 0))] (mG t g k x a b) (.t []) (mG t g k y a b)/\nd (k.blt t.2.1) (nd (k.beq k) ((LC 71 [(int x.1)] [] (int 0) []/\(LC 75 [(.c (.sa 6 0)),(.c (.rt 3 0 0)),(.c (.rt 4 0 0))] (mG t g k x a b) (.t []) (mG t g k y a b)/\L (ai 66 8) ⟨(Fi k t),(mG t g k y a b),[]⟩))))))))):cB (X7 0 (wB t.ins.n k g y)) 66 eO L QE 7 (tD t a b k g y x):=km h
def uJ (t:ae) (a b:Int) (k:Nat) (g:Nat->Nat->O) (y:aj) (x:aj):VS:=(B3 k t g x a b)
theorem LU (L:LP) (QE:D->List ag->Prop) (t:ae) (a b:Int) (k:Nat) (g:Nat->Nat->O) (y:aj) (x:aj) (h:nd (k.blt t.2.1) (nd (k.beq k) ((LC 71 [(int x.1)] [] (int 1) []/\(LC 75 [(.c (.sa 6 1)),(.c (.rt 3 0 0)),(.c (.rt 4 0 0))] (mG t g k x a b) (.t []) (mG t g k y a b)/\nd (k.blt t.2.1) (nd (k.beq k) ((LC 71 [(int x.1)] [] (int 1) []/\(LC 75 [(.c (.sa 6 1)),(.c (.rt 3 0 0)),(.c (.rt 4 0 0))] (mG t g k x a b) (.t []) (mG t g k y a b)/\L (ai 66 8) ⟨(Fi k t),(mG t g k y a b),[]⟩))))))))):cB (X7 1 (wB t.ins.n k g y)) 66 eO L QE 7 (uJ t a b k g y x):=km h
def uH (t:ae) (a b:Int) (k:Nat) (g:Nat->Nat->O) (y:aj) (x:aj):VS:=(B3 k t g x a b)
theorem Mm (L:LP) (QE:D->List ag->Prop) (t:ae) (a b:Int) (k:Nat) (g:Nat->Nat->O) (y:aj) (x:aj) (h:nd (k.blt t.2.1) (nd (k.beq k) ((LC 71 [(int x.1)] [] (int 2) []/\(LC 75 [(.c (.sa 6 2)),(.c (.rt 3 0 0)),(.c (.rt 4 0 0))] (mG t g k x a b) (.t []) (mG t g k y a b)/\nd (k.blt t.2.1) (nd (k.beq k) ((LC 71 [(int x.1)] [] (int 2) []/\(LC 75 [(.c (.sa 6 2)),(.c (.rt 3 0 0)),(.c (.rt 4 0 0))] (mG t g k x a b) (.t []) (mG t g k y a b)/\L (ai 66 8) ⟨(Fi k t),(mG t g k y a b),[]⟩))))))))):cB (X7 2 (wB t.ins.n k g y)) 66 eO L QE 7 (uH t a b k g y x):=km h
def tA (t:ae) (a b:Int) (k:Nat) (g:Nat->Nat->O) (y:aj) (x:aj):VS:=(B3 k t g x a b)
theorem Mk (L:LP) (QE:D->List ag->Prop) (t:ae) (a b:Int) (k:Nat) (g:Nat->Nat->O) (y:aj) (x:aj) (h:nd (k.blt t.2.1) (nd (k.beq k) ((LC 71 [(int x.1)] [] (int 3) []/\(LC 75 [(.c (.sa 6 3)),(.c (.rt 3 0 0)),(.c (.rt 4 0 0))] (mG t g k x a b) (.t []) (mG t g k y a b)/\nd (k.blt t.2.1) (nd (k.beq k) ((LC 71 [(int x.1)] [] (int 3) []/\(LC 75 [(.c (.sa 6 3)),(.c (.rt 3 0 0)),(.c (.rt 4 0 0))] (mG t g k x a b) (.t []) (mG t g k y a b)/\L (ai 66 8) ⟨(Fi k t),(mG t g k y a b),[]⟩))))))))):cB (X7 3 (wB t.ins.n k g y)) 66 eO L QE 7 (tA t a b k g y x):=km h
abbrev zr (aw:ae):fp:=(54,.c (.sa 1 aw.aa.n),[])
abbrev xV (aw:ae):fp:=(55,int aw.aa.n,[])
def js (t:ae) (a b:Int) (s1:Sq Int) (s:Sq aj) (k:Nat):VS:=⟨[rL,rH,(zr t),(xV t),(56,int k,[])],[bR s,eS (aY (iy a b) t.aa k),Sv t,bx a,bx b,Sr],[]⟩
abbrev pz (aw:Nat):fp:=(56,((kh aw),[]))
abbrev mH (aw:Sq aj):ag:=.bt 56 14 aw.1 (λi=>bD (aw.2 i)) .none
theorem AZ (L:LP) (QE:D->List ag->Prop) (t:ae) (a b:Int) (s1:Sq Int) (s:Sq aj) (k:Nat) (h:br (decide ((↑k:Int)<(↑t.3.1:Int))) (L (ai 66 12) ⟨[jA,jE,(mv t),(mc t),(pz k),(57,((bool true),[]))],[(mH s),(.bt 72 3 t.3.1 (λi=>bs ((aY (iy a b) t.3 k).get i)) .none),(gj t),(.box [(ci a)]),(.box [(ci b)]),iT],[]⟩) (QE (.t []) [(.bt 56 14 s.1 (λi=>bD (s.2 i)) .none),(.bt 72 3 t.3.1 (λi=>bs ((aY (iy a b) t.3 k).get i)) .none),(.box [(ci t.1.1),(ci t.1.2),(.sa 0 t.2.1),(.sa 1 t.3.1)]),(.box [(ci a)]),(.box [(ci b)]),(.box [(.dM 75 [3,4])])])):cB (XB s1) 66 eO L QE 11 (js t a b s1 s k):=km h
def uz (t:ae) (a b:Int) (s1:Sq Int) (s:Sq aj) (k:Nat) (g:Nat->Nat->O) (e:ah):VS:=⟨[rL,rH,(zr t),(xV t),(56,int k,[])],[bR s,LZ t.aa.n k g e,Sv t,bx a,bx b,Sr,zq e.frames,N4 e.ax],[]⟩
abbrev qL:fp:=(11,((.c (.rt 8 0 0)),[]))
abbrev oy (aw:ae) (aG:Nat->Nat->O) (bk:Nat) (bN:ah):ag:=.bt 72 3 aw.3.1 (aG) (.some (bk,[(.c (.sa 6 bN.1.1)),(.c (.sa 7 bN.2.1)),(.c (ci bN.3))]))
abbrev tK (aw:ah):ag:=.bt 77 4 aw.2.1 (λi=>fE (aw.2.2 i)) .none
abbrev oh (aw:ah):ag:=.box [(.sa 6 aw.1.1),(.sa 7 aw.2.1),(ci aw.3)]
theorem K6 (L:LP) (QE:D->List ag->Prop) (t:ae) (a b:Int) (s1:Sq Int) (s:Sq aj) (k:Nat) (g:Nat->Nat->O) (e:ah) (h:nd (cM (↑k:Int) t.3.1) (nd (k.blt t.3.1) (nd (k.beq k) (L (ai 66 14) ⟨[jA,jE,qL,(mv t),(mc t),(pz k),(61,((.c (.sa 6 e.1.1)),[])),(62,((jH e),[])),(63,((int 0),[]))],[(mH s),(oy t g k e),(gj t),(.box [(ci a)]),(.box [(ci b)]),iT,(Iz e),(tK e),(oh e)],[]⟩)))):cB (XB s1) 66 eO L QE 12 (uz t a b s1 s k g e):=km h
abbrev IM:fp:=(11,.c (.rt 8 0 0),[])
abbrev MV (aw:ah) (aG:Nat) (bk:ae) (bN:Nat):aK:=[rL,rH,IM,(61,.c (.sa 6 aw.frames.n),[]),(62,int aw.frames.n,[]),(63,int aG,[]),(zr bk),(xV bk),(56,int bN,[])]
def na (t:ae) (a b:Int) (s1:Sq Int) (s:Sq aj) (k:Nat) (g:Nat->Nat->O) (e:ah) (j:Nat):VS:=⟨(MV e j t k),[bR s,LZ t.aa.n k g e,Sv t,bx a,bx b,Sr,zq (aY (Mr a b) e.frames j),N4 e.ax,.box [.sa 6 e.frames.n,.sa 7 e.ax.n,.im (iI e.back)]],[]⟩
abbrev B1 (aw:ah):fp:=(73,((.c (.sa 7 aw.2.1)),[]))
theorem AE (L:LP) (QE:D->List ag->Prop) (t:ae) (a b:Int) (s1:Sq Int) (s:Sq aj) (k:Nat) (g:Nat->Nat->O) (e:ah) (j:Nat) (h:br (decide ((↑j:Int)<(↑e.1.1:Int))) (L (ai 66 15) ⟨[jA,jE,qL,(mv t),(mc t),(pz k),(61,((.c (.sa 6 e.1.1)),[])),(62,((jH e),[])),(63,((int (↑j:Int)),[])),(64,((bool true),[]))],[(mH s),(oy t g k e),(gj t),(.box [(ci a)]),(.box [(ci b)]),iT,(.bt 74 3 e.1.1 (λi=>du ((aY (Mr a b) e.1 j).get i)) .none),(tK e),(oh e)],[]⟩) (L (ai 66 19) ⟨[jA,jE,qL,(mv t),(mc t),(pz k),(B1 e),(74,((jx e),[])),(75,((int 0),[]))],[(mH s),(oy t g k e),(gj t),(.box [(ci a)]),(.box [(ci b)]),iT,(.bt 74 3 e.1.1 (λi=>du ((aY (Mr a b) e.1 j).get i)) .none),(tK e),(oh e)],[]⟩)):cB (XB s1) 66 eO L QE 14 (na t a b s1 s k g e j):=km h
def tw (t:ae) (a b:Int) (s1:Sq Int) (s:Sq aj) (k:Nat) (g:Nat->Nat->O) (e:ah) (j:Nat) (g2:Nat->Nat->O) (x:cK):VS:=⟨(MV e j t k),[bR s,LZ t.aa.n k g e,Sv t,bx a,bx b,Sr,aA2 e.frames.n j g2 x 9,N4 e.ax,.box [.sa 6 e.frames.n,.sa 7 e.ax.n,.im (iI e.back)],mz x.vars],[]⟩
abbrev HR (aw:ah) (aG:Nat->Nat->O) (bk:Nat) (bN:cK):ag:=.bt 74 3 aw.1.1 (aG) (.some (bk,[(.c (ci bN.1)),(.c (ci bN.2)),(.c (.sa 9 bN.3.1))]))
abbrev Ha (aw:cK):ag:=.box [(ci aw.1),(ci aw.2),(.sa 9 aw.3.1)]
theorem K7 (L:LP) (QE:D->List ag->Prop) (t:ae) (a b:Int) (s1:Sq Int) (s:Sq aj) (k:Nat) (g:Nat->Nat->O) (e:ah) (j:Nat) (g2:Nat->Nat->O) (x:cK) (h:nd (cM (↑j:Int) e.1.1) (nd (j.blt e.1.1) (nd (j.beq j) ((LC 76 [(.c (.sa 9 x.3.1)),(.c (.rt 5 0 0))] [(mH s),(oy t g k e),(gj t),(.box [(ci a)]),(.box [(ci b)]),iT,(HR e g2 j x),(tK e),(oh e),(.arr 3 1 x.3.1 (λi=>bA (x.3.2 i))),(Ha x)] (.t []) [(mH s),(oy t g k e),(gj t),(.box [(ci a)]),(.box [(ci b)]),iT,(HR e g2 j x),(tK e),(oh e),(iN s1),(Ha x)]/\L (ai 66 14) ⟨[jA,jE,qL,(mv t),(mc t),(pz k),(61,((.c (.sa 6 e.1.1)),[])),(62,((jH e),[])),(63,((int (IntKind.i64.wrap ((↑j:Int)+1))),[]))],[(mH s),(oy t g k e),(gj t),(.box [(ci a)]),(.box [(ci b)]),iT,(HR e g2 j x),(tK e),(oh e),(iN s1),(Ha x)],[]⟩))))):cB (XB s1) 66 eO L QE 15 (tw t a b s1 s k g e j g2 x):=km h
abbrev OJ (aw:ah) (aG:Nat) (bk:ae) (bN:Nat):aK:=[rL,rH,IM,(73,.c (.sa 7 aw.ax.n),[]),(74,int aw.ax.n,[]),(75,int aG,[]),(zr bk),(xV bk),(56,int bN,[])]
def kK (t:ae) (a b:Int) (s1:Sq Int) (s:Sq aj) (k:Nat) (g:Nat->Nat->O) (e:ah) (j:Nat):VS:=⟨(OJ e j t k),[bR s,LZ t.aa.n k g e,Sv t,bx a,bx b,Sr,zq (aY (Mr a b) e.frames e.frames.n),N4 (aY (GV a b) e.ax j),.box [.sa 6 e.frames.n,.sa 7 e.ax.n,.im (iI e.back)]],[]⟩
abbrev uc (aw:ah) (aG bk:Int):ag:=.bt 74 3 aw.1.1 (λi=>du ((aY (Mr aG bk) aw.1 aw.1.1).get i)) .none
theorem Ao (L:LP) (QE:D->List ag->Prop) (t:ae) (a b:Int) (s1:Sq Int) (s:Sq aj) (k:Nat) (g:Nat->Nat->O) (e:ah) (j:Nat) (h:br (decide ((↑j:Int)<(↑e.2.1:Int))) (L (ai 66 20) ⟨[jA,jE,qL,(mv t),(mc t),(pz k),(B1 e),(74,((jx e),[])),(75,((int (↑j:Int)),[])),(76,((bool true),[]))],[(mH s),(oy t g k e),(gj t),(.box [(ci a)]),(.box [(ci b)]),iT,(uc e a b),(.bt 77 4 e.2.1 (λi=>fE ((aY (GV a b) e.2 j).get i)) .none),(oh e)],[]⟩) (L (ai 66 11) ⟨[jA,jE,(mv t),(mc t),(56,((int (IntKind.i64.wrap ((↑k:Int)+1))),[]))],[(mH s),(oy t g k e),(gj t),(.box [(ci a)]),(.box [(ci b)]),iT,(uc e a b),(.bt 77 4 e.2.1 (λi=>fE ((aY (GV a b) e.2 j).get i)) .none),(oh e)],[]⟩)):cB (XB s1) 66 eO L QE 19 (kK t a b s1 s k g e j):=km h
def uK (t:ae) (a b:Int) (s1:Sq Int) (s:Sq aj) (k:Nat) (g:Nat->Nat->O) (e:ah) (j:Nat) (g2:Nat->Nat->O) (x:cG):VS:=⟨(OJ e j t k),[bR s,LZ t.aa.n k g e,Sv t,bx a,bx b,Sr,zq (aY (Mr a b) e.frames e.frames.n),aD1 e.ax.n j g2 x 9,.box [.sa 6 e.frames.n,.sa 7 e.ax.n,.im (iI e.back)],mz x.items],[]⟩
abbrev HV (aw:cG):C:=.im (.sl 1 aw.3.1 (λi=>cw (aw.3.2 i)))
abbrev Hs (aw:ah) (aG:Nat->Nat->O) (bk:Nat) (bN:cG):ag:=.bt 77 4 aw.2.1 (aG) (.some (bk,[(.c (ci bN.1)),(.c (ci bN.2)),(.c (HV bN)),(.c (.sa 9 bN.4.1))]))
abbrev G6 (aw:cG):ag:=.box [(ci aw.1),(ci aw.2),(HV aw),(.sa 9 aw.4.1)]
theorem Mp (L:LP) (QE:D->List ag->Prop) (t:ae) (a b:Int) (s1:Sq Int) (s:Sq aj) (k:Nat) (g:Nat->Nat->O) (e:ah) (j:Nat) (g2:Nat->Nat->O) (x:cG) (h:nd (cM (↑j:Int) e.2.1) (nd (j.blt e.2.1) (nd (j.beq j) ((LC 76 [(.c (.sa 9 x.4.1)),(.c (.rt 5 0 0))] [(mH s),(oy t g k e),(gj t),(.box [(ci a)]),(.box [(ci b)]),iT,(uc e a b),(Hs e g2 j x),(oh e),(.arr 3 1 x.4.1 (λi=>bA (x.4.2 i))),(G6 x)] (.t []) [(mH s),(oy t g k e),(gj t),(.box [(ci a)]),(.box [(ci b)]),iT,(uc e a b),(Hs e g2 j x),(oh e),(iN s1),(G6 x)]/\L (ai 66 22) ⟨[jA,jE,qL,(14,((int (↑j:Int)),[])),(mv t),(mc t),(pz k),(B1 e),(74,((jx e),[])),(75,((int (↑j:Int)),[]))],[(mH s),(oy t g k e),(gj t),(.box [(ci a)]),(.box [(ci b)]),iT,(uc e a b),(Hs e g2 j x),(oh e),(iN s1),(G6 x)],[]⟩))))):cB (XB s1) 66 eO L QE 20 (uK t a b s1 s k g e j g2 x):=km h
def tV (t:ae) (a b:Int) (s:Sq aj) (k:Nat) (g:Nat->Nat->O) (e:ah) (j:Nat) (g2:Nat->Nat->O) (y:cG) (x:cG):VS:=⟨[rL,rH,(14,int j,[]),IM,(73,.c (.sa 7 e.ax.n),[]),(74,int e.ax.n,[]),(75,int j,[]),(zr t),(xV t),(56,int k,[])],[bR s,LZ t.aa.n k g e,Sv t,bx a,bx b,Sr,zq (aY (Mr a b) e.frames e.frames.n),foV e.ax.n j g2 x,.box [.sa 6 e.frames.n,.sa 7 e.ax.n,.im (iI e.back)]],[]⟩
abbrev N3 (aw:Sq aj) (aG:ae) (bk:Nat->Nat->O) (bN:Nat) (dp:ah) (fq gH:Int) (uV:Nat->Nat->O) (p_8:Nat) (Za:cG):List ag:=[(mH aw),(oy aG bk bN dp),(gj aG),(.box [(ci fq)]),(.box [(ci gH)]),iT,(uc dp fq gH),(.bt 77 4 dp.2.1 (uV) (.some (p_8,[(.c (ci Za.1)),(.c (ci Za.2)),(.c (HV Za)),(.o (.ar 3 1 Za.4.1 (λi=>bA (Za.4.2 i))))]))),(oh dp),(.row 122 1 1 [(.rt 7 p_8 0)]),.dead]
theorem MI (L:LP) (QE:D->List ag->Prop) (t:ae) (a b:Int) (s:Sq aj) (k:Nat) (g:Nat->Nat->O) (e:ah) (j:Nat) (g2:Nat->Nat->O) (y:cG) (x:cG) (h:nd (cM (↑j:Int) e.2.1) ((LC 75 [(.c (.sa 9 1)),(.c (.rt 3 0 0)),(.c (.rt 4 0 0))] (N3 s t g k e a b g2 j x) (.t []) (N3 s t g k e a b g2 j y)/\nd (cM (↑j:Int) e.2.1) ((LC 75 [(.c (.sa 9 1)),(.c (.rt 3 0 0)),(.c (.rt 4 0 0))] (N3 s t g k e a b g2 j x) (.t []) (N3 s t g k e a b g2 j y)/\L (ai 66 19) ⟨[jA,jE,qL,(mv t),(mc t),(pz k),(B1 e),(74,((jx e),[])),(75,((int (IntKind.i64.wrap ((↑j:Int)+1))),[]))],(N3 s t g k e a b g2 j y),[]⟩))))):cB (X22 (foV e.ax.n j g2 y)) 66 eO L QE 22 (tV t a b s k g e j g2 y x):=km h
theorem wj {α:Type} {f:α->α} {s:Sq α} {k:Nat}:(aY f s k).get k=s.get k:=by
 show (bif Nat.blt k k then _ else _)=_
 cases hb:Nat.blt k k with
 | false=>rfl
 | true=>simp at hb
theorem Qj {α:Type} {f:α->α} {s:Sq α} {k:Nat}:(aY f s (k+1)).get k=f (s.get k):=by
 show (bif Nat.blt k (k+1) then _ else _)=_
 rw [dP (Nat.lt_succ_self k)]; rfl
theorem VZ {α:Type} {f:α->α} {s:Sq α} {i k:Nat} (h:i≠k):(aY f s (k+1)).get i=(aY f s k).get i:=by
 show (bif Nat.blt i (k+1) then _ else _)=(bif Nat.blt i k then _ else _)
 rw [show Nat.blt i (k+1)=Nat.blt i k from by rw [eB,kD,kD]; omega]
theorem tf {α:Type} {f:α->α} {N:α->Nat->O} {s:Sq α} {el sz k:Nat} {l:List Fc} (h:IJ (N (f (s.get k))) l 0):aO (.bt el sz s.n (λi=>N ((aY f s k).get i)) (some (k,l))) (.bt el sz s.n (λi=>N ((aY f s (k+1)).get i)) none):=
 aO.WR (by rw [Qj]; exact h) λi hi oZ j hj=>by rw [VZ oZ]; exact oF.refl _
theorem CL {α:Type} {f:α->α} {N:α->Nat->O} {s:Sq α} {el sz:Nat}:aO (.bt el sz s.n (λi=>N (s.get i)) none) (.bt el sz s.n (λi=>N ((aY f s 0).get i)) none):=aO.bt λi hi j hj=>oF.refl _
theorem af.rB {f:FuncId} {n0:Nat} {Q:D->List ag->Prop} {todo:List Item} {s:VS} (r k:Nat) (l:List Fc) {el sz n:Nat} {get:Nat->Nat->O} (hr:aV s.rs r=some (.bt el sz n get none)) (hk:k<n) (hl:iY (get k) sz 0=l)
  (g:af f n0 Q todo ⟨s.sl,setAt s.rs r (.bt el sz n get (some (k,l))),s.df⟩):af f n0 Q todo s:=
 af.focus r k hr hk (hl.symm▸g)
theorem wA (t:ae) (a b:Int) (hS:bj t) (k:Nat) (hk:k<t.ins.n) (x:aj) (hx:x=pY (gh (t.ins.get k).op).toNat a b (t.ins.get k)) (ih:af 66 2 (Go.V.b8 [bR t.ins,eS t.aa] (.t []) [bR (aY (gQ a b) t.ins t.ins.n),eS (aY (iy a b) t.aa t.aa.n)]) (ai 66 4) (ky t a b (bc 0) (k+1))):af 66 2 (Go.V.b8 [bR t.ins,eS t.aa] (.t []) [bR (aY (gQ a b) t.ins t.ins.n),eS (aY (iy a b) t.aa t.aa.n)]) (ai 66 8) (pL t a b (bc 0) k (λi=>bD ((aY (gQ a b) t.ins k).get i)) x):=by
 have hN:=hS.ins
 have hW:=dr hk (by unfold maxLen; omega:_<=maxLen)
 have hA:=hS.args k hk
 have hA:x.args.n<=1000:=by rw [hx]; exact hA
 refine aF (X:=XA (oD a b x.args x.args.n)) (stop:=eO) (TI _ _ t a b (oD a b x.args x.args.n) k (λi=>bD ((aY (gQ a b) t.ins k).get i)) x ?_)
 refine aC (dP hk) (aC (dq _) ⟨bP.jS (H7 a b x.args hA) [6,5,3,4] _ rfl ⟨rfl,aQ rfl,rfl,aQ rfl,rfl,aQ rfl,rfl,aQ rfl,rfl⟩,?_⟩)
 rw [hW]
 refine af.close 0 5 6 rfl rfl rfl rfl rfl rfl (af.rename [0,1,2,3,4,5] rfl ?_)
 subst hx
 exact af.lf (ky t a b (bc 0) (k+1)) (.cons (tf (f:=gQ a b) ⟨aW.aE _,aW.aE _,aW.aE _,aW.aE _,aW.aE _,aW.refl _,aW.aE _,aW.aE _,aW.aE _,aW.aE _,aW.aE _,aW.aE _,aW.aE _,aW.aE _,trivial⟩) (rc (rc (rc (rc (rc .nil)))))) ih
theorem Mc (t:ae) (a b:Int) (hS:bj t) (k:Nat) (hk:k<t.ins.n) (hc:gh (t.ins.get k).op=0) (ih:af 66 2 (Go.V.b8 [bR t.ins,eS t.aa] (.t []) [bR (aY (gQ a b) t.ins t.ins.n),eS (aY (iy a b) t.aa t.aa.n)]) (ai 66 4) (ky t a b (bc 0) (k+1))):af 66 2 (Go.V.b8 [bR t.ins,eS t.aa] (.t []) [bR (aY (gQ a b) t.ins t.ins.n),eS (aY (iy a b) t.aa t.aa.n)]) (ai 66 7) (tD t a b k (λi=>bD ((aY (gQ a b) t.ins k).get i)) (t.ins.get k) (t.ins.get k)):=by
 have h1:LC 71 [int (t.ins.get k).op] [] (int 0) []:=hc▸Ae (t.ins.get k).op
 refine aF (X:=X7 0 (wB t.ins.n k (λi=>bD ((aY (gQ a b) t.ins k).get i)) (pY 0 a b (t.ins.get k)))) (stop:=eO) (L1 _ _ t a b k (λi=>bD ((aY (gQ a b) t.ins k).get i)) (pY 0 a b (t.ins.get k)) (t.ins.get k) ?_)
 have h2:=λRS h=>bP.jS (Qq t.ins.n k (λi=>bD ((aY (gQ a b) t.ins k).get i)) (t.ins.get k) a b hk) [6,3,4,0] RS rfl h
 refine aC (dP hk) (aC (dq _) ⟨h1,h2 _ ⟨rfl,aQ rfl,rfl,aQ rfl,rfl,aQ rfl,rfl,aQ rfl,rfl⟩,aC (dP hk) (aC (dq _) ⟨h1,h2 _ ⟨rfl,aQ rfl,rfl,aQ rfl,rfl,aQ rfl,rfl,aQ rfl,rfl⟩,?_⟩)⟩)
 refine af.rename [0,1,2,3,4,5] rfl (af.open 0 5 rfl rfl trivial ?_)
 exact af.lr (pL t a b (bc 0) k (λi=>bD ((aY (gQ a b) t.ins k).get i)) (pY 0 a b (t.ins.get k))) (wA t a b hS k hk _ (by rw [hc]; rfl) ih)
theorem Lx (t:ae) (a b:Int) (hS:bj t) (k:Nat) (hk:k<t.ins.n) (hc:gh (t.ins.get k).op=1) (ih:af 66 2 (Go.V.b8 [bR t.ins,eS t.aa] (.t []) [bR (aY (gQ a b) t.ins t.ins.n),eS (aY (iy a b) t.aa t.aa.n)]) (ai 66 4) (ky t a b (bc 0) (k+1))):af 66 2 (Go.V.b8 [bR t.ins,eS t.aa] (.t []) [bR (aY (gQ a b) t.ins t.ins.n),eS (aY (iy a b) t.aa t.aa.n)]) (ai 66 7) (uJ t a b k (λi=>bD ((aY (gQ a b) t.ins k).get i)) (t.ins.get k) (t.ins.get k)):=by
 have h1:LC 71 [int (t.ins.get k).op] [] (int 1) []:=hc▸Ae (t.ins.get k).op
 refine aF (X:=X7 1 (wB t.ins.n k (λi=>bD ((aY (gQ a b) t.ins k).get i)) (pY 1 a b (t.ins.get k)))) (stop:=eO) (LU _ _ t a b k (λi=>bD ((aY (gQ a b) t.ins k).get i)) (pY 1 a b (t.ins.get k)) (t.ins.get k) ?_)
 have h2:=λRS h=>bP.jS (Q9 t.ins.n k (λi=>bD ((aY (gQ a b) t.ins k).get i)) (t.ins.get k) a b hk) [6,3,4,0] RS rfl h
 refine aC (dP hk) (aC (dq _) ⟨h1,h2 _ ⟨rfl,aQ rfl,rfl,aQ rfl,rfl,aQ rfl,rfl,aQ rfl,rfl⟩,aC (dP hk) (aC (dq _) ⟨h1,h2 _ ⟨rfl,aQ rfl,rfl,aQ rfl,rfl,aQ rfl,rfl,aQ rfl,rfl⟩,?_⟩)⟩)
 refine af.rename [0,1,2,3,4,5] rfl (af.open 0 5 rfl rfl trivial ?_)
 exact af.lr (pL t a b (bc 0) k (λi=>bD ((aY (gQ a b) t.ins k).get i)) (pY 1 a b (t.ins.get k))) (wA t a b hS k hk _ (by rw [hc]; rfl) ih)
theorem Mu (t:ae) (a b:Int) (hS:bj t) (k:Nat) (hk:k<t.ins.n) (hc:gh (t.ins.get k).op=2) (ih:af 66 2 (Go.V.b8 [bR t.ins,eS t.aa] (.t []) [bR (aY (gQ a b) t.ins t.ins.n),eS (aY (iy a b) t.aa t.aa.n)]) (ai 66 4) (ky t a b (bc 0) (k+1))):af 66 2 (Go.V.b8 [bR t.ins,eS t.aa] (.t []) [bR (aY (gQ a b) t.ins t.ins.n),eS (aY (iy a b) t.aa t.aa.n)]) (ai 66 7) (uH t a b k (λi=>bD ((aY (gQ a b) t.ins k).get i)) (t.ins.get k) (t.ins.get k)):=by
 have h1:LC 71 [int (t.ins.get k).op] [] (int 2) []:=hc▸Ae (t.ins.get k).op
 refine aF (X:=X7 2 (wB t.ins.n k (λi=>bD ((aY (gQ a b) t.ins k).get i)) (pY 2 a b (t.ins.get k)))) (stop:=eO) (Mm _ _ t a b k (λi=>bD ((aY (gQ a b) t.ins k).get i)) (pY 2 a b (t.ins.get k)) (t.ins.get k) ?_)
 have h2:=λRS h=>bP.jS (O8 t.ins.n k (λi=>bD ((aY (gQ a b) t.ins k).get i)) (t.ins.get k) a b hk) [6,3,4,0] RS rfl h
 refine aC (dP hk) (aC (dq _) ⟨h1,h2 _ ⟨rfl,aQ rfl,rfl,aQ rfl,rfl,aQ rfl,rfl,aQ rfl,rfl⟩,aC (dP hk) (aC (dq _) ⟨h1,h2 _ ⟨rfl,aQ rfl,rfl,aQ rfl,rfl,aQ rfl,rfl,aQ rfl,rfl⟩,?_⟩)⟩)
 refine af.rename [0,1,2,3,4,5] rfl (af.open 0 5 rfl rfl trivial ?_)
 exact af.lr (pL t a b (bc 0) k (λi=>bD ((aY (gQ a b) t.ins k).get i)) (pY 2 a b (t.ins.get k))) (wA t a b hS k hk _ (by rw [hc]; rfl) ih)
theorem MA (t:ae) (a b:Int) (hS:bj t) (k:Nat) (hk:k<t.ins.n) (hc:gh (t.ins.get k).op=3) (ih:af 66 2 (Go.V.b8 [bR t.ins,eS t.aa] (.t []) [bR (aY (gQ a b) t.ins t.ins.n),eS (aY (iy a b) t.aa t.aa.n)]) (ai 66 4) (ky t a b (bc 0) (k+1))):af 66 2 (Go.V.b8 [bR t.ins,eS t.aa] (.t []) [bR (aY (gQ a b) t.ins t.ins.n),eS (aY (iy a b) t.aa t.aa.n)]) (ai 66 7) (tA t a b k (λi=>bD ((aY (gQ a b) t.ins k).get i)) (t.ins.get k) (t.ins.get k)):=by
 have h1:LC 71 [int (t.ins.get k).op] [] (int 3) []:=hc▸Ae (t.ins.get k).op
 refine aF (X:=X7 3 (wB t.ins.n k (λi=>bD ((aY (gQ a b) t.ins k).get i)) (pY 3 a b (t.ins.get k)))) (stop:=eO) (Mk _ _ t a b k (λi=>bD ((aY (gQ a b) t.ins k).get i)) (pY 3 a b (t.ins.get k)) (t.ins.get k) ?_)
 have h2:=λRS h=>bP.jS (Ph t.ins.n k (λi=>bD ((aY (gQ a b) t.ins k).get i)) (t.ins.get k) a b hk) [6,3,4,0] RS rfl h
 refine aC (dP hk) (aC (dq _) ⟨h1,h2 _ ⟨rfl,aQ rfl,rfl,aQ rfl,rfl,aQ rfl,rfl,aQ rfl,rfl⟩,aC (dP hk) (aC (dq _) ⟨h1,h2 _ ⟨rfl,aQ rfl,rfl,aQ rfl,rfl,aQ rfl,rfl,aQ rfl,rfl⟩,?_⟩)⟩)
 refine af.rename [0,1,2,3,4,5] rfl (af.open 0 5 rfl rfl trivial ?_)
 exact af.lr (pL t a b (bc 0) k (λi=>bD ((aY (gQ a b) t.ins k).get i)) (pY 3 a b (t.ins.get k))) (wA t a b hS k hk _ (by rw [hc]; rfl) ih)
theorem P5 (t:ae) (a b:Int) (hS:bj t) (s:Sq aj) (k:Nat) (hk:k<t.aa.n) (j:Nat) (hj:j<(t.aa.get k).ax.n) (ih:af 66 2 (Go.V.b8 [bR t.ins,eS t.aa] (.t []) [bR (aY (gQ a b) t.ins t.ins.n),eS (aY (iy a b) t.aa t.aa.n)]) (ai 66 19) (kK t a b (bc 0) s k (λi=>bs ((aY (iy a b) t.aa k).get i)) (t.aa.get k) (j+1))):af 66 2 (Go.V.b8 [bR t.ins,eS t.aa] (.t []) [bR (aY (gQ a b) t.ins t.ins.n),eS (aY (iy a b) t.aa t.aa.n)]) (ai 66 22) (tV t a b s k (λi=>bs ((aY (iy a b) t.aa k).get i)) (t.aa.get k) j (λi=>fE ((aY (GV a b) (t.aa.get k).ax j).get i)) ((t.aa.get k).ax.get j) { ((t.aa.get k).ax.get j) with items:=oD a b ((t.aa.get k).ax.get j).items ((t.aa.get k).ax.get j).items.n }):=by
 have hN:=(hS.ex k hk).ax
 have hW:=dr hj (by unfold maxLen; omega:_<=maxLen)
 refine aF (X:=X22 (foV (t.aa.get k).ax.n j (λi=>fE ((aY (GV a b) (t.aa.get k).ax j).get i)) (GV a b ((t.aa.get k).ax.get j)))) (stop:=eO) (MI _ _ t a b s k (λi=>bs ((aY (iy a b) t.aa k).get i)) (t.aa.get k) j (λi=>fE ((aY (GV a b) (t.aa.get k).ax j).get i)) (GV a b ((t.aa.get k).ax.get j)) { ((t.aa.get k).ax.get j) with items:=oD a b ((t.aa.get k).ax.get j).items ((t.aa.get k).ax.get j).items.n } ?_)
 have h2:=λRS h=>bP.jS (SW (t.aa.get k).ax.n j (λi=>fE ((aY (GV a b) (t.aa.get k).ax j).get i)) { ((t.aa.get k).ax.get j) with items:=oD a b ((t.aa.get k).ax.get j).items ((t.aa.get k).ax.get j).items.n } a b hj) [9,3,4,7] RS rfl h
 refine aC (a8 hj) ⟨h2 _ ⟨rfl,aQ rfl,rfl,aQ rfl,rfl,aQ rfl,rfl,aQ rfl,rfl⟩,aC (a8 hj) ⟨h2 _ ⟨rfl,aQ rfl,rfl,aQ rfl,rfl,aQ rfl,rfl,aQ rfl,rfl⟩,?_⟩⟩
 rw [hW]
 exact af.rename [0,1,2,3,4,5,6,7,8] rfl (af.lf (kK t a b (bc 0) s k (λi=>bs ((aY (iy a b) t.aa k).get i)) (t.aa.get k) (j+1)) (rc (rc (rc (rc (rc (rc (rc (.cons (tf (f:=GV a b) ⟨aW.aE _,aW.aE _,aW.aE _,aW.refl _,trivial⟩) (rc .nil))))))))) ih)
theorem Qs (t:ae) (a b:Int) (hS:bj t) (s:Sq aj) (k:Nat) (hk:k<t.aa.n) (j:Nat) (hj:j<(t.aa.get k).ax.n) (ih:af 66 2 (Go.V.b8 [bR t.ins,eS t.aa] (.t []) [bR (aY (gQ a b) t.ins t.ins.n),eS (aY (iy a b) t.aa t.aa.n)]) (ai 66 19) (kK t a b (bc 0) s k (λi=>bs ((aY (iy a b) t.aa k).get i)) (t.aa.get k) (j+1))):af 66 2 (Go.V.b8 [bR t.ins,eS t.aa] (.t []) [bR (aY (gQ a b) t.ins t.ins.n),eS (aY (iy a b) t.aa t.aa.n)]) (ai 66 20) (uK t a b (bc 0) s k (λi=>bs ((aY (iy a b) t.aa k).get i)) (t.aa.get k) j (λi=>fE ((aY (GV a b) (t.aa.get k).ax j).get i)) ((t.aa.get k).ax.get j)):=by
 have hI:=(hS.ex k hk).items j hj
 refine aF (X:=XB (oD a b ((t.aa.get k).ax.get j).items ((t.aa.get k).ax.get j).items.n)) (stop:=eO) (Mp _ _ t a b (oD a b ((t.aa.get k).ax.get j).items ((t.aa.get k).ax.get j).items.n) s k (λi=>bs ((aY (iy a b) t.aa k).get i)) (t.aa.get k) j (λi=>fE ((aY (GV a b) (t.aa.get k).ax j).get i)) ((t.aa.get k).ax.get j) ?_)
 refine aC (a8 hj) (aC (dP hj) (aC (dq _) ⟨bP.jS (H7 a b ((t.aa.get k).ax.get j).items hI) [9,5,3,4] _ rfl ⟨rfl,aQ rfl,rfl,aQ rfl,rfl,aQ rfl,rfl,aQ rfl,rfl⟩,?_⟩))
 refine af.close 7 3 9 rfl rfl rfl rfl rfl rfl (af.rename [0,1,2,3,4,5,6,7,8] rfl ?_)
 exact af.lr (tV t a b s k (λi=>bs ((aY (iy a b) t.aa k).get i)) (t.aa.get k) j (λi=>fE ((aY (GV a b) (t.aa.get k).ax j).get i)) ((t.aa.get k).ax.get j) { ((t.aa.get k).ax.get j) with items:=oD a b ((t.aa.get k).ax.get j).items ((t.aa.get k).ax.get j).items.n }) (P5 t a b hS s k hk j hj ih)
theorem PK (t:ae) (a b:Int) (hS:bj t) (s:Sq aj) (k:Nat) (hk:k<t.aa.n) (ih:af 66 2 (Go.V.b8 [bR t.ins,eS t.aa] (.t []) [bR (aY (gQ a b) t.ins t.ins.n),eS (aY (iy a b) t.aa t.aa.n)]) (ai 66 11) (js t a b (bc 0) s (k+1))):∀ j,j<=(t.aa.get k).ax.n->af 66 2 (Go.V.b8 [bR t.ins,eS t.aa] (.t []) [bR (aY (gQ a b) t.ins t.ins.n),eS (aY (iy a b) t.aa t.aa.n)]) (ai 66 19) (kK t a b (bc 0) s k (λi=>bs ((aY (iy a b) t.aa k).get i)) (t.aa.get k) j):=by
 have hB:=(hS.ex k hk).ax
 have hN:=hS.aa
 refine aU (λj hj Av=>?_) ?_
 .refine aF (X:=XB (bc 0)) (stop:=eO) (Ao _ _ t a b (bc 0) s k (λi=>bs ((aY (iy a b) t.aa k).get i)) (t.aa.get k) j ?_)
  refine aq (λh0=>?_) (λh=>(dec_lt h hj).elim)
  refine af.rB 7 j (iY (fE ((t.aa.get k).ax.get j)) 4 0) rfl hj (by show iY (fE ((aY (GV a b) (t.aa.get k).ax j).get j)) 4 0=_; rw [wj]) (af.open 7 3 rfl rfl trivial ?_)
  exact af.lr (uK t a b (bc 0) s k (λi=>bs ((aY (iy a b) t.aa k).get i)) (t.aa.get k) j (λi=>fE ((aY (GV a b) (t.aa.get k).ax j).get i)) ((t.aa.get k).ax.get j)) (Qs t a b hS s k hk j hj Av)
 .refine aF (X:=XB (bc 0)) (stop:=eO) (Ao _ _ t a b (bc 0) s k (λi=>bs ((aY (iy a b) t.aa k).get i)) (t.aa.get k) _ ?_)
  refine aq (λh=>bS h) (λh=>?_)
  rw [dr hk (by unfold maxLen; omega:_<=maxLen)]
  refine af.close 1 0 6 rfl rfl rfl rfl rfl rfl (af.close 1 1 7 rfl rfl rfl rfl rfl rfl (af.rename [0,1,2,3,4,5] rfl ?_))
  exact af.lf (js t a b (bc 0) s (k+1)) (rc (.cons (tf (f:=iy a b) ⟨aW.refl _,aW.refl _,aW.aE _,trivial⟩) (rc (rc (rc (rc .nil)))))) ih
theorem Pd (t:ae) (a b:Int) (hS:bj t) (s:Sq aj) (k:Nat) (hk:k<t.aa.n) (j:Nat) (hj:j<(t.aa.get k).frames.n) (ih:af 66 2 (Go.V.b8 [bR t.ins,eS t.aa] (.t []) [bR (aY (gQ a b) t.ins t.ins.n),eS (aY (iy a b) t.aa t.aa.n)]) (ai 66 14) (na t a b (bc 0) s k (λi=>bs ((aY (iy a b) t.aa k).get i)) (t.aa.get k) (j+1))):af 66 2 (Go.V.b8 [bR t.ins,eS t.aa] (.t []) [bR (aY (gQ a b) t.ins t.ins.n),eS (aY (iy a b) t.aa t.aa.n)]) (ai 66 15) (tw t a b (bc 0) s k (λi=>bs ((aY (iy a b) t.aa k).get i)) (t.aa.get k) j (λi=>du ((aY (Mr a b) (t.aa.get k).frames j).get i)) ((t.aa.get k).frames.get j)):=by
 have hI:=(hS.ex k hk).vars j hj
 have hB:=(hS.ex k hk).frames
 have hW:=dr hj (by unfold maxLen; omega:_<=maxLen)
 refine aF (X:=XB (oD a b ((t.aa.get k).frames.get j).vars ((t.aa.get k).frames.get j).vars.n)) (stop:=eO) (K7 _ _ t a b (oD a b ((t.aa.get k).frames.get j).vars ((t.aa.get k).frames.get j).vars.n) s k (λi=>bs ((aY (iy a b) t.aa k).get i)) (t.aa.get k) j (λi=>du ((aY (Mr a b) (t.aa.get k).frames j).get i)) ((t.aa.get k).frames.get j) ?_)
 refine aC (a8 hj) (aC (dP hj) (aC (dq _) ⟨bP.jS (H7 a b ((t.aa.get k).frames.get j).vars hI) [9,5,3,4] _ rfl ⟨rfl,aQ rfl,rfl,aQ rfl,rfl,aQ rfl,rfl,aQ rfl,rfl⟩,?_⟩))
 rw [hW]
 refine af.close 6 2 9 rfl rfl rfl rfl rfl rfl (af.rename [0,1,2,3,4,5,6,7,8] rfl ?_)
 exact af.lf (na t a b (bc 0) s k (λi=>bs ((aY (iy a b) t.aa k).get i)) (t.aa.get k) (j+1)) (rc (rc (rc (rc (rc (rc (.cons (tf (f:=Mr a b) ⟨aW.aE _,aW.aE _,aW.refl _,trivial⟩) (rc (rc .nil))))))))) ih
theorem OE (t:ae) (a b:Int) (hS:bj t) (s:Sq aj) (k:Nat) (hk:k<t.aa.n) (ih:af 66 2 (Go.V.b8 [bR t.ins,eS t.aa] (.t []) [bR (aY (gQ a b) t.ins t.ins.n),eS (aY (iy a b) t.aa t.aa.n)]) (ai 66 11) (js t a b (bc 0) s (k+1))):∀ j,j<=(t.aa.get k).frames.n->af 66 2 (Go.V.b8 [bR t.ins,eS t.aa] (.t []) [bR (aY (gQ a b) t.ins t.ins.n),eS (aY (iy a b) t.aa t.aa.n)]) (ai 66 14) (na t a b (bc 0) s k (λi=>bs ((aY (iy a b) t.aa k).get i)) (t.aa.get k) j):=by
 refine aU (λj hj Av=>?_) ?_
 .refine aF (X:=XB (bc 0)) (stop:=eO) (AE _ _ t a b (bc 0) s k (λi=>bs ((aY (iy a b) t.aa k).get i)) (t.aa.get k) j ?_)
  refine aq (λh0=>?_) (λh=>(dec_lt h hj).elim)
  refine af.rB 6 j (iY (du ((t.aa.get k).frames.get j)) 3 0) rfl hj (by show iY (du ((aY (Mr a b) (t.aa.get k).frames j).get j)) 3 0=_; rw [wj]) (af.open 6 2 rfl rfl trivial ?_)
  exact af.lr (tw t a b (bc 0) s k (λi=>bs ((aY (iy a b) t.aa k).get i)) (t.aa.get k) j (λi=>du ((aY (Mr a b) (t.aa.get k).frames j).get i)) ((t.aa.get k).frames.get j)) (Pd t a b hS s k hk j hj Av)
 .refine aF (X:=XB (bc 0)) (stop:=eO) (AE _ _ t a b (bc 0) s k (λi=>bs ((aY (iy a b) t.aa k).get i)) (t.aa.get k) _ ?_)
  refine aq (λh=>bS h) (λh=>?_)
  exact af.lf (kK t a b (bc 0) s k (λi=>bs ((aY (iy a b) t.aa k).get i)) (t.aa.get k) 0) (rc (rc (rc (rc (rc (rc (rc (.cons (CL) (rc .nil))))))))) (PK t a b hS s k hk ih 0 (bu _))
theorem Po (t:ae) (a b:Int) (hS:bj t) (s:Sq aj) (k:Nat) (hk:k<t.aa.n) (ih:af 66 2 (Go.V.b8 [bR t.ins,eS t.aa] (.t []) [bR (aY (gQ a b) t.ins t.ins.n),eS (aY (iy a b) t.aa t.aa.n)]) (ai 66 11) (js t a b (bc 0) s (k+1))):af 66 2 (Go.V.b8 [bR t.ins,eS t.aa] (.t []) [bR (aY (gQ a b) t.ins t.ins.n),eS (aY (iy a b) t.aa t.aa.n)]) (ai 66 12) (uz t a b (bc 0) s k (λi=>bs ((aY (iy a b) t.aa k).get i)) (t.aa.get k)):=by
 refine aF (X:=XB (bc 0)) (stop:=eO) (K6 _ _ t a b (bc 0) s k (λi=>bs ((aY (iy a b) t.aa k).get i)) (t.aa.get k) ?_)
 refine aC (a8 hk) (aC (dP hk) (aC (dq _) ?_))
 exact af.lf (na t a b (bc 0) s k (λi=>bs ((aY (iy a b) t.aa k).get i)) (t.aa.get k) 0) (rc (rc (rc (rc (rc (rc (.cons (CL) (rc (rc .nil))))))))) (OE t a b hS s k hk ih 0 (bu _))
theorem Sd (t:ae) (a b:Int) (hS:bj t):∀ k,k<=t.aa.n->af 66 2 (Go.V.b8 [bR t.ins,eS t.aa] (.t []) [bR (aY (gQ a b) t.ins t.ins.n),eS (aY (iy a b) t.aa t.aa.n)]) (ai 66 11) (js t a b (bc 0) (aY (gQ a b) t.ins t.ins.n) k):=by
 refine aU (λk hk Av=>?_) ?_
 .refine aF (X:=XB (bc 0)) (stop:=eO) (AZ _ _ t a b (bc 0) _ k ?_)
  refine aq (λh0=>?_) (λh=>(dec_lt h hk).elim)
  refine af.rB 1 k (iY (bs (t.aa.get k)) 3 0) rfl hk (by show iY (bs ((aY (iy a b) t.aa k).get k)) 3 0=_; rw [wj]) (af.open 1 0 rfl rfl trivial (af.open 1 1 rfl rfl trivial ?_))
  exact af.lr (uz t a b (bc 0) (aY (gQ a b) t.ins t.ins.n) k (λi=>bs ((aY (iy a b) t.aa k).get i)) (t.aa.get k)) (Po t a b hS _ k hk Av)
 .refine aF (X:=XB (bc 0)) (stop:=eO) (AZ _ _ t a b (bc 0) _ _ ?_)
  refine aq (λh=>bS h) (λh=>?_)
  exact ⟨[0,1],.t [],_,_,rfl,(rc (rc .nil)),⟨2,aQ rfl,aQ rfl,rfl,rfl,bh.refl _,⟨.inr rfl,⟨.inr rfl,trivial⟩⟩⟩⟩
theorem VB (t:ae) (a b:Int) (hS:bj t):∀ k,k<=t.ins.n->af 66 2 (Go.V.b8 [bR t.ins,eS t.aa] (.t []) [bR (aY (gQ a b) t.ins t.ins.n),eS (aY (iy a b) t.aa t.aa.n)]) (ai 66 4) (ky t a b (bc 0) k):=by
 refine aU (λk hk ih=>?_) ?_
 .refine aF (X:=XA (bc 0)) (stop:=eO) (KP _ _ t a b (bc 0) k ?_)
  refine aq (λh0=>?_) (λh=>(dec_lt h hk).elim)
  refine aC (a8 hk) ?_
  refine af.rB 0 k (iY (bD (t.ins.get k)) 14 0) rfl hk (by show iY (bD ((aY (gQ a b) t.ins k).get k)) 14 0=_; rw [wj]) ?_
  rcases uw (t.ins.get k).op with hc|hc|hc|hc
  .exact af.lr (tD t a b k (λi=>bD ((aY (gQ a b) t.ins k).get i)) (t.ins.get k) (t.ins.get k)) (Mc t a b hS k hk hc ih)
  .exact af.lr (uJ t a b k (λi=>bD ((aY (gQ a b) t.ins k).get i)) (t.ins.get k) (t.ins.get k)) (Lx t a b hS k hk hc ih)
  .exact af.lr (uH t a b k (λi=>bD ((aY (gQ a b) t.ins k).get i)) (t.ins.get k) (t.ins.get k)) (Mu t a b hS k hk hc ih)
  .exact af.lr (tA t a b k (λi=>bD ((aY (gQ a b) t.ins k).get i)) (t.ins.get k) (t.ins.get k)) (MA t a b hS k hk hc ih)
 .refine aF (X:=XA (bc 0)) (stop:=eO) (KP _ _ t a b (bc 0) _ ?_)
  refine aq (λh=>bS h) (λh=>?_)
  exact af.lf (js t a b (bc 0) (aY (gQ a b) t.ins t.ins.n) 0) (rc (.cons (CL) (rc (rc (rc (rc .nil)))))) (Sd t a b hS 0 (bu _))
theorem ZI (t:ae) (a b:Int) (hS:bj t):LC 66 [.a [.im (iI t.place.fn),.im (iI t.place.line),.sa 0 t.ins.n,.sa 1 t.aa.n],int a,int b] [bR t.ins,eS t.aa] (.t []) [bR (aY (gQ a b) t.ins t.ins.n),eS (aY (iy a b) t.aa t.aa.n)]:=by
 refine cV aq0 (aQ (by kernel_rfl)) (dc (X:=XA (bc 0)) (stop:=eO) (aq6 _ _ t a b (bc 0) ?_))
 exact af.lf (ky t a b (bc 0) 0) (.cons (CL) (rc (rc (rc (rc (rc .nil)))))) (VB t a b hS 0 (bu _))
open Go Go.V
section
def XK (i e:ag):fN:={ F:=ext vh [(66,λ_ _=>(.t [],[(0,i),(1,e)],[]))],S:=zn }
def Gw (t:ae) (p q:Nat):D:=.a (jG t p q)
def Js (kind k zS:Int) (v:iL):D:=.a [ci kind,ci k,ci zS,ci v.kind,ci v.n,.im (iS v.s)]
def Fb:iL:=⟨1,0,⟨⟨[]⟩⟩⟩
def e9:iL:=⟨0,0,⟨⟨[]⟩⟩⟩
def sT:aj:=⟨0,0,0,0,0,⟨0,λ_=>0⟩,e9,⟨0,λ_=>⟨⟨[]⟩⟩⟩,⟨0,0⟩,-1,false⟩
def DC (o:Bool):aj:=⟨2,0,0,0,0,⟨0,λ_=>0⟩,Fb,⟨0,λ_=>⟨⟨[]⟩⟩⟩,⟨0,0⟩,-1,o⟩
end
def vH:Nat->Bool:=λi=>Nat.beq i 20||Nat.beq i 8||Nat.beq i 16
theorem Xg:Fn 38:={}
abbrev fB (aw:ae) (aG:Nat):List D:=[(int ((aw.2.2 aG).1))]
abbrev HG (aw:ae) (aG:Nat):D:=bool (eD (aw.2.2 aG).1 [1,2,3,4,10,12,14,16,17])
abbrev H5:fp:=(6,((.c (.rt 4 0 0)),[]))
abbrev jQ (aw:Nat):ag:=.box [(ci 3),(ci (↑aw:Int)),(ci 0),(ci 0),(ci 0),ff]
abbrev zh:ag:=.box (fL 0 0 0 0 0 (-1))
theorem ah8 (L:LP) (QE:D->List ag->Prop) (t:ae) (k:Nat) (i e:ag) (h:nd (cM (↑k:Int) t.2.1) (nd (k.blt t.2.1) (br ((t.2.2 k).1==1) (QE (bool false) [(.bt 56 14 t.2.1 (λi=>bD (t.2.2 i)) .none),(.bt 72 3 t.3.1 (λi=>bs (t.3.2 i)) .none),(.box [(ci t.1.1),(ci t.1.2),(.sa 0 t.2.1),(.sa 1 t.3.1)]),(.box [(ci 3),(ci (↑k:Int)),(ci 0),(ci 0),(ci 0),(.im (.v (.string ⟨⟨[]⟩⟩)))]),(.box (fL 0 0 0 0 0 (-1)))]) (nd (k.blt t.2.1) (br ((t.2.2 k).1==20) (QE (bool false) [(.bt 56 14 t.2.1 (λi=>bD (t.2.2 i)) .none),(.bt 72 3 t.3.1 (λi=>bs (t.3.2 i)) .none),(.box [(ci t.1.1),(ci t.1.2),(.sa 0 t.2.1),(.sa 1 t.3.1)]),(.box [(ci 3),(ci (↑k:Int)),(ci 0),(ci 0),(ci 0),(.im (.v (.string ⟨⟨[]⟩⟩)))]),(.box (fL 0 0 0 0 0 (-1)))]) (nd (k.blt t.2.1) (br ((t.2.2 k).1==21) (QE (bool false) [(.bt 56 14 t.2.1 (λi=>bD (t.2.2 i)) .none),(.bt 72 3 t.3.1 (λi=>bs (t.3.2 i)) .none),(.box [(ci t.1.1),(ci t.1.2),(.sa 0 t.2.1),(.sa 1 t.3.1)]),(.box [(ci 3),(ci (↑k:Int)),(ci 0),(ci 0),(ci 0),(.im (.v (.string ⟨⟨[]⟩⟩)))]),(.box (fL 0 0 0 0 0 (-1)))]) (nd (k.blt t.2.1) ((LC 65 (fB t k) [] (HG t k) []/\br (eD (t.2.2 k).1 [1,2,3,4,10,12,14,16,17]) ((LC 67 [(.a [(ci t.1.1),(ci t.1.2),(.im (.sl 14 t.2.1 (λi j=>oI (bD (t.2.2 i) j)))),(.im (.sl 3 t.3.1 (λi j=>oI (bs (t.3.2 i) j))))]),(int (↑k:Int))] [] (.t []) []/\False)) (L (ai 38 20) ⟨[(5,((.c (.rt 0 k 0)),[])),H5,(132,((bool false),[]))],[(.bt 56 14 t.2.1 (λi=>bD (t.2.2 i)) .none),(.bt 72 3 t.3.1 (λi=>bs (t.3.2 i)) .none),(gj t),(jQ k),zh],[]⟩))))))))))):fx (XK i e) 38 vH L QE [Gw t 0 1,Js 3 k 0 e9] [bR t.ins,eS t.aa]:=km h
theorem ag4 (L:LP) (QE:D->List ag->Prop) (t:ae) (k:Nat) (i e:ag) (h:nd (cM (↑k:Int) t.2.1) ((LC 64 [(.a (lift (PG ({ kind:=Int.ofNat 1,n:=Int.ofNat 0,s:={ data:={ toList:=[] } } }))))] [] (bool (iq { kind:=Int.ofNat 1,n:=Int.ofNat 0,s:={ data:={ toList:=[] } } })) []/\nd (k.blt t.2.1) ((LC 35 [(.c (.im (.sl 1 5 (flat 1 [I.v (Value.int IntKind.i64 3),I.v (Value.int IntKind.i64 4),I.v (Value.int IntKind.i64 10),I.v (Value.int IntKind.i64 12),I.v (Value.int IntKind.i64 14)])))),(int ((t.2.2 k).1))] [] (bool (nH (t.2.2 k).1 { n:=5,get:=λi=>rI (flat 1 [I.v (Value.int IntKind.i64 3),I.v (Value.int IntKind.i64 4),I.v (Value.int IntKind.i64 10),I.v (Value.int IntKind.i64 12),I.v (Value.int IntKind.i64 14)] i) })) []/\br (!nH (t.2.2 k).1 { n:=5,get:=λi=>rI (flat 1 [I.v (Value.int IntKind.i64 3),I.v (Value.int IntKind.i64 4),I.v (Value.int IntKind.i64 10),I.v (Value.int IntKind.i64 12),I.v (Value.int IntKind.i64 14)] i) }) (QE (bool false) [(.bt 56 14 t.2.1 (λi=>bD (t.2.2 i)) .none),(.bt 72 3 t.3.1 (λi=>bs (t.3.2 i)) .none),(.box [(ci t.1.1),(ci t.1.2),(.sa 0 t.2.1),(.sa 1 t.3.1)]),(.box [(ci 1),(ci (↑k:Int)),(ci 0),(ci 1),(ci 0),(.im (.v (.string ⟨⟨[]⟩⟩)))]),(.box (fL 0 0 0 0 0 (-1))),(.row 3 1 5 [(ci 3),(ci 4),(ci 10),(ci 12),(ci 14)])]) (L (ai 38 8) ⟨[sq,(5,((.c (.rt 0 k 0)),[])),(30,((bool false),[]))],[(.bt 56 14 t.2.1 (λi=>bD (t.2.2 i)) .none),(.bt 72 3 t.3.1 (λi=>bs (t.3.2 i)) .none),(gj t),(.box [(ci 1),(ci (↑k:Int)),(ci 0),(ci 1),(ci 0),ff]),zh,(.row 3 1 5 [(ci 3),(ci 4),(ci 10),(ci 12),(ci 14)])],[]⟩)))))):fx (XK i e) 38 vH L QE [Gw t 0 1,Js 1 k 0 Fb] [bR t.ins,eS t.aa]:=km h
abbrev Ip (aw aG:Nat):ag:=.box [(ci 2),(ci (↑aw:Int)),(ci (↑aG:Int)),(ci 0),(ci 0),ff]
theorem ap2 (L:LP) (QE:D->List ag->Prop) (t:ae) (k:Nat) (j:Nat) (i e:ag) (h:nd (cM (↑k:Int) t.2.1) (br (decide ((↑j:Int)≥(↑k:Int))) (QE (bool false) [(.bt 56 14 t.2.1 (λi=>bD (t.2.2 i)) .none),(.bt 72 3 t.3.1 (λi=>bs (t.3.2 i)) .none),(.box [(ci t.1.1),(ci t.1.2),(.sa 0 t.2.1),(.sa 1 t.3.1)]),(.box [(ci 2),(ci (↑k:Int)),(ci (↑j:Int)),(ci 0),(ci 0),(.im (.v (.string ⟨⟨[]⟩⟩)))]),(.box (fL 0 0 0 0 0 (-1)))]) (nd (cM (↑j:Int) t.2.1) (nd (j.blt t.2.1) (nd (k.blt t.2.1) ((LC 65 (fB t k) [] (HG t k) []/\br (!eD (t.2.2 k).1 [1,2,3,4,10,12,14,16,17]) (QE (bool false) [(.bt 56 14 t.2.1 (λi=>bD (t.2.2 i)) .none),(.bt 72 3 t.3.1 (λi=>bs (t.3.2 i)) .none),(.box [(ci t.1.1),(ci t.1.2),(.sa 0 t.2.1),(.sa 1 t.3.1)]),(.box [(ci 2),(ci (↑k:Int)),(ci (↑j:Int)),(ci 0),(ci 0),(.im (.v (.string ⟨⟨[]⟩⟩)))]),(.box (fL 0 0 0 0 0 (-1)))]) ((LC 65 (fB t j) [] (HG t j) []/\br (!eD (t.2.2 j).1 [1,2,3,4,10,12,14,16,17]) (QE (bool false) [(.bt 56 14 t.2.1 (λi=>bD (t.2.2 i)) .none),(.bt 72 3 t.3.1 (λi=>bs (t.3.2 i)) .none),(.box [(ci t.1.1),(ci t.1.2),(.sa 0 t.2.1),(.sa 1 t.3.1)]),(.box [(ci 2),(ci (↑k:Int)),(ci (↑j:Int)),(ci 0),(ci 0),(.im (.v (.string ⟨⟨[]⟩⟩)))]),(.box (fL 0 0 0 0 0 (-1)))]) (nd (k.blt t.2.1) (br ((t.2.2 k).1==17) (QE (bool false) [(.bt 56 14 t.2.1 (λi=>bD (t.2.2 i)) .none),(.bt 72 3 t.3.1 (λi=>bs (t.3.2 i)) .none),(.box [(ci t.1.1),(ci t.1.2),(.sa 0 t.2.1),(.sa 1 t.3.1)]),(.box [(ci 2),(ci (↑k:Int)),(ci (↑j:Int)),(ci 0),(ci 0),(.im (.v (.string ⟨⟨[]⟩⟩)))]),(.box (fL 0 0 0 0 0 (-1)))]) (br ((t.2.2 j).1==17) (QE (bool false) [(.bt 56 14 t.2.1 (λi=>bD (t.2.2 i)) .none),(.bt 72 3 t.3.1 (λi=>bs (t.3.2 i)) .none),(.box [(ci t.1.1),(ci t.1.2),(.sa 0 t.2.1),(.sa 1 t.3.1)]),(.box [(ci 2),(ci (↑k:Int)),(ci (↑j:Int)),(ci 0),(ci 0),(.im (.v (.string ⟨⟨[]⟩⟩)))]),(.box (fL 0 0 0 0 0 (-1)))]) (nd (k.blt t.2.1) (br ((t.2.2 k).1==1) (QE (bool false) [(.bt 56 14 t.2.1 (λi=>bD (t.2.2 i)) .none),(.bt 72 3 t.3.1 (λi=>bs (t.3.2 i)) .none),(.box [(ci t.1.1),(ci t.1.2),(.sa 0 t.2.1),(.sa 1 t.3.1)]),(.box [(ci 2),(ci (↑k:Int)),(ci (↑j:Int)),(ci 0),(ci 0),(.im (.v (.string ⟨⟨[]⟩⟩)))]),(.box (fL 0 0 0 0 0 (-1)))]) ((LC 66 [(.a [(ci t.1.1),(ci t.1.2),(.sa 0 t.2.1),(.sa 1 t.3.1)]),(int (↑k:Int)),(int (↑j:Int))] [(.bt 56 14 t.2.1 (λi=>bD (t.2.2 i)) .none),(.bt 72 3 t.3.1 (λi=>bs (t.3.2 i)) .none),(gj t),(Ip k j),zh] (.t []) [i,e,(gj t),(Ip k j),zh]/\L (ai 38 16) ⟨[(5,((.c (.rt 0 k 0)),[])),H5],[i,e,(gj t),(Ip k j),zh],[]⟩)))))))))))))))):fx (XK i e) 38 vH L QE [Gw t 0 1,Js 2 k j e9] [bR t.ins,eS t.aa]:=km h
def yu (n k:Nat) (g:Nat->Nat->O) (x:aj) (es:Sq ah)  : VS:=⟨[(5,.c (.rt 0 k 0),[]),(6,.c (.rt 2 0 0),[])],[wB n k g x,eS es,.box (fL 0 0 0 0 0 (-1))],[]⟩
theorem NL (L:LP) (QE:D->List ag->Prop) (n k:Nat) (g:Nat->Nat->O) (x:aj) (es:Sq ah)  (h:nd (k.beq k) (QE (bool true) [(.bt 56 14 n (g) (.some (k,[(.c (ci 0)),(.c (ci 0)),(.c (ci 0)),(.c (ci 0)),(.c (ci 0)),(.c (.im (.v (.slice .none 0 0)))),(.c (ci 0)),(.c (ci 0)),(.c (.im (.v (.string ⟨⟨[]⟩⟩)))),(.c (.im (.v (.slice .none 0 0)))),(.c (ci 0)),(.c (ci 0)),(.c (ci (-1))),(.c (.im (.v (.bool false))))]))),(.bt 72 3 es.1 (λi=>bs (es.2 i)) .none),(.box (fL 0 0 0 0 0 (-1)))])):cB XR 38 vH L QE 20 (yu n k g x es ):=km h
def xt (n k:Nat) (g:Nat->Nat->O) (x:aj) (es:Sq ah)  : VS:=⟨[(5,.c (.rt 0 k 0),[]),(6,.c (.rt 2 0 0),[])],[wB n k g x,eS es,.box (fL 0 0 0 0 0 (-1))],[]⟩
theorem O9 (L:LP) (QE:D->List ag->Prop) (n k:Nat) (g:Nat->Nat->O) (x:aj) (es:Sq ah)  (h:nd (k.beq k) (QE (bool true) [(.bt 56 14 n (g) (.some (k,[(.c (ci 0)),(.c (ci 0)),(.c (ci 0)),(.c (ci 0)),(.c (ci 0)),(.c (.im (.v (.slice .none 0 0)))),(.c (ci 0)),(.c (ci 0)),(.c (.im (.v (.string ⟨⟨[]⟩⟩)))),(.c (.im (.v (.slice .none 0 0)))),(.c (ci 0)),(.c (ci 0)),(.c (ci (-1))),(.c (.im (.v (.bool false))))]))),(.bt 72 3 es.1 (λi=>bs (es.2 i)) .none),(.box (fL 0 0 0 0 0 (-1)))])):cB XR 38 vH L QE 16 (xt n k g x es ):=km h
def BM (n k:Nat) (g:Nat->Nat->O) (x:aj) (es:Sq ah)  : VS:=⟨[il,(5,.c (.rt 0 k 0),[])],[wB n k g x,eS es,.box [ci 1,ci k,ci 0,ci 1,ci 0,.im (iS ⟨⟨[]⟩⟩)]],[]⟩
theorem Ur (L:LP) (QE:D->List ag->Prop) (n k:Nat) (g:Nat->Nat->O) (x:aj) (es:Sq ah)  (h:nd (k.blt n) (nd (k.beq k) (nd (k.beq k) (nd (k.blt n) (nd (k.beq k) (nd (k.beq k) (QE (bool true) [(.bt 56 14 n (g) (.some (k,[(.c (ci 2)),(.c (ci 0)),(.c (ci 0)),(.c (ci 0)),(.c (ci 0)),(.c (.im (.v (.slice .none 0 0)))),(.c (ci 1)),(.c (ci 0)),(.c (.im (.v (.string ⟨⟨[]⟩⟩)))),(.c (.im (.v (.slice .none 0 0)))),(.c (ci 0)),(.c (ci 0)),(.c (ci (-1))),(.c (.im (.v (.bool x.11))))]))),(.bt 72 3 es.1 (λi=>bs (es.2 i)) .none),(.box [(ci 1),(ci (↑k:Int)),(ci 0),(ci 1),(ci 0),(.im (.v (.string ⟨⟨[]⟩⟩)))])]))))))):cB XR 38 vH L QE 8 (BM n k g x es ):=km h
theorem aW.nil {e sz:Nat} {g:Nat->Nat->Go.V.I}:aW (.c (.im (.v (.slice none 0 0)))) (.o (.ar e sz 0 g)):=λE av base w K v h=>by
 obtain ⟨rfl,_⟩:=h
 exact ⟨λb hb=>(by cases hb),[],⟨(Nat.zero_mul sz).symm,.inl ⟨rfl,rfl⟩⟩,λi hi=>absurd hi (Nat.not_lt_zero i)⟩
theorem aW.nR {sz:Nat} {g:Nat->Nat->Go.V.I}:aW (.c (.im (.v (.slice none 0 0)))) (.o (.im (.sl sz 0 g))):=λE av base w K v h=>lA av w v h
theorem YS (v:Int):LC 35 [.c (.im (.sl 1 5 (flat 1 [Go.V.I.v (Value.int IntKind.i64 3),Go.V.I.v (Value.int IntKind.i64 4),Go.V.I.v (Value.int IntKind.i64 10),Go.V.I.v (Value.int IntKind.i64 12),Go.V.I.v (Value.int IntKind.i64 14)]))),int v] [] (bool (nH v ⟨5,λi=>rI (flat 1 [Go.V.I.v (Value.int IntKind.i64 3),Go.V.I.v (Value.int IntKind.i64 4),Go.V.I.v (Value.int IntKind.i64 10),Go.V.I.v (Value.int IntKind.i64 12),Go.V.I.v (Value.int IntKind.i64 14)] i)⟩)) []:=
 bP.pre (Eo _ v) (.cons (sb (cH.sl λi hi j hj=>by
  have hj:j=0:=by omega
  subst hj
  have hi:i<5:=hi
  match i,hi with
  | 0,_=>exact cH.refl _
  | 1,_=>exact cH.refl _
  | 2,_=>exact cH.refl _
  | 3,_=>exact cH.refl _
  | 4,_=>exact cH.refl _)) (.cons (bh.refl _) .nil))
def vQ (s:Sq aj) (k:Nat) (x:aj):Sq aj:=⟨s.n,λi=>bif Nat.beq i k then x else s.get i⟩
theorem wT {s:Sq aj} {k:Nat} {x:aj} {l:List Fc} (h:IJ (bD x) l 0):aO (.bt 56 14 s.n (λi=>bD (s.get i)) (some (k,l))) (bR (vQ s k x)):=
 aO.WR (by show IJ (bD (bif Nat.beq k k then x else _)) l 0; rw [dq]; exact h) λi hi oZ j hj=>by
  show oF (bD (s.get i) j) (bD (bif Nat.beq i k then x else s.get i) j)
  rw [O3 oZ]
  exact oF.refl _
theorem iA {c:Bool} {p:Prop} (k:p) (h:c=true:=by first|exact dP hk|exact dq _):nd c p:=aC h k
theorem Ui (i0 e0:ag) (s:Sq aj) (k:Nat) (hk:k<s.n) (es:Sq ah):af 38 2 (Go.V.b8 [i0,e0] (bool true) [bR (vQ s k sT),eS es]) (ai 38 20) (yu s.n k (λi=>bD (s.get i)) (s.get k) es):=by
 refine aF (X:=XR) (stop:=vH) (NL _ _ s.n k (λi=>bD (s.get i)) (s.get k) es ?_)
 refine iA ?_
 exact ⟨[0,1],bool true,_,_,rfl,(.cons (wT (x:=sT) ⟨aW.aE _,aW.aE _,aW.aE _,aW.aE _,aW.aE _,aW.nil,aW.aE _,aW.aE _,aW.aE _,aW.nR,aW.aE _,aW.aE _,aW.aE _,aW.aE _,trivial⟩) (rc .nil)),⟨2,aQ rfl,aQ rfl,rfl,rfl,bh.refl _,⟨.inr rfl,⟨.inr rfl,trivial⟩⟩⟩⟩
theorem VF (i0 e0:ag) (s:Sq aj) (k:Nat) (hk:k<s.n) (es:Sq ah):af 38 2 (Go.V.b8 [i0,e0] (bool true) [bR (vQ s k sT),eS es]) (ai 38 16) (xt s.n k (λi=>bD (s.get i)) (s.get k) es):=by
 refine aF (X:=XR) (stop:=vH) (O9 _ _ s.n k (λi=>bD (s.get i)) (s.get k) es ?_)
 refine iA ?_
 exact ⟨[0,1],bool true,_,_,rfl,(.cons (wT (x:=sT) ⟨aW.aE _,aW.aE _,aW.aE _,aW.aE _,aW.aE _,aW.nil,aW.aE _,aW.aE _,aW.aE _,aW.nR,aW.aE _,aW.aE _,aW.aE _,aW.aE _,trivial⟩) (rc .nil)),⟨2,aQ rfl,aQ rfl,rfl,rfl,bh.refl _,⟨.inr rfl,⟨.inr rfl,trivial⟩⟩⟩⟩
theorem XI (i0 e0:ag) (s:Sq aj) (k:Nat) (hk:k<s.n) (es:Sq ah):af 38 2 (Go.V.b8 [i0,e0] (bool true) [bR (vQ s k (DC (s.get k).once)),eS es]) (ai 38 8) (BM s.n k (λi=>bD (s.get i)) (s.get k) es):=by
 refine aF (X:=XR) (stop:=vH) (Ur _ _ s.n k (λi=>bD (s.get i)) (s.get k) es ?_)
 refine iA ?_
 refine iA ?_
 refine iA ?_
 refine iA ?_
 refine iA ?_
 refine iA ?_
 exact ⟨[0,1],bool true,_,_,rfl,(.cons (wT (x:=(DC (s.get k).once)) ⟨aW.aE _,aW.aE _,aW.aE _,aW.aE _,aW.aE _,aW.nil,aW.aE _,aW.aE _,aW.aE _,aW.nR,aW.aE _,aW.aE _,aW.aE _,aW.aE _,trivial⟩) (rc .nil)),⟨2,aQ rfl,aQ rfl,rfl,rfl,bh.refl _,⟨.inr rfl,⟨.inr rfl,trivial⟩⟩⟩⟩
theorem fC {c:Bool} {p:Prop} (k:p) (h:c=true:=by first|exact dP hk|exact a8 hk|exact dP hj|exact a8 hj):nd c p:=aC h k
theorem Xl (t:ae) (k:Nat) (hk:k<t.ins.n) (hS:bj t) (ho:(t.ins.get k).op=7∨(t.ins.get k).op=8∨(t.ins.get k).op=11∨(t.ins.get k).op=13):LC 38 [Gw t 0 1,Js 3 k 0 e9] [bR t.ins,eS t.aa] (bool true) [bR (vQ t.ins k sT),eS t.aa]:=by
 have n1:∀ {n:Int},n≠7->n≠8->n≠11->n≠13->((t.ins.get k).op==n)=true->False:=λa b c d h=>by have:=eq_of_beq h; omega
 have n2:eD (t.ins.get k).op [1,2,3,4,10,12,14,16,17]=false:=by rcases ho with q|q|q|q<;>rw [q]<;>rfl
 refine cV Xg (aQ (by kernel_rfl)) (dc (X:=XK .dead .dead) (stop:=vH) (ah8 _ _ t k .dead .dead ?_))
 refine fC ?_
 refine fC ?_
 refine aq (λh=>(n1 (by decide) (by decide) (by decide) (by decide) h).elim) (λ_=>?_)
 refine fC ?_
 refine aq (λh=>(n1 (by decide) (by decide) (by decide) (by decide) h).elim) (λ_=>?_)
 refine fC ?_
 refine aq (λh=>(n1 (by decide) (by decide) (by decide) (by decide) h).elim) (λ_=>?_)
 refine fC ?_
 refine ⟨ud _,?_⟩
 refine aq (λh=>Bool.noConfusion (n2.symm.trans h)) (λ_=>?_)
 refine af.rB 0 k (iY (bD (t.ins.get k)) 14 0) rfl hk rfl (af.rename [0,1,4] rfl ?_)
 exact af.lr (yu t.ins.n k (λi=>bD (t.ins.get i)) (t.ins.get k) t.aa) (Ui _ _ t.ins k hk t.aa)
theorem Yj (t:ae) (k:Nat) (hk:k<t.ins.n) (hS:bj t) (ho:(t.ins.get k).op=10):LC 38 [Gw t 0 1,Js 1 k 0 Fb] [bR t.ins,eS t.aa] (bool true) [bR (vQ t.ins k (DC (t.ins.get k).once)),eS t.aa]:=by
 refine cV Xg (aQ (by kernel_rfl)) (dc (X:=XK .dead .dead) (stop:=vH) (ag4 _ _ t k .dead .dead ?_))
 refine fC ?_
 refine ⟨tH _,?_⟩
 refine fC ?_
 refine ⟨YS _,?_⟩
 refine aq (λh=>by have h:(!nH (t.ins.get k).op ⟨5,λi=>rI (flat 1 [Go.V.I.v (Value.int IntKind.i64 3),Go.V.I.v (Value.int IntKind.i64 4),Go.V.I.v (Value.int IntKind.i64 10),Go.V.I.v (Value.int IntKind.i64 12),Go.V.I.v (Value.int IntKind.i64 14)] i)⟩)=true:=h; rw [ho] at h; exact Bool.noConfusion h) (λ_=>?_)
 refine af.rB 0 k (iY (bD (t.ins.get k)) 14 0) rfl hk rfl (af.rename [0,1,3] rfl ?_)
 exact af.lr (BM t.ins.n k (λi=>bD (t.ins.get i)) (t.ins.get k) t.aa) (XI _ _ t.ins k hk t.aa)
theorem XZ (t:ae) (k:Nat) (hk:k<t.ins.n) (hS:bj t) (j:Nat) (hjk:j<k) (h1:eD (t.ins.get k).op [1,2,3,4,10,12,14,16,17]=true) (h2:eD (t.ins.get j).op [1,2,3,4,10,12,14,16,17]=true) (h3:((t.ins.get k).op==17)=false) (h4:((t.ins.get j).op==17)=false) (h5:((t.ins.get k).op==1)=false):LC 38 [Gw t 0 1,Js 2 k j e9] [bR t.ins,eS t.aa] (bool true) [bR (vQ (aY (gQ k j) t.ins t.ins.n) k sT),eS (aY (iy k j) t.aa t.aa.n)]:=by
 have hj:j<t.ins.n:=by omega
 have hc:=λRS h=>bP.jS (ZI t (k:Int) (j:Int) hS) [0,1] RS rfl h
 refine cV Xg (aQ (by kernel_rfl)) (dc (X:=XK (bR (aY (gQ k j) t.ins t.ins.n)) (eS (aY (iy k j) t.aa t.aa.n))) (stop:=vH) (ap2 _ _ t k j (bR (aY (gQ k j) t.ins t.ins.n)) (eS (aY (iy k j) t.aa t.aa.n)) ?_))
 refine fC ?_
 refine aq (λh=>by have:=of_decide_eq_true h; omega) (λ_=>?_)
 refine fC ?_
 refine fC ?_
 refine fC ?_
 refine ⟨ud _,?_⟩
 refine aq (λh=>by rw [show eD (t.2.2 k).1 _=true from h1] at h; exact Bool.noConfusion h) (λ_=>?_)
 refine ⟨ud _,?_⟩
 refine aq (λh=>by rw [show eD (t.2.2 j).1 _=true from h2] at h; exact Bool.noConfusion h) (λ_=>?_)
 refine fC ?_
 refine aq (λh=>Bool.noConfusion (h3.symm.trans h)) (λ_=>?_)
 refine aq (λh=>Bool.noConfusion (h4.symm.trans h)) (λ_=>?_)
 refine fC ?_
 refine aq (λh=>Bool.noConfusion (h5.symm.trans h)) (λ_=>?_)
 refine ⟨hc _ ⟨rfl,aQ rfl,rfl,aQ rfl,rfl⟩,?_⟩
 refine af.rB 0 k (iY (bD ((aY (gQ k j) t.ins t.ins.n).get k)) 14 0) rfl hk rfl (af.rename [0,1,4] rfl ?_)
 exact af.lr (xt t.ins.n k (λi=>bD ((aY (gQ k j) t.ins t.ins.n).get i)) ((aY (gQ k j) t.ins t.ins.n).get k) (aY (iy k j) t.aa t.aa.n)) (VF _ _ (aY (gQ k j) t.ins t.ins.n) k hk (aY (iy k j) t.aa t.aa.n))
open Go Go.V
section
def XW (t:ae) (g:Nat->aj) (ge:Nat->ah):fN:={ F:=ext vh [(10,λds _=>(int (bH (fj ds 0)),[],[])),(37,λ_ rs=>(Gw t rs.length (rs.length+1),[],[bR t.ins,eS t.aa])),(38,λ_ _=>(bool true,[(3,bR ⟨t.ins.n,g⟩),(4,eS ⟨t.aa.n,ge⟩)],[]))],S:=zn }
def uT (t:ae) (g:Nat->aj) (ge:Nat->ah):ae:=⟨t.place,⟨t.ins.n,g⟩,⟨t.aa.n,ge⟩⟩
def rwZ:D:=.t [(true,[ci 0,ci 0,pZ,pZ]),(false,[ci 1])]
def SB (u:ae):D:=bif bH u != 0 then rwZ else .t [(true,lift (az u)),(false,[ci 0])]
end
def ai6:Nat->Bool:=cE
theorem ay2:Fn 20:={}
abbrev Qz:D:=.t [(.true,[(ci 0),(ci 0),(.im (.v (.slice .none 0 0))),(.im (.v (.slice .none 0 0)))]),(.false,[(ci 1)])]
abbrev xb (aw:Int) (aG:Nat) (bk:Int) (bN:iL):List C:=[(ci aw),(ci (↑aG:Int)),(ci bk),(ci bN.1),(ci bN.2),(.im (.v (.string bN.3)))]
theorem aJ6 (L:LP) (QD:D->Prop) (t:ae) (g:Nat->aj) (ge:Nat->ah) (kd:Int) (k:Nat) (j:Int) (v:iL) (h:(LC 10 [(fX t)] [] (int (bH t)) []/\br (bH t != 0) (QD (.t [(.true,[(ci 0),(ci 0),(.im (.v (.slice .none 0 0))),(.im (.v (.slice .none 0 0)))]),(.false,[(ci 31)])])) (br (decide ((↑k:Int)≥(↑t.2.1:Int))) (QD Qz) ((LC 37 [(fX t)] [(cu t),(.box (xb kd k j v)),cQ] (.a (sO t)) [(cu t),(.box (xb kd k j v)),cQ,(oK t),(vk t)]/\(LC 38 [(.a (sO t)),(.a (xb kd k j v))] [(cu t),(.box (xb kd k j v)),cQ,(oK t),(vk t),(.box (sO t))] (bool true) [(cu t),(.box (xb kd k j v)),cQ,(.bt 56 14 t.2.1 (λi=>bD (g i)) .none),(.bt 72 3 t.3.1 (λi=>bs (ge i)) .none),(.box (sO t))]/\(LC 10 [(.a [(ci t.1.1),(ci t.1.2),(.im (.sl 14 t.2.1 (λi j=>oI (bD (g i) j)))),(.im (.sl 3 t.3.1 (λi j=>oI (bs (ge i) j))))])] [] (int (bH { place:=t.1,ins:={ n:=t.2.1,get:=λi=>g i },aa:={ n:=t.3.1,get:=λi=>ge i } })) []/\br (bH { place:=t.1,ins:={ n:=t.2.1,get:=λi=>g i },aa:={ n:=t.3.1,get:=λi=>ge i } }!=0) (QD Qz) (QD (.t [(.true,[(ci t.1.1),(ci t.1.2),(.im (.sl 14 t.2.1 (λi j=>oI (bD (g i) j)))),(.im (.sl 3 t.3.1 (λi j=>oI (bs (ge i) j))))]),(.false,[(ci 0)])]))))))))):fx (XW t g ge) 20 ai6 L (bL QD) [a7 t,Js kd k j v] []:=km h
theorem U7 (x:aj):∀ j,j<14->cH (oI (bD x j)) (fT x j)
 | 0,_=>cH.refl _
 | 1,_=>cH.refl _
 | 2,_=>cH.refl _
 | 3,_=>cH.refl _
 | 4,_=>cH.refl _
 | 5,_=>cH.refl _
 | 6,_=>cH.refl _
 | 7,_=>cH.refl _
 | 8,_=>cH.refl _
 | 9,_=>cH.refl _
 | 10,_=>cH.refl _
 | 11,_=>cH.refl _
 | 12,_=>cH.refl _
 | 13,_=>cH.refl _
 | n+14,h=>absurd h (by omega)
theorem TT (x:cG):∀ j,j<4->cH (oI (fE x j)) (eX x j)
 | 0,_=>cH.refl _
 | 1,_=>cH.refl _
 | 2,_=>cH.refl _
 | 3,_=>cH.refl _
 | n+4,h=>absurd h (by omega)
theorem ZK (x:ah):∀ j,j<3->cH (oI (bs x j)) (dw x j)
 | 0,_=>cH.sl λi _ j hj=>H0 _ j hj
 | 1,_=>cH.sl λi _ j hj=>TT _ j hj
 | 2,_=>cH.refl _
 | n+3,h=>absurd h (by omega)
theorem KQ (u:ae):aB jg [.im (iI u.place.fn),.im (iI u.place.line),.im (.sl 14 u.ins.n λi j=>oI (bD (u.ins.get i) j)),.im (.sl 3 u.aa.n λi j=>oI (bs (u.aa.get i) j))] (lift (az u)):=
 .cons (jg.refl _) (.cons (jg.refl _) (.cons (jg.im (cH.sl λi _ j hj=>U7 _ j hj)) (.cons (jg.im (cH.sl λi _ j hj=>ZK _ j hj)) .nil)))
theorem Px (t:ae) (g:Nat->aj) (ge:Nat->ah) (kd:Int) (k:Nat) (j:Int) (v:iL) (hS:bj t) (hk:k<t.ins.n) (h0:bH t=0) (hSu:bj (uT t g ge)) (hc:LC 38 [Gw t 0 1,Js kd k j v] [bR t.ins,eS t.aa] (bool true) [bR ⟨t.ins.n,g⟩,eS ⟨t.aa.n,ge⟩]):LC 20 [a7 t,Js kd k j v] [] (SB (uT t g ge)) []:=by
 have hc:=λRS h=>bP.jS hc [3,4] RS rfl h
 refine pv (X:=XW t g ge) (stop:=ai6) ay2 (aJ6 _ _ t g ge kd k j v ⟨Gl t hS,aq (λh=>?_) (λ_=>aq (λh=>?_) (λ_=>⟨bP.jS (au1 t hS) [] _ rfl rfl,hc _ ⟨rfl,aQ rfl,rfl,aQ rfl,rfl⟩,bP.pre (Gl _ hSu) (.cons (Un (KQ (uT t g ge))) .nil),aq (λh=>?_) (λh=>?_)⟩))⟩)
 .rw [h0] at h; exact absurd h (by decide)
 .have h:=of_decide_eq_true h
  omega
 .have h:(bH (uT t g ge)!=0)=true:=h
  show bh _ (SB _)
  unfold SB
  rw [h]
  exact bh.refl _
 .have h:(bH (uT t g ge)!=0)=false:=h
  show bh _ (SB _)
  unfold SB
  rw [h]
  exact U5 (KQ (uT t g ge))
open Go Go.V
section
def F65:FuncId->List D->List ag->Out:=ext vh [(21,λds _=>(int (b6 (fj ds 0) (aI ds 1).toNat (aI ds 2).toNat),[],[]))]
def LO:fN:={ F:=F65 }
def tT (t:ae) (k:Nat):Nat->Nat->Bool
 | 0,_=>false
 | m+1,j=>bif ea (t.ins.get j).op&&b6 t k j==2 then true else bif decide ((t.ins.get j).exit≥0)||(jh (t.ins.get j).op&&b6 t k j != 0) then false else tT t k m (j+1)
def zb (t:ae) (k:Nat):Bool:=bif ea (t.ins.get k).op then tT t k (t.ins.n-(k+1)) (k+1) else false
def jt (kd k j:Int) (v:iL) (b:Bool):D:=.t [(true,[ci kd,ci k,ci j,ci v.kind,ci v.n,.im (iS v.s)]),(false,[.im (iB b)])]
end
def Nu:Nat->Bool:=λi=>Nat.beq i 5
theorem aI8:Fn 19:={}
abbrev lM (aw:ae) (aG:Nat):D:=bool (ea (aw.2.2 aG).1)
abbrev qm (aw:Nat):D:=.t [(.true,[(ci 3),(ci (↑aw:Int)),(ci 0),(ci 0),(ci 0),(.im (.v (.string ⟨⟨[]⟩⟩)))]),(.false,[(.im (.v (.bool false)))])]
abbrev yk:fp:=(6,((.c (.rt 2 0 0)),[]))
abbrev kq:ag:=.box [(ci 0),(ci 0),(ci 0),(ci 0),(ci 0),ff]
theorem aD3 (L:LP) (QD:D->Prop) (t:ae) (k:Nat) (h:nd (cM (↑k:Int) t.2.1) ((LC 36 (fB t k) [] (lM t k) []/\br (!ea (t.2.2 k).1) (QD (qm k)) (L (ai 19 5) ⟨[(jK k),de,ck,yk,(7,((int (IntKind.i64.wrap ((↑k:Int)+1))),[]))],[(cu t),kq,(jQ k)],[]⟩)))):fx LO 19 Nu L (bL QD) [a7 t,int k] []:=km h
abbrev w6:fp:=(2,(.c (.rt 0 0 0)),[])
def ua (t:ae) (k:Nat) (j:Nat):VS:=⟨[(oS k),w6,pq,(6,(.c (.rt 2 0 0)),[]),(7,int j,[])],[(cu t),kq,(jQ k)],[]⟩
abbrev Kz (aw:Nat):D:=.t [(.true,[(ci 3),(ci (↑aw:Int)),(ci 0),(ci 0),(ci 0),(.im (.v (.string ⟨⟨[]⟩⟩)))]),(.false,[(.im (.v (.bool true)))])]
abbrev uI (aw:ae) (aG:Nat):D:=bool (jh (aw.2.2 aG).1)
theorem OD (L:LP) (QD:D->Prop) (t:ae) (k:Nat) (j:Nat) (h:br (decide ((↑j:Int)<(↑t.2.1:Int))) (nd (cM (↑j:Int) t.2.1) ((LC 21 [(fX t),(int (↑k:Int)),(int (↑j:Int))] [] (int (b6 t k j)) []/\(LC 36 (fB t j) [] (lM t j) []/\br (ea (t.2.2 j).1) (br (b6 t k j==2) (QD (Kz k)) (br (decide ((t.2.2 j).10≥0)) (QD (qm k)) ((LC 31 (fB t j) [] (uI t j) []/\br (jh (t.2.2 j).1) (br (b6 t k j != 0) (QD (qm k)) (L (ai 19 5) ⟨[(jK k),de,ck,yk,(7,((int (IntKind.i64.wrap ((↑j:Int)+1))),[]))],[(cu t),kq,(jQ k),(iF t j)],[]⟩)) (L (ai 19 5) ⟨[(jK k),de,ck,yk,(7,((int (IntKind.i64.wrap ((↑j:Int)+1))),[]))],[(cu t),kq,(jQ k),(iF t j)],[]⟩))))) (br (decide ((t.2.2 j).10≥0)) (QD (qm k)) ((LC 31 (fB t j) [] (uI t j) []/\br (jh (t.2.2 j).1) (br (b6 t k j != 0) (QD (qm k)) (L (ai 19 5) ⟨[(jK k),de,ck,yk,(7,((int (IntKind.i64.wrap ((↑j:Int)+1))),[]))],[(cu t),kq,(jQ k),(iF t j)],[]⟩)) (L (ai 19 5) ⟨[(jK k),de,ck,yk,(7,((int (IntKind.i64.wrap ((↑j:Int)+1))),[]))],[(cu t),kq,(jQ k),(iF t j)],[]⟩)))))))) (QD (qm k))):cB LO 19 Nu L (bL QD) 5 (ua t k j):=km h
theorem Xr (t:ae) (k:Nat) (hk:k<t.ins.n) (hS:bj t) (hm:oq t) (a:Bool):∀ j,j<=t.ins.n->k<j->tT t k (t.ins.n-j) j=a->af 19 0 (bF (jt 3 k 0 e9 a)) (ai 19 5) (ua t k j):=by
 have hN:=hS.ins
 refine aU (λj hj ih hkj ha=>?_) (λhkj ha=>?_)
 .have e:t.ins.n-j=(t.ins.n-(j+1))+1:=by omega
  rw [e] at ha
  have hW:=dr hj (by unfold maxLen; omega:_<=maxLen)
  have h65:LC 21 [a7 t,int k,int j] [] (int (b6 t k j)) []:=by
   have:=NN t k j hk hj hS hm
   rw [show min k j=k by omega,show max k j=j by omega] at this
   exact this
  replace ih:=λ(_:k<j)=>ih (by omega)
  refine aR (X:=LO) (stop:=Nu) (OD _ _ t k j ?_)
  refine aq (λh0=>?_) (λh=>(dec_lt h hj).elim)
  refine aC (by exact a8 hj) ?_
  refine ⟨h65,?_⟩
  refine ⟨tX _,?_⟩
  refine aq (λh1=>?_) (λh1=>?_)
  .refine aq (λh2=>?_) (λh2=>?_)
   .simp only [tT,show (ea (t.ins.get j).op)=true from h1,show (b6 t k j==2)=true from h2,aL] at ha
    subst ha
    exact bh.refl _
   .refine aq (λh3=>?_) (λh3=>?_)
    .simp only [tT,show (ea (t.ins.get j).op)=true from h1,show (b6 t k j==2)=false from h2,show (decide ((t.ins.get j).exit≥0))=true from h3,aL] at ha
     subst ha
     exact bh.refl _
    .refine ⟨zc _,?_⟩
     refine aq (λh4=>?_) (λh4=>?_)
     .refine aq (λh5=>?_) (λh5=>?_)
      .simp only [tT,show (ea (t.ins.get j).op)=true from h1,show (b6 t k j==2)=false from h2,show (decide ((t.ins.get j).exit≥0))=false from h3,show (jh (t.ins.get j).op)=true from h4,show (b6 t k j != 0)=true from h5,aL] at ha
       subst ha
       exact bh.refl _
      .simp only [tT,show (ea (t.ins.get j).op)=true from h1,show (b6 t k j==2)=false from h2,show (decide ((t.ins.get j).exit≥0))=false from h3,show (jh (t.ins.get j).op)=true from h4,show (b6 t k j != 0)=false from h5,aL] at ha
       rw [hW]
       exact af.rename [0,1,2] rfl (af.lr (ua t k (j+1)) (ih hkj ha))
     .simp only [tT,show (ea (t.ins.get j).op)=true from h1,show (b6 t k j==2)=false from h2,show (decide ((t.ins.get j).exit≥0))=false from h3,show (jh (t.ins.get j).op)=false from h4,aL] at ha
      rw [hW]
      exact af.rename [0,1,2] rfl (af.lr (ua t k (j+1)) (ih hkj ha))
  .refine aq (λh2=>?_) (λh2=>?_)
   .simp only [tT,show (ea (t.ins.get j).op)=false from h1,show (decide ((t.ins.get j).exit≥0))=true from h2,aL] at ha
    subst ha
    exact bh.refl _
   .refine ⟨zc _,?_⟩
    refine aq (λh3=>?_) (λh3=>?_)
    .refine aq (λh4=>?_) (λh4=>?_)
     .simp only [tT,show (ea (t.ins.get j).op)=false from h1,show (decide ((t.ins.get j).exit≥0))=false from h2,show (jh (t.ins.get j).op)=true from h3,show (b6 t k j != 0)=true from h4,aL] at ha
      subst ha
      exact bh.refl _
     .simp only [tT,show (ea (t.ins.get j).op)=false from h1,show (decide ((t.ins.get j).exit≥0))=false from h2,show (jh (t.ins.get j).op)=true from h3,show (b6 t k j != 0)=false from h4,aL] at ha
      rw [hW]
      exact af.rename [0,1,2] rfl (af.lr (ua t k (j+1)) (ih hkj ha))
    .simp only [tT,show (ea (t.ins.get j).op)=false from h1,show (decide ((t.ins.get j).exit≥0))=false from h2,show (jh (t.ins.get j).op)=false from h3,aL] at ha
     rw [hW]
     exact af.rename [0,1,2] rfl (af.lr (ua t k (j+1)) (ih hkj ha))
 .rw [Nat.sub_self] at ha
  refine aR (X:=LO) (stop:=Nu) (OD _ _ t k _ ?_)
  refine aq (λh=>bS h) (λh=>?_)
  have ha:false=a:=ha
  subst ha
  exact bh.refl _
theorem an5 (t:ae) (k:Nat) (hk:k<t.ins.n) (hS:bj t) (hm:oq t):LC 19 [a7 t,int k] [] (jt 3 k 0 e9 (zb t k)) []:=by
 have hN:=hS.ins
 refine pv (X:=LO) (stop:=Nu) aI8 (aD3 _ _ t k (aC (a8 hk) ⟨tX _,aq (λh=>?_) (λh=>?_)⟩))
 .have h:(!ea (t.ins.get k).op)=true:=h
  rw [show zb t k=false from by unfold zb; rw [show ea (t.ins.get k).op=false from by simpa using h]; rfl]
  exact bh.refl _
 .have h:(!ea (t.ins.get k).op)=false:=h
  have e:zb t k=tT t k (t.ins.n-(k+1)) (k+1):=by unfold zb; rw [show ea (t.ins.get k).op=true from by simpa using h]; rfl
  rw [dr hk (by unfold maxLen; omega)]
  exact Xr t k hk hS hm _ (k+1) hk (Nat.lt_succ_self k) e.symm
open Go Go.V
section
def L3 (dC:Int->Bool) (y1 y2:Int->ag):fN:={ F:=vh,S:=[1,2,8],FY:=λr ds rs=>(bool (!dC (aI ds 0)),[(1,y1 (aI ds 0)),(2,y2 (aI ds 0)),(r,E9 (!dC (aI ds 0)) (aV rs r))],[]) }
def zA (t:ae) (dC:Int->Bool):Nat->Option Nat
 | 0=>none
 | j+1=>bif !(t.ins.get j).once then bif dC (Int.ofNat j) then some j else zA t dC j else zA t dC j
end
def Bg:Nat->Bool:=λi=>Nat.beq i 1
theorem aq8:Fn 56:={}
abbrev Io:fp:=(2,((.c (.rt 5 0 0)),[]))
abbrev oV (aw:Nat):ag:=.box [(ci (↑aw:Int))]
theorem ac3 (L:LP) (QE:D->List ag->Prop) (dC:Int->Bool) (y1 y2:Int->ag) (t:ae) (k:Nat) (r0 r1 r2 r3 r4 r5:ag) (f N:Nat) (sl:aK) (ps:List Tmp) (ca cb:Code) (h:L (ai 56 1) ⟨[(0,((.c (.yl 8)),[])),Io,(4,((int (IntKind.i64.wrap ((↑k:Int)-1))),[]))],[r0,r1,r2,r3,r4,(cu t),(oV k),r5,(j4 f N sl ps ca cb)],[]⟩):fx (L3 dC y1 y2) 56 Bg L QE [.c (.yl 8),.c (.rt 6 0 0),.c (.rt 5 0 0)] [r0,r1,r2,r3,r4,.box (lift (az t)),.box [.im (iI k)],r5,.loop f N sl ps ca cb .ready none]:=km h
def Jr (dC:Int->Bool) (y1 y2:Int->ag) (t:ae) (k:Nat) (r0 r1 r2 r3 r4 r5:ag) (f N:Nat) (sl:aK) (ps:List Tmp) (ca cb:Code) (j:Nat):VS:=⟨[(0,.c (.yl 8),[]),(2,.c (.rt 5 0 0),[]),(4,int j,[])],[r0,r1,r2,r3,r4,.box (lift (az t)),.box [.im (iI k)],r5,.loop f N sl ps ca cb .ready none],[]⟩
theorem SG (L:LP) (QE:D->List ag->Prop) (dC:Int->Bool) (y1 y2:Int->ag) (t:ae) (k:Nat) (r0 r1 r2 r3 r4 r5:ag) (f N:Nat) (sl:aK) (ps:List Tmp) (ca cb:Code) (j:Nat) (h:nd (cM (↑j:Int) t.2.1) (br (!(t.2.2 j).11) ((mO my Try.prog 8 [(int (↑j:Int)),(.a (lift (aN (t.2.2 j))))] [r0,r1,r2,r3,r4,(.box (lift (az (t)))),(.box [(ci (↑k:Int))]),r5,(.loop f N sl ps ca cb .ready none),(.box (lift (aN (t.2.2 j))))] (bool (!dC (Int.ofNat j))) [r0,(y1 (Int.ofNat j)),(y2 (Int.ofNat j)),r3,r4,(.box (lift (az (t)))),(.box [(ci (↑k:Int))]),r5,(.loop f N sl ps ca cb (bif !dC (Int.ofNat j) then LoopState.ready else LoopState.done) (bif !dC (Int.ofNat j) then none else some Code.ret)),(.box (lift (aN (t.2.2 j))))]/\br (!!dC (Int.ofNat j)) (QE (.t []) [r0,(y1 (Int.ofNat j)),(y2 (Int.ofNat j)),r3,r4,(.box (lift (az (t)))),(.box [(ci (↑k:Int))]),r5,(.loop f N sl ps ca cb (bif !dC (Int.ofNat j) then LoopState.ready else LoopState.done) (bif !dC (Int.ofNat j) then none else some Code.ret)),(.box (lift (aN (t.2.2 j))))]) (L (ai 56 1) ⟨[(0,((.c (.yl 8)),[])),Io,(4,((int (IntKind.i64.wrap ((↑j:Int)-1))),[]))],[r0,(y1 (Int.ofNat j)),(y2 (Int.ofNat j)),r3,r4,(cu t),(oV k),r5,(.loop f N sl ps ca cb (bif !dC (Int.ofNat j) then LoopState.ready else LoopState.done) (bif !dC (Int.ofNat j) then none else some Code.ret)),(iF t j)],[]⟩))) (L (ai 56 1) ⟨[(0,((.c (.yl 8)),[])),Io,(4,((int (IntKind.i64.wrap ((↑j:Int)-1))),[]))],[r0,r1,r2,r3,r4,(cu t),(oV k),r5,(j4 f N sl ps ca cb),(iF t j)],[]⟩))):cB (L3 dC y1 y2) 56 Bg L QE 1 (Jr dC y1 y2 t k r0 r1 r2 r3 r4 r5 f N sl ps ca cb j):=km h
def RT (dC:Int->Bool) (y1 y2:Int->ag) (t:ae) (k:Nat) (r0 r1 r2 r3 r4 r5:ag) (f N:Nat) (sl:aK) (ps:List Tmp) (ca cb:Code)  : VS:=⟨[(0,.c (.yl 8),[]),(2,.c (.rt 5 0 0),[]),(4,int (-1),[])],[r0,r1,r2,r3,r4,.box (lift (az t)),.box [.im (iI k)],r5,.loop f N sl ps ca cb .ready none],[]⟩
theorem PB (L:LP) (QE:D->List ag->Prop) (dC:Int->Bool) (y1 y2:Int->ag) (t:ae) (k:Nat) (r0 r1 r2 r3 r4 r5:ag) (f N:Nat) (sl:aK) (ps:List Tmp) (ca cb:Code)  (h:QE (.t []) [r0,r1,r2,r3,r4,(.box (lift (az (t)))),(.box [(ci (↑k:Int))]),r5,(.loop f N sl ps ca cb .ready none)]):cB (L3 dC y1 y2) 56 Bg L QE 1 (RT dC y1 y2 t k r0 r1 r2 r3 r4 r5 f N sl ps ca cb ):=km h
def Qm (dC:Int->Bool) (y1 y2:Int->ag) (t:ae) (k:Nat) (r0 r1 r2 r3 r4 r5:ag) (f N:Nat) (sl:aK) (ps:List Tmp) (ca cb:Code) (o:Option Nat):List ag:=match o with
 | none=>[r0,r1,r2,r3,r4,.box (lift (az t)),.box [.im (iI k)],r5,.loop f N sl ps ca cb .ready none]
 | some j=>[r0,(y1 (Int.ofNat j)),(y2 (Int.ofNat j)),r3,r4,.box (lift (az t)),.box [.im (iI k)],r5,.loop f N sl ps ca cb .done (some .ret)]
def stB (dC:Int->Bool) (y1 y2:Int->ag) (t:ae) (k:Nat) (r0 r1 r2 r3 r4 r5:ag) (f N:Nat) (sl:aK) (ps:List Tmp) (ca cb:Code):Nat->VS
 | 0=>⟨[(0,.c (.yl 8),[]),(2,.c (.rt 5 0 0),[]),(4,int (-1),[])],[r0,r1,r2,r3,r4,.box (lift (az t)),.box [.im (iI k)],r5,.loop f N sl ps ca cb .ready none],[]⟩
 | j+1=>Jr dC y1 y2 t k r0 r1 r2 r3 r4 r5 f N sl ps ca cb j
theorem yo (j:Nat) (hj:j<=1000):IntKind.i64.wrap ((j:Int)-1)=match j with|0 => -1|j+1=>(j:Int):=by
 cases j with
 | zero=>rfl
 | succ j=>rw [show ((j+1:Nat):Int)-1=(j:Int) by omega]; exact mC (by omega)
theorem ac4 (dC:Int->Bool) (y1 y2:Int->ag) (t:ae) (k:Nat) (r0 r1 r2 r3 r4 r5:ag) (f N:Nat) (sl:aK) (ps:List Tmp) (ca cb:Code) (hy:∀ (j:Nat) (x:ag),j<k->(t.ins.get j).once=false->mO my Try.prog 8 [int j,gL (t.ins.get j)] [r0,r1,r2,r3,r4,.box (lift (az t)),.box [.im (iI k)],r5,.loop f N sl ps ca cb .ready none,x] (bool (!dC (Int.ofNat j))) [r0,(y1 (Int.ofNat j)),(y2 (Int.ofNat j)),r3,r4,.box (lift (az t)),.box [.im (iI k)],r5,.loop f N sl ps ca cb (bif !dC (Int.ofNat j) then .ready else .done) (bif !dC (Int.ofNat j) then none else some .ret),x]) (hk:k<=t.ins.n) (hN:t.ins.n<=1000) (hw:eP 9 [r0,r1,r2,r3,r4,.box (lift (az t)),.box [.im (iI k)],r5,.loop f N sl ps ca cb .ready none]) (he:∀ j:Nat,dC (Int.ofNat j)=false->y1 (Int.ofNat j)=r1/\y2 (Int.ofNat j)=r2) (hl:∀ j:Nat,ib 9 (y1 (Int.ofNat j))=true/\ib 9 (y2 (Int.ofNat j))=true):∀ j,j<=k->af 56 9 (Go.V.Ends [r0,r1,r2,r3,r4,.box (lift (az t)),.box [.im (iI k)],r5,.loop f N sl ps ca cb .ready none] (.t []) (Qm dC y1 y2 t k r0 r1 r2 r3 r4 r5 f N sl ps ca cb (zA t dC j))) (ai 56 1) (stB dC y1 y2 t k r0 r1 r2 r3 r4 r5 f N sl ps ca cb j):=by
 intro j
 induction j with
 | zero=>
   intro _
   refine aF (X:=L3 dC y1 y2) (stop:=Bg) (PB _ _ dC y1 y2 t k r0 r1 r2 r3 r4 r5 f N sl ps ca cb ?_)
   exact ⟨9,aQ rfl,aQ rfl,rfl,rfl,bh.refl _,by repeat' (first|exact trivial|refine ⟨.inl (.inl rfl),?_⟩|refine ⟨.inr (hl 0).1,?_⟩|refine ⟨.inr (hl 0).2,?_⟩|refine ⟨.inl (.inr ⟨_,_,_,_,_,_,_,_,_,_,rfl,rfl⟩),?_⟩|done)⟩
 | succ j Av=>
   intro hj
   have Av:=Av (by omega)
   refine aF (X:=L3 dC y1 y2) (stop:=Bg) (SG _ _ dC y1 y2 t k r0 r1 r2 r3 r4 r5 f N sl ps ca cb j ?_)
   refine aC (by exact a8 (by omega)) ?_
   refine aq (λh0=>?_) (λh0=>?_)
   .refine ⟨hy j _ (by omega) (by simpa using h0),?_⟩
    refine aq (λh1=>?_) (λh1=>?_)
    .have h1:(!!dC (Int.ofNat j))=true:=h1
     have h1:dC (Int.ofNat j)=true:=by simpa using h1
     have h0:(!(t.ins.get j).once)=true:=h0
     rw [show zA t dC (j+1)=some j from by show (bif !(t.ins.get j).once then _ else _)=_; rw [h0,h1]; rfl,h1]
     exact ⟨9,aQ rfl,aQ rfl,rfl,rfl,bh.refl _,by repeat' (first|exact trivial|refine ⟨.inl (.inl rfl),?_⟩|refine ⟨.inr (hl j).1,?_⟩|refine ⟨.inr (hl j).2,?_⟩|refine ⟨.inl (.inr ⟨_,_,_,_,_,_,_,_,_,_,rfl,rfl⟩),?_⟩|done)⟩
    .have h1:(!!dC (Int.ofNat j))=false:=h1
     have h1:dC (Int.ofNat j)=false:=by simpa using h1
     have h0:(!(t.ins.get j).once)=true:=h0
     rw [show zA t dC (j+1)=zA t dC j from by show (bif !(t.ins.get j).once then _ else _)=_; rw [h0,h1]; rfl] at *
     rw [(he j h1).1,(he j h1).2,h1]
     refine af.cut 9 (bG _) (aQ rfl) rfl rfl hw ?_
     rw [yo j (by omega)]
     cases j with
     | zero=>exact Av
     | succ j=>exact Av
   .have h0:(!(t.ins.get j).once)=false:=h0
    rw [show zA t dC (j+1)=zA t dC j from by show (bif !(t.ins.get j).once then _ else _)=_; rw [h0]; rfl] at *
    refine af.cut 9 (bG _) (aQ rfl) rfl rfl hw ?_
    rw [yo j (by omega)]
    cases j with
    | zero=>exact Av
    | succ j=>exact Av
theorem I1 (dC:Int->Bool) (y1 y2:Int->ag) (t:ae) (k:Nat) (r0 r1 r2 r3 r4 r5:ag) (f N:Nat) (sl:aK) (ps:List Tmp) (ca cb:Code) (hy:∀ (j:Nat) (x:ag),j<k->(t.ins.get j).once=false->mO my Try.prog 8 [int j,gL (t.ins.get j)] [r0,r1,r2,r3,r4,.box (lift (az t)),.box [.im (iI k)],r5,.loop f N sl ps ca cb .ready none,x] (bool (!dC (Int.ofNat j))) [r0,(y1 (Int.ofNat j)),(y2 (Int.ofNat j)),r3,r4,.box (lift (az t)),.box [.im (iI k)],r5,.loop f N sl ps ca cb (bif !dC (Int.ofNat j) then .ready else .done) (bif !dC (Int.ofNat j) then none else some .ret),x]) (hk:k<=t.ins.n) (hN:t.ins.n<=1000) (hw:eP 9 [r0,r1,r2,r3,r4,.box (lift (az t)),.box [.im (iI k)],r5,.loop f N sl ps ca cb .ready none]) (he:∀ j:Nat,dC (Int.ofNat j)=false->y1 (Int.ofNat j)=r1/\y2 (Int.ofNat j)=r2) (hl:∀ j:Nat,ib 9 (y1 (Int.ofNat j))=true/\ib 9 (y2 (Int.ofNat j))=true):LC 56 [.c (.yl 8),.c (.rt 6 0 0),.c (.rt 5 0 0)] [r0,r1,r2,r3,r4,.box (lift (az t)),.box [.im (iI k)],r5,.loop f N sl ps ca cb .ready none] (.t []) (Qm dC y1 y2 t k r0 r1 r2 r3 r4 r5 f N sl ps ca cb (zA t dC k)):=by
 refine gZ aq8 (aQ (by kernel_rfl)) (dc (X:=L3 dC y1 y2) (stop:=Bg) (ac3 _ _ dC y1 y2 t k r0 r1 r2 r3 r4 r5 f N sl ps ca cb ?_))
 rw [yo k (by omega)]
 have:=ac4 dC y1 y2 t k r0 r1 r2 r3 r4 r5 f N sl ps ca cb hy hk hN hw he hl k (bG _)
 revert this
 cases k with
 | zero=>exact id
 | succ k=>exact id
def Wm:Nat->Bool:=cE
theorem aq2:Fn 34:={}
theorem am4 (L:LP) (QE:D->List ag->Prop) (t:ae) (k:Nat) (h:QE (.c (.dM 56 [1,0])) [(.box (lift (az (t)))),(.box [(ci (↑k:Int))])]):fx LO 34 Wm L QE [a7 t,int k] []:=km h
theorem tZ (t:ae) (k:Nat):LC 34 [a7 t,int k] [] (.c (.dM 56 [1,0])) [.box (lift (az t)),.box [.im (iI k)]]:=
 cV aq2 (aQ (by kernel_rfl)) (dc (X:=LO) (stop:=Wm) (am4 _ _ t k ⟨[0,1],.c (.dM 56 [1,0]),_,_,rfl,(rc (rc .nil)),⟨2,aQ rfl,aQ rfl,rfl,rfl,bh.refl _,⟨rfl,⟨rfl,trivial⟩⟩⟩⟩))
open Go Go.V
section
def kf (kd Yl zS:Int) (v:iL):ag:=.box [ci kd,ci Yl,ci zS,ci v.kind,ci v.n,.im (iS v.s)]
def mw (b:Bool):ag:=.box [.im (iB b)]
def F99:FuncId->List D->List ag->Out:=ext F65 [(34,λds rs=>(.c (.dM 56 [rs.length+1,rs.length]),[],[.box (lift (az (fj ds 0))),.box [.im (iI (aI ds 1))]]))]
def X99 (p:Bool) (kd Yl zS:Int) (b:Bool):fN:={ F:=F99,S:=[1,2,8],B:=λ_ _ _=>p,R1:=λ_ _ _=>(.t [],[],[]),R2:=λ_ ds rs=>(.t [],[(1,kf kd Yl zS e9),(2,mw b),(8,E9 false (aV rs 8))],[]) }
def jV (t:ae) (k j:Nat):Int×Int×Int×Bool:=bif b6 t j k==2 then (bif jh (t.ins.get j).op then (2,(k:Int),(j:Int),true) else bif (t.ins.get j).op==11 then (2,(k:Int),(t.ins.get j).b,true) else (2,(k:Int),(t.ins.get j).c,true)) else (0,0,0,false)
def j5 (t:ae) (k j:Nat):Bool:=(jh (t.ins.get j).op||ea (t.ins.get j).op)&&(b6 t j k==2||(b6 t j k==1&&ea (t.ins.get j).op))
def EI (t:ae) (k:Nat) (j:Int):Bool:=j5 t k j.toNat
def vV (t:ae) (k:Nat) (j:Int):ag:=bif j5 t k j.toNat then kf (jV t k j.toNat).1 (jV t k j.toNat).2.1 (jV t k j.toNat).2.2.1 e9 else kf 0 0 0 e9
def vF (t:ae) (k:Nat) (j:Int):ag:=bif j5 t k j.toNat then mw (jV t k j.toNat).2.2.2 else mw false
def HM (t:ae) (k:Nat):Bool:=bif (t.ins.get k).op==10 then bif (t.ins.get (t.ins.get k).a.toNat).op==16 then decide ((t.ins.get k).n<((t.ins.get (t.ins.get k).a.toNat).names.n:Int)) else false else false
def Oc (t:ae) (k:Nat):D:=match zA t (EI t k) k with
 | some j=>jt (jV t k j).1 (jV t k j).2.1 (jV t k j).2.2.1 e9 (jV t k j).2.2.2
 | none=>jt 1 k 0 Fb (HM t k)
def Jc:aK:=[(2,.c (.rt 0 0 0),[]),(3,.c (.rt 3 0 0),[]),(4,.c (.rt 1 0 0),[]),(5,.c (.rt 2 0 0),[]),(6,.c (.rt 4 0 0),[]),(18,.c (.dM 56 [6,5]),[])]
end
def Lc:Nat->Bool:=λi=>Nat.beq i 2
theorem ak7:Fn 32:={}
theorem au0 (L:LP) (QD:D->Prop) (p:Bool) (kd mN gY:Int) (b:Bool) (t:ae) (k:Nat) (h:nd (cM (↑k:Int) t.2.1) (L (ai 32 2) ⟨[de,kb,Cy,(5,((.c (.rt 3 0 0)),[])),H5],[(cu t),(oV k),kq,(.box [dS]),(iF t k)],[]⟩)):fx (X99 p kd mN gY b) 32 Lc L (bL QD) [a7 t,int k] []:=km h
def HL (p:Bool) (kd mN gY:Int) (b:Bool) (t:ae) (k:Nat)  : VS:=⟨[jq,(3,.c (.rt 3 0 0),[]),lx,(5,.c (.rt 2 0 0),[]),(6,.c (.rt 4 0 0),[])],[.box (lift (az t)),kf 0 0 0 e9,mw false,.box [.im (iI k)],.box (lift (aN (t.ins.get k)))],[]⟩
abbrev tP (aw:ae) (aG:Nat):List D:=[(fX aw),(int (↑aG:Int))]
abbrev nT (aw:Nat):ag:=.box [(ci (Int.ofNat aw))]
abbrev uN:List D:=[(.c (.yl 8)),(.c (.rt 6 0 0)),(.c (.rt 5 0 0))]
abbrev RH (aw:ae) (aG:Nat):List ag:=[(cu aw),kq,(.box [dS]),(oV aG),(iF aw aG),(cu aw),(nT aG),.kA,(.loop 32 104 [(2,((.c (.rt 0 0 0)),[])),(3,((.c (.rt 3 0 0)),[])),(4,((.c (.rt 1 0 0)),[])),(5,((.c (.rt 2 0 0)),[])),(6,((.c (.rt 4 0 0)),[])),(18,((.c (.dM 56 [6,5])),[]))] [19,20] (gr 32) (gq 32) .ready none)]
abbrev Qp (aw:Nat):D:=.t [(.true,[(ci 1),(ci (↑aw:Int)),(ci 0),(ci 1),(ci 0),(.im (.v (.string ⟨⟨[]⟩⟩)))]),(.false,[(.im (.v (.bool false)))])]
theorem Q6 (L:LP) (QD:D->Prop) (p:Bool) (kd mN gY:Int) (b:Bool) (t:ae) (k:Nat)  (h:(LC 34 (tP t k) [(cu t),kq,(.box [dS]),(oV k),(iF t k)] (.c (.dM 56 [6,5])) [(cu t),kq,(.box [dS]),(oV k),(iF t k),(cu t),(nT k)]/\br (p) ((LC 56 uN (RH t k) (.t []) (RH t k)/\br ((t.2.2 k).1==10) (nd (cM (t.2.2 k).2 t.2.1) (br ((t.2.2 (t.2.2 k).2.toNat).1==16) (nd (cM (t.2.2 k).2 t.2.1) (QD (.t [(.true,[(ci 1),(ci (↑k:Int)),(ci 0),(ci 1),(ci 0),(.im (.v (.string ⟨⟨[]⟩⟩)))]),(.false,[(.im (.v (.bool (decide ((t.2.2 k).5<(↑(t.2.2 (t.2.2 k).2.toNat).8.1:Int))))))])]))) (QD (Qp k)))) (QD (Qp k)))) ((LC 56 uN (RH t k) (.t []) [(cu t),(.box [(ci kd),(ci mN),(ci gY),(ci 0),(ci 0),ff]),(.box [(.im (.v (.bool b)))]),(oV k),(iF t k),(cu t),(nT k),.kA,(.loop 32 104 [(2,((.c (.rt 0 0 0)),[])),(3,((.c (.rt 3 0 0)),[])),(4,((.c (.rt 1 0 0)),[])),(5,((.c (.rt 2 0 0)),[])),(6,((.c (.rt 4 0 0)),[])),(18,((.c (.dM 56 [6,5])),[]))] [19,20] (gr 32) (gq 32) .done (some .ret))]/\QD (.t [(.true,[(ci kd),(ci mN),(ci gY),(ci 0),(ci 0),(.im (.v (.string ⟨⟨[]⟩⟩)))]),(.false,[(.im (.v (.bool b)))])]))))):cB (X99 p kd mN gY b) 32 Lc L (bL QD) 2 (HL p kd mN gY b t k ):=km h
theorem pP {t:ae} {dC:Int->Bool} {j:Nat}:∀ {k:Nat},zA t dC k=some j->dC (Int.ofNat j)=true
 | 0,h=>by cases h
 | k+1,h=>by
   unfold zA at h
   cases h0 : !(t.ins.get k).once with
   | false=>rw [h0] at h; exact pP h
   | true=>
     cases h1:dC (Int.ofNat k) with
     | false=>rw [h0,h1] at h; exact pP h
     | true=>
       rw [h0,h1] at h
       have h:some k=some j:=h
       cases h
       exact h1
theorem at2 (QE:D->List ag->Prop) (t:ae) (k j:Nat) (r5 x:ag) (h:(LC 31 (fB t j) [] (uI t j) []/\br (!jh (t.2.2 j).1) ((LC 36 (fB t j) [] (lM t j) []/\br (!ea (t.2.2 j).1) (QE (bool true) [(.box (lift (az (t)))),(.box [(ci 0),(ci 0),(ci 0),(ci 0),(ci 0),(.im (.v (.string ⟨⟨[]⟩⟩)))]),(.box [(.im (.v (.bool false)))]),(.box [(ci (↑k:Int))]),(.box (lift (aN (t.2.2 k)))),(.box (lift (az (t)))),(.box [(ci (↑k:Int))]),r5,(.loop 32 104 [(2,((.c (.rt 0 0 0)),[])),(3,((.c (.rt 3 0 0)),[])),(4,((.c (.rt 1 0 0)),[])),(5,((.c (.rt 2 0 0)),[])),(6,((.c (.rt 4 0 0)),[])),(18,((.c (.dM 56 [6,5])),[]))] [19,20] (gr 32) (gq 32) .ready none),x,(.box (lift (aN (t.2.2 j))))]) ((LC 21 [(fX t),(int (↑j:Int)),(int (↑k:Int))] [] (int (b6 t j k)) []/\br (b6 t j k==2) ((LC 31 (fB t j) [] (uI t j) []/\br (jh (t.2.2 j).1) (QE (bool false) [(.box (lift (az (t)))),(.box [(ci 2),(ci (↑k:Int)),(ci (↑j:Int)),(ci 0),(ci 0),(.im (.v (.string ⟨⟨[]⟩⟩)))]),(.box [(.im (.v (.bool true)))]),(.box [(ci (↑k:Int))]),(.box (lift (aN (t.2.2 k)))),(.box (lift (az (t)))),(.box [(ci (↑k:Int))]),r5,(.loop 32 104 [(2,((.c (.rt 0 0 0)),[])),(3,((.c (.rt 3 0 0)),[])),(4,((.c (.rt 1 0 0)),[])),(5,((.c (.rt 2 0 0)),[])),(6,((.c (.rt 4 0 0)),[])),(18,((.c (.dM 56 [6,5])),[]))] [19,20] (gr 32) (gq 32) .done (some .ret)),x,(.box (lift (aN (t.2.2 j))))]) (br (b6 t j k==2) (br ((t.2.2 j).1==11) (QE (bool false) [(.box (lift (az (t)))),(.box [(ci 2),(ci (↑k:Int)),(ci ((t.2.2 j).3)),(ci 0),(ci 0),(.im (.v (.string ⟨⟨[]⟩⟩)))]),(.box [(.im (.v (.bool true)))]),(.box [(ci (↑k:Int))]),(.box (lift (aN (t.2.2 k)))),(.box (lift (az (t)))),(.box [(ci (↑k:Int))]),r5,(.loop 32 104 [(2,((.c (.rt 0 0 0)),[])),(3,((.c (.rt 3 0 0)),[])),(4,((.c (.rt 1 0 0)),[])),(5,((.c (.rt 2 0 0)),[])),(6,((.c (.rt 4 0 0)),[])),(18,((.c (.dM 56 [6,5])),[]))] [19,20] (gr 32) (gq 32) .done (some .ret)),x,(.box (lift (aN (t.2.2 j))))]) (br (b6 t j k==2) (QE (bool false) [(.box (lift (az (t)))),(.box [(ci 2),(ci (↑k:Int)),(ci ((t.2.2 j).4)),(ci 0),(ci 0),(.im (.v (.string ⟨⟨[]⟩⟩)))]),(.box [(.im (.v (.bool true)))]),(.box [(ci (↑k:Int))]),(.box (lift (aN (t.2.2 k)))),(.box (lift (az (t)))),(.box [(ci (↑k:Int))]),r5,(.loop 32 104 [(2,((.c (.rt 0 0 0)),[])),(3,((.c (.rt 3 0 0)),[])),(4,((.c (.rt 1 0 0)),[])),(5,((.c (.rt 2 0 0)),[])),(6,((.c (.rt 4 0 0)),[])),(18,((.c (.dM 56 [6,5])),[]))] [19,20] (gr 32) (gq 32) .done (some .ret)),x,(.box (lift (aN (t.2.2 j))))]) (br (b6 t j k==1) ((LC 36 (fB t j) [] (lM t j) []/\br (ea (t.2.2 j).1) (QE (bool false) [(.box (lift (az (t)))),(.box [(ci 0),(ci 0),(ci 0),(ci 0),(ci 0),(.im (.v (.string ⟨⟨[]⟩⟩)))]),(.box [(.im (.v (.bool false)))]),(.box [(ci (↑k:Int))]),(.box (lift (aN (t.2.2 k)))),(.box (lift (az (t)))),(.box [(ci (↑k:Int))]),r5,(.loop 32 104 [(2,((.c (.rt 0 0 0)),[])),(3,((.c (.rt 3 0 0)),[])),(4,((.c (.rt 1 0 0)),[])),(5,((.c (.rt 2 0 0)),[])),(6,((.c (.rt 4 0 0)),[])),(18,((.c (.dM 56 [6,5])),[]))] [19,20] (gr 32) (gq 32) .done (some .ret)),x,(.box (lift (aN (t.2.2 j))))]) (QE (bool true) [(.box (lift (az (t)))),(.box [(ci 0),(ci 0),(ci 0),(ci 0),(ci 0),(.im (.v (.string ⟨⟨[]⟩⟩)))]),(.box [(.im (.v (.bool false)))]),(.box [(ci (↑k:Int))]),(.box (lift (aN (t.2.2 k)))),(.box (lift (az (t)))),(.box [(ci (↑k:Int))]),r5,(.loop 32 104 [(2,((.c (.rt 0 0 0)),[])),(3,((.c (.rt 3 0 0)),[])),(4,((.c (.rt 1 0 0)),[])),(5,((.c (.rt 2 0 0)),[])),(6,((.c (.rt 4 0 0)),[])),(18,((.c (.dM 56 [6,5])),[]))] [19,20] (gr 32) (gq 32) .ready none),x,(.box (lift (aN (t.2.2 j))))]))) (QE (bool true) [(.box (lift (az (t)))),(.box [(ci 0),(ci 0),(ci 0),(ci 0),(ci 0),(.im (.v (.string ⟨⟨[]⟩⟩)))]),(.box [(.im (.v (.bool false)))]),(.box [(ci (↑k:Int))]),(.box (lift (aN (t.2.2 k)))),(.box (lift (az (t)))),(.box [(ci (↑k:Int))]),r5,(.loop 32 104 [(2,((.c (.rt 0 0 0)),[])),(3,((.c (.rt 3 0 0)),[])),(4,((.c (.rt 1 0 0)),[])),(5,((.c (.rt 2 0 0)),[])),(6,((.c (.rt 4 0 0)),[])),(18,((.c (.dM 56 [6,5])),[]))] [19,20] (gr 32) (gq 32) .ready none),x,(.box (lift (aN (t.2.2 j))))])))) (br (b6 t j k==2) (QE (bool false) [(.box (lift (az (t)))),(.box [(ci 2),(ci (↑k:Int)),(ci ((t.2.2 j).4)),(ci 0),(ci 0),(.im (.v (.string ⟨⟨[]⟩⟩)))]),(.box [(.im (.v (.bool true)))]),(.box [(ci (↑k:Int))]),(.box (lift (aN (t.2.2 k)))),(.box (lift (az (t)))),(.box [(ci (↑k:Int))]),r5,(.loop 32 104 [(2,((.c (.rt 0 0 0)),[])),(3,((.c (.rt 3 0 0)),[])),(4,((.c (.rt 1 0 0)),[])),(5,((.c (.rt 2 0 0)),[])),(6,((.c (.rt 4 0 0)),[])),(18,((.c (.dM 56 [6,5])),[]))] [19,20] (gr 32) (gq 32) .done (some .ret)),x,(.box (lift (aN (t.2.2 j))))]) (br (b6 t j k==1) ((LC 36 (fB t j) [] (lM t j) []/\br (ea (t.2.2 j).1) (QE (bool false) [(.box (lift (az (t)))),(.box [(ci 0),(ci 0),(ci 0),(ci 0),(ci 0),(.im (.v (.string ⟨⟨[]⟩⟩)))]),(.box [(.im (.v (.bool false)))]),(.box [(ci (↑k:Int))]),(.box (lift (aN (t.2.2 k)))),(.box (lift (az (t)))),(.box [(ci (↑k:Int))]),r5,(.loop 32 104 [(2,((.c (.rt 0 0 0)),[])),(3,((.c (.rt 3 0 0)),[])),(4,((.c (.rt 1 0 0)),[])),(5,((.c (.rt 2 0 0)),[])),(6,((.c (.rt 4 0 0)),[])),(18,((.c (.dM 56 [6,5])),[]))] [19,20] (gr 32) (gq 32) .done (some .ret)),x,(.box (lift (aN (t.2.2 j))))]) (QE (bool true) [(.box (lift (az (t)))),(.box [(ci 0),(ci 0),(ci 0),(ci 0),(ci 0),(.im (.v (.string ⟨⟨[]⟩⟩)))]),(.box [(.im (.v (.bool false)))]),(.box [(ci (↑k:Int))]),(.box (lift (aN (t.2.2 k)))),(.box (lift (az (t)))),(.box [(ci (↑k:Int))]),r5,(.loop 32 104 [(2,((.c (.rt 0 0 0)),[])),(3,((.c (.rt 3 0 0)),[])),(4,((.c (.rt 1 0 0)),[])),(5,((.c (.rt 2 0 0)),[])),(6,((.c (.rt 4 0 0)),[])),(18,((.c (.dM 56 [6,5])),[]))] [19,20] (gr 32) (gq 32) .ready none),x,(.box (lift (aN (t.2.2 j))))]))) (QE (bool true) [(.box (lift (az (t)))),(.box [(ci 0),(ci 0),(ci 0),(ci 0),(ci 0),(.im (.v (.string ⟨⟨[]⟩⟩)))]),(.box [(.im (.v (.bool false)))]),(.box [(ci (↑k:Int))]),(.box (lift (aN (t.2.2 k)))),(.box (lift (az (t)))),(.box [(ci (↑k:Int))]),r5,(.loop 32 104 [(2,((.c (.rt 0 0 0)),[])),(3,((.c (.rt 3 0 0)),[])),(4,((.c (.rt 1 0 0)),[])),(5,((.c (.rt 2 0 0)),[])),(6,((.c (.rt 4 0 0)),[])),(18,((.c (.dM 56 [6,5])),[]))] [19,20] (gr 32) (gq 32) .ready none),x,(.box (lift (aN (t.2.2 j))))])))))) (br (b6 t j k==2) (br ((t.2.2 j).1==11) (QE (bool false) [(.box (lift (az (t)))),(.box [(ci 2),(ci (↑k:Int)),(ci ((t.2.2 j).3)),(ci 0),(ci 0),(.im (.v (.string ⟨⟨[]⟩⟩)))]),(.box [(.im (.v (.bool true)))]),(.box [(ci (↑k:Int))]),(.box (lift (aN (t.2.2 k)))),(.box (lift (az (t)))),(.box [(ci (↑k:Int))]),r5,(.loop 32 104 [(2,((.c (.rt 0 0 0)),[])),(3,((.c (.rt 3 0 0)),[])),(4,((.c (.rt 1 0 0)),[])),(5,((.c (.rt 2 0 0)),[])),(6,((.c (.rt 4 0 0)),[])),(18,((.c (.dM 56 [6,5])),[]))] [19,20] (gr 32) (gq 32) .done (some .ret)),x,(.box (lift (aN (t.2.2 j))))]) (br (b6 t j k==2) (QE (bool false) [(.box (lift (az (t)))),(.box [(ci 2),(ci (↑k:Int)),(ci ((t.2.2 j).4)),(ci 0),(ci 0),(.im (.v (.string ⟨⟨[]⟩⟩)))]),(.box [(.im (.v (.bool true)))]),(.box [(ci (↑k:Int))]),(.box (lift (aN (t.2.2 k)))),(.box (lift (az (t)))),(.box [(ci (↑k:Int))]),r5,(.loop 32 104 [(2,((.c (.rt 0 0 0)),[])),(3,((.c (.rt 3 0 0)),[])),(4,((.c (.rt 1 0 0)),[])),(5,((.c (.rt 2 0 0)),[])),(6,((.c (.rt 4 0 0)),[])),(18,((.c (.dM 56 [6,5])),[]))] [19,20] (gr 32) (gq 32) .done (some .ret)),x,(.box (lift (aN (t.2.2 j))))]) (br (b6 t j k==1) ((LC 36 (fB t j) [] (lM t j) []/\br (ea (t.2.2 j).1) (QE (bool false) [(.box (lift (az (t)))),(.box [(ci 0),(ci 0),(ci 0),(ci 0),(ci 0),(.im (.v (.string ⟨⟨[]⟩⟩)))]),(.box [(.im (.v (.bool false)))]),(.box [(ci (↑k:Int))]),(.box (lift (aN (t.2.2 k)))),(.box (lift (az (t)))),(.box [(ci (↑k:Int))]),r5,(.loop 32 104 [(2,((.c (.rt 0 0 0)),[])),(3,((.c (.rt 3 0 0)),[])),(4,((.c (.rt 1 0 0)),[])),(5,((.c (.rt 2 0 0)),[])),(6,((.c (.rt 4 0 0)),[])),(18,((.c (.dM 56 [6,5])),[]))] [19,20] (gr 32) (gq 32) .done (some .ret)),x,(.box (lift (aN (t.2.2 j))))]) (QE (bool true) [(.box (lift (az (t)))),(.box [(ci 0),(ci 0),(ci 0),(ci 0),(ci 0),(.im (.v (.string ⟨⟨[]⟩⟩)))]),(.box [(.im (.v (.bool false)))]),(.box [(ci (↑k:Int))]),(.box (lift (aN (t.2.2 k)))),(.box (lift (az (t)))),(.box [(ci (↑k:Int))]),r5,(.loop 32 104 [(2,((.c (.rt 0 0 0)),[])),(3,((.c (.rt 3 0 0)),[])),(4,((.c (.rt 1 0 0)),[])),(5,((.c (.rt 2 0 0)),[])),(6,((.c (.rt 4 0 0)),[])),(18,((.c (.dM 56 [6,5])),[]))] [19,20] (gr 32) (gq 32) .ready none),x,(.box (lift (aN (t.2.2 j))))]))) (QE (bool true) [(.box (lift (az (t)))),(.box [(ci 0),(ci 0),(ci 0),(ci 0),(ci 0),(.im (.v (.string ⟨⟨[]⟩⟩)))]),(.box [(.im (.v (.bool false)))]),(.box [(ci (↑k:Int))]),(.box (lift (aN (t.2.2 k)))),(.box (lift (az (t)))),(.box [(ci (↑k:Int))]),r5,(.loop 32 104 [(2,((.c (.rt 0 0 0)),[])),(3,((.c (.rt 3 0 0)),[])),(4,((.c (.rt 1 0 0)),[])),(5,((.c (.rt 2 0 0)),[])),(6,((.c (.rt 4 0 0)),[])),(18,((.c (.dM 56 [6,5])),[]))] [19,20] (gr 32) (gq 32) .ready none),x,(.box (lift (aN (t.2.2 j))))])))) (br (b6 t j k==2) (QE (bool false) [(.box (lift (az (t)))),(.box [(ci 2),(ci (↑k:Int)),(ci ((t.2.2 j).4)),(ci 0),(ci 0),(.im (.v (.string ⟨⟨[]⟩⟩)))]),(.box [(.im (.v (.bool true)))]),(.box [(ci (↑k:Int))]),(.box (lift (aN (t.2.2 k)))),(.box (lift (az (t)))),(.box [(ci (↑k:Int))]),r5,(.loop 32 104 [(2,((.c (.rt 0 0 0)),[])),(3,((.c (.rt 3 0 0)),[])),(4,((.c (.rt 1 0 0)),[])),(5,((.c (.rt 2 0 0)),[])),(6,((.c (.rt 4 0 0)),[])),(18,((.c (.dM 56 [6,5])),[]))] [19,20] (gr 32) (gq 32) .done (some .ret)),x,(.box (lift (aN (t.2.2 j))))]) (br (b6 t j k==1) ((LC 36 (fB t j) [] (lM t j) []/\br (ea (t.2.2 j).1) (QE (bool false) [(.box (lift (az (t)))),(.box [(ci 0),(ci 0),(ci 0),(ci 0),(ci 0),(.im (.v (.string ⟨⟨[]⟩⟩)))]),(.box [(.im (.v (.bool false)))]),(.box [(ci (↑k:Int))]),(.box (lift (aN (t.2.2 k)))),(.box (lift (az (t)))),(.box [(ci (↑k:Int))]),r5,(.loop 32 104 [(2,((.c (.rt 0 0 0)),[])),(3,((.c (.rt 3 0 0)),[])),(4,((.c (.rt 1 0 0)),[])),(5,((.c (.rt 2 0 0)),[])),(6,((.c (.rt 4 0 0)),[])),(18,((.c (.dM 56 [6,5])),[]))] [19,20] (gr 32) (gq 32) .done (some .ret)),x,(.box (lift (aN (t.2.2 j))))]) (QE (bool true) [(.box (lift (az (t)))),(.box [(ci 0),(ci 0),(ci 0),(ci 0),(ci 0),(.im (.v (.string ⟨⟨[]⟩⟩)))]),(.box [(.im (.v (.bool false)))]),(.box [(ci (↑k:Int))]),(.box (lift (aN (t.2.2 k)))),(.box (lift (az (t)))),(.box [(ci (↑k:Int))]),r5,(.loop 32 104 [(2,((.c (.rt 0 0 0)),[])),(3,((.c (.rt 3 0 0)),[])),(4,((.c (.rt 1 0 0)),[])),(5,((.c (.rt 2 0 0)),[])),(6,((.c (.rt 4 0 0)),[])),(18,((.c (.dM 56 [6,5])),[]))] [19,20] (gr 32) (gq 32) .ready none),x,(.box (lift (aN (t.2.2 j))))]))) (QE (bool true) [(.box (lift (az (t)))),(.box [(ci 0),(ci 0),(ci 0),(ci 0),(ci 0),(.im (.v (.string ⟨⟨[]⟩⟩)))]),(.box [(.im (.v (.bool false)))]),(.box [(ci (↑k:Int))]),(.box (lift (aN (t.2.2 k)))),(.box (lift (az (t)))),(.box [(ci (↑k:Int))]),r5,(.loop 32 104 [(2,((.c (.rt 0 0 0)),[])),(3,((.c (.rt 3 0 0)),[])),(4,((.c (.rt 1 0 0)),[])),(5,((.c (.rt 2 0 0)),[])),(6,((.c (.rt 4 0 0)),[])),(18,((.c (.dM 56 [6,5])),[]))] [19,20] (gr 32) (gq 32) .ready none),x,(.box (lift (aN (t.2.2 j))))])))))))) ((LC 21 [(fX t),(int (↑j:Int)),(int (↑k:Int))] [] (int (b6 t j k)) []/\br (b6 t j k==2) ((LC 31 (fB t j) [] (uI t j) []/\br (jh (t.2.2 j).1) (QE (bool false) [(.box (lift (az (t)))),(.box [(ci 2),(ci (↑k:Int)),(ci (↑j:Int)),(ci 0),(ci 0),(.im (.v (.string ⟨⟨[]⟩⟩)))]),(.box [(.im (.v (.bool true)))]),(.box [(ci (↑k:Int))]),(.box (lift (aN (t.2.2 k)))),(.box (lift (az (t)))),(.box [(ci (↑k:Int))]),r5,(.loop 32 104 [(2,((.c (.rt 0 0 0)),[])),(3,((.c (.rt 3 0 0)),[])),(4,((.c (.rt 1 0 0)),[])),(5,((.c (.rt 2 0 0)),[])),(6,((.c (.rt 4 0 0)),[])),(18,((.c (.dM 56 [6,5])),[]))] [19,20] (gr 32) (gq 32) .done (some .ret)),x,(.box (lift (aN (t.2.2 j))))]) (br (b6 t j k==2) (br ((t.2.2 j).1==11) (QE (bool false) [(.box (lift (az (t)))),(.box [(ci 2),(ci (↑k:Int)),(ci ((t.2.2 j).3)),(ci 0),(ci 0),(.im (.v (.string ⟨⟨[]⟩⟩)))]),(.box [(.im (.v (.bool true)))]),(.box [(ci (↑k:Int))]),(.box (lift (aN (t.2.2 k)))),(.box (lift (az (t)))),(.box [(ci (↑k:Int))]),r5,(.loop 32 104 [(2,((.c (.rt 0 0 0)),[])),(3,((.c (.rt 3 0 0)),[])),(4,((.c (.rt 1 0 0)),[])),(5,((.c (.rt 2 0 0)),[])),(6,((.c (.rt 4 0 0)),[])),(18,((.c (.dM 56 [6,5])),[]))] [19,20] (gr 32) (gq 32) .done (some .ret)),x,(.box (lift (aN (t.2.2 j))))]) (br (b6 t j k==2) (QE (bool false) [(.box (lift (az (t)))),(.box [(ci 2),(ci (↑k:Int)),(ci ((t.2.2 j).4)),(ci 0),(ci 0),(.im (.v (.string ⟨⟨[]⟩⟩)))]),(.box [(.im (.v (.bool true)))]),(.box [(ci (↑k:Int))]),(.box (lift (aN (t.2.2 k)))),(.box (lift (az (t)))),(.box [(ci (↑k:Int))]),r5,(.loop 32 104 [(2,((.c (.rt 0 0 0)),[])),(3,((.c (.rt 3 0 0)),[])),(4,((.c (.rt 1 0 0)),[])),(5,((.c (.rt 2 0 0)),[])),(6,((.c (.rt 4 0 0)),[])),(18,((.c (.dM 56 [6,5])),[]))] [19,20] (gr 32) (gq 32) .done (some .ret)),x,(.box (lift (aN (t.2.2 j))))]) (br (b6 t j k==1) ((LC 36 (fB t j) [] (lM t j) []/\br (ea (t.2.2 j).1) (QE (bool false) [(.box (lift (az (t)))),(.box [(ci 0),(ci 0),(ci 0),(ci 0),(ci 0),(.im (.v (.string ⟨⟨[]⟩⟩)))]),(.box [(.im (.v (.bool false)))]),(.box [(ci (↑k:Int))]),(.box (lift (aN (t.2.2 k)))),(.box (lift (az (t)))),(.box [(ci (↑k:Int))]),r5,(.loop 32 104 [(2,((.c (.rt 0 0 0)),[])),(3,((.c (.rt 3 0 0)),[])),(4,((.c (.rt 1 0 0)),[])),(5,((.c (.rt 2 0 0)),[])),(6,((.c (.rt 4 0 0)),[])),(18,((.c (.dM 56 [6,5])),[]))] [19,20] (gr 32) (gq 32) .done (some .ret)),x,(.box (lift (aN (t.2.2 j))))]) (QE (bool true) [(.box (lift (az (t)))),(.box [(ci 0),(ci 0),(ci 0),(ci 0),(ci 0),(.im (.v (.string ⟨⟨[]⟩⟩)))]),(.box [(.im (.v (.bool false)))]),(.box [(ci (↑k:Int))]),(.box (lift (aN (t.2.2 k)))),(.box (lift (az (t)))),(.box [(ci (↑k:Int))]),r5,(.loop 32 104 [(2,((.c (.rt 0 0 0)),[])),(3,((.c (.rt 3 0 0)),[])),(4,((.c (.rt 1 0 0)),[])),(5,((.c (.rt 2 0 0)),[])),(6,((.c (.rt 4 0 0)),[])),(18,((.c (.dM 56 [6,5])),[]))] [19,20] (gr 32) (gq 32) .ready none),x,(.box (lift (aN (t.2.2 j))))]))) (QE (bool true) [(.box (lift (az (t)))),(.box [(ci 0),(ci 0),(ci 0),(ci 0),(ci 0),(.im (.v (.string ⟨⟨[]⟩⟩)))]),(.box [(.im (.v (.bool false)))]),(.box [(ci (↑k:Int))]),(.box (lift (aN (t.2.2 k)))),(.box (lift (az (t)))),(.box [(ci (↑k:Int))]),r5,(.loop 32 104 [(2,((.c (.rt 0 0 0)),[])),(3,((.c (.rt 3 0 0)),[])),(4,((.c (.rt 1 0 0)),[])),(5,((.c (.rt 2 0 0)),[])),(6,((.c (.rt 4 0 0)),[])),(18,((.c (.dM 56 [6,5])),[]))] [19,20] (gr 32) (gq 32) .ready none),x,(.box (lift (aN (t.2.2 j))))])))) (br (b6 t j k==2) (QE (bool false) [(.box (lift (az (t)))),(.box [(ci 2),(ci (↑k:Int)),(ci ((t.2.2 j).4)),(ci 0),(ci 0),(.im (.v (.string ⟨⟨[]⟩⟩)))]),(.box [(.im (.v (.bool true)))]),(.box [(ci (↑k:Int))]),(.box (lift (aN (t.2.2 k)))),(.box (lift (az (t)))),(.box [(ci (↑k:Int))]),r5,(.loop 32 104 [(2,((.c (.rt 0 0 0)),[])),(3,((.c (.rt 3 0 0)),[])),(4,((.c (.rt 1 0 0)),[])),(5,((.c (.rt 2 0 0)),[])),(6,((.c (.rt 4 0 0)),[])),(18,((.c (.dM 56 [6,5])),[]))] [19,20] (gr 32) (gq 32) .done (some .ret)),x,(.box (lift (aN (t.2.2 j))))]) (br (b6 t j k==1) ((LC 36 (fB t j) [] (lM t j) []/\br (ea (t.2.2 j).1) (QE (bool false) [(.box (lift (az (t)))),(.box [(ci 0),(ci 0),(ci 0),(ci 0),(ci 0),(.im (.v (.string ⟨⟨[]⟩⟩)))]),(.box [(.im (.v (.bool false)))]),(.box [(ci (↑k:Int))]),(.box (lift (aN (t.2.2 k)))),(.box (lift (az (t)))),(.box [(ci (↑k:Int))]),r5,(.loop 32 104 [(2,((.c (.rt 0 0 0)),[])),(3,((.c (.rt 3 0 0)),[])),(4,((.c (.rt 1 0 0)),[])),(5,((.c (.rt 2 0 0)),[])),(6,((.c (.rt 4 0 0)),[])),(18,((.c (.dM 56 [6,5])),[]))] [19,20] (gr 32) (gq 32) .done (some .ret)),x,(.box (lift (aN (t.2.2 j))))]) (QE (bool true) [(.box (lift (az (t)))),(.box [(ci 0),(ci 0),(ci 0),(ci 0),(ci 0),(.im (.v (.string ⟨⟨[]⟩⟩)))]),(.box [(.im (.v (.bool false)))]),(.box [(ci (↑k:Int))]),(.box (lift (aN (t.2.2 k)))),(.box (lift (az (t)))),(.box [(ci (↑k:Int))]),r5,(.loop 32 104 [(2,((.c (.rt 0 0 0)),[])),(3,((.c (.rt 3 0 0)),[])),(4,((.c (.rt 1 0 0)),[])),(5,((.c (.rt 2 0 0)),[])),(6,((.c (.rt 4 0 0)),[])),(18,((.c (.dM 56 [6,5])),[]))] [19,20] (gr 32) (gq 32) .ready none),x,(.box (lift (aN (t.2.2 j))))]))) (QE (bool true) [(.box (lift (az (t)))),(.box [(ci 0),(ci 0),(ci 0),(ci 0),(ci 0),(.im (.v (.string ⟨⟨[]⟩⟩)))]),(.box [(.im (.v (.bool false)))]),(.box [(ci (↑k:Int))]),(.box (lift (aN (t.2.2 k)))),(.box (lift (az (t)))),(.box [(ci (↑k:Int))]),r5,(.loop 32 104 [(2,((.c (.rt 0 0 0)),[])),(3,((.c (.rt 3 0 0)),[])),(4,((.c (.rt 1 0 0)),[])),(5,((.c (.rt 2 0 0)),[])),(6,((.c (.rt 4 0 0)),[])),(18,((.c (.dM 56 [6,5])),[]))] [19,20] (gr 32) (gq 32) .ready none),x,(.box (lift (aN (t.2.2 j))))])))))) (br (b6 t j k==2) (br ((t.2.2 j).1==11) (QE (bool false) [(.box (lift (az (t)))),(.box [(ci 2),(ci (↑k:Int)),(ci ((t.2.2 j).3)),(ci 0),(ci 0),(.im (.v (.string ⟨⟨[]⟩⟩)))]),(.box [(.im (.v (.bool true)))]),(.box [(ci (↑k:Int))]),(.box (lift (aN (t.2.2 k)))),(.box (lift (az (t)))),(.box [(ci (↑k:Int))]),r5,(.loop 32 104 [(2,((.c (.rt 0 0 0)),[])),(3,((.c (.rt 3 0 0)),[])),(4,((.c (.rt 1 0 0)),[])),(5,((.c (.rt 2 0 0)),[])),(6,((.c (.rt 4 0 0)),[])),(18,((.c (.dM 56 [6,5])),[]))] [19,20] (gr 32) (gq 32) .done (some .ret)),x,(.box (lift (aN (t.2.2 j))))]) (br (b6 t j k==2) (QE (bool false) [(.box (lift (az (t)))),(.box [(ci 2),(ci (↑k:Int)),(ci ((t.2.2 j).4)),(ci 0),(ci 0),(.im (.v (.string ⟨⟨[]⟩⟩)))]),(.box [(.im (.v (.bool true)))]),(.box [(ci (↑k:Int))]),(.box (lift (aN (t.2.2 k)))),(.box (lift (az (t)))),(.box [(ci (↑k:Int))]),r5,(.loop 32 104 [(2,((.c (.rt 0 0 0)),[])),(3,((.c (.rt 3 0 0)),[])),(4,((.c (.rt 1 0 0)),[])),(5,((.c (.rt 2 0 0)),[])),(6,((.c (.rt 4 0 0)),[])),(18,((.c (.dM 56 [6,5])),[]))] [19,20] (gr 32) (gq 32) .done (some .ret)),x,(.box (lift (aN (t.2.2 j))))]) (br (b6 t j k==1) ((LC 36 (fB t j) [] (lM t j) []/\br (ea (t.2.2 j).1) (QE (bool false) [(.box (lift (az (t)))),(.box [(ci 0),(ci 0),(ci 0),(ci 0),(ci 0),(.im (.v (.string ⟨⟨[]⟩⟩)))]),(.box [(.im (.v (.bool false)))]),(.box [(ci (↑k:Int))]),(.box (lift (aN (t.2.2 k)))),(.box (lift (az (t)))),(.box [(ci (↑k:Int))]),r5,(.loop 32 104 [(2,((.c (.rt 0 0 0)),[])),(3,((.c (.rt 3 0 0)),[])),(4,((.c (.rt 1 0 0)),[])),(5,((.c (.rt 2 0 0)),[])),(6,((.c (.rt 4 0 0)),[])),(18,((.c (.dM 56 [6,5])),[]))] [19,20] (gr 32) (gq 32) .done (some .ret)),x,(.box (lift (aN (t.2.2 j))))]) (QE (bool true) [(.box (lift (az (t)))),(.box [(ci 0),(ci 0),(ci 0),(ci 0),(ci 0),(.im (.v (.string ⟨⟨[]⟩⟩)))]),(.box [(.im (.v (.bool false)))]),(.box [(ci (↑k:Int))]),(.box (lift (aN (t.2.2 k)))),(.box (lift (az (t)))),(.box [(ci (↑k:Int))]),r5,(.loop 32 104 [(2,((.c (.rt 0 0 0)),[])),(3,((.c (.rt 3 0 0)),[])),(4,((.c (.rt 1 0 0)),[])),(5,((.c (.rt 2 0 0)),[])),(6,((.c (.rt 4 0 0)),[])),(18,((.c (.dM 56 [6,5])),[]))] [19,20] (gr 32) (gq 32) .ready none),x,(.box (lift (aN (t.2.2 j))))]))) (QE (bool true) [(.box (lift (az (t)))),(.box [(ci 0),(ci 0),(ci 0),(ci 0),(ci 0),(.im (.v (.string ⟨⟨[]⟩⟩)))]),(.box [(.im (.v (.bool false)))]),(.box [(ci (↑k:Int))]),(.box (lift (aN (t.2.2 k)))),(.box (lift (az (t)))),(.box [(ci (↑k:Int))]),r5,(.loop 32 104 [(2,((.c (.rt 0 0 0)),[])),(3,((.c (.rt 3 0 0)),[])),(4,((.c (.rt 1 0 0)),[])),(5,((.c (.rt 2 0 0)),[])),(6,((.c (.rt 4 0 0)),[])),(18,((.c (.dM 56 [6,5])),[]))] [19,20] (gr 32) (gq 32) .ready none),x,(.box (lift (aN (t.2.2 j))))])))) (br (b6 t j k==2) (QE (bool false) [(.box (lift (az (t)))),(.box [(ci 2),(ci (↑k:Int)),(ci ((t.2.2 j).4)),(ci 0),(ci 0),(.im (.v (.string ⟨⟨[]⟩⟩)))]),(.box [(.im (.v (.bool true)))]),(.box [(ci (↑k:Int))]),(.box (lift (aN (t.2.2 k)))),(.box (lift (az (t)))),(.box [(ci (↑k:Int))]),r5,(.loop 32 104 [(2,((.c (.rt 0 0 0)),[])),(3,((.c (.rt 3 0 0)),[])),(4,((.c (.rt 1 0 0)),[])),(5,((.c (.rt 2 0 0)),[])),(6,((.c (.rt 4 0 0)),[])),(18,((.c (.dM 56 [6,5])),[]))] [19,20] (gr 32) (gq 32) .done (some .ret)),x,(.box (lift (aN (t.2.2 j))))]) (br (b6 t j k==1) ((LC 36 (fB t j) [] (lM t j) []/\br (ea (t.2.2 j).1) (QE (bool false) [(.box (lift (az (t)))),(.box [(ci 0),(ci 0),(ci 0),(ci 0),(ci 0),(.im (.v (.string ⟨⟨[]⟩⟩)))]),(.box [(.im (.v (.bool false)))]),(.box [(ci (↑k:Int))]),(.box (lift (aN (t.2.2 k)))),(.box (lift (az (t)))),(.box [(ci (↑k:Int))]),r5,(.loop 32 104 [(2,((.c (.rt 0 0 0)),[])),(3,((.c (.rt 3 0 0)),[])),(4,((.c (.rt 1 0 0)),[])),(5,((.c (.rt 2 0 0)),[])),(6,((.c (.rt 4 0 0)),[])),(18,((.c (.dM 56 [6,5])),[]))] [19,20] (gr 32) (gq 32) .done (some .ret)),x,(.box (lift (aN (t.2.2 j))))]) (QE (bool true) [(.box (lift (az (t)))),(.box [(ci 0),(ci 0),(ci 0),(ci 0),(ci 0),(.im (.v (.string ⟨⟨[]⟩⟩)))]),(.box [(.im (.v (.bool false)))]),(.box [(ci (↑k:Int))]),(.box (lift (aN (t.2.2 k)))),(.box (lift (az (t)))),(.box [(ci (↑k:Int))]),r5,(.loop 32 104 [(2,((.c (.rt 0 0 0)),[])),(3,((.c (.rt 3 0 0)),[])),(4,((.c (.rt 1 0 0)),[])),(5,((.c (.rt 2 0 0)),[])),(6,((.c (.rt 4 0 0)),[])),(18,((.c (.dM 56 [6,5])),[]))] [19,20] (gr 32) (gq 32) .ready none),x,(.box (lift (aN (t.2.2 j))))]))) (QE (bool true) [(.box (lift (az (t)))),(.box [(ci 0),(ci 0),(ci 0),(ci 0),(ci 0),(.im (.v (.string ⟨⟨[]⟩⟩)))]),(.box [(.im (.v (.bool false)))]),(.box [(ci (↑k:Int))]),(.box (lift (aN (t.2.2 k)))),(.box (lift (az (t)))),(.box [(ci (↑k:Int))]),r5,(.loop 32 104 [(2,((.c (.rt 0 0 0)),[])),(3,((.c (.rt 3 0 0)),[])),(4,((.c (.rt 1 0 0)),[])),(5,((.c (.rt 2 0 0)),[])),(6,((.c (.rt 4 0 0)),[])),(18,((.c (.dM 56 [6,5])),[]))] [19,20] (gr 32) (gq 32) .ready none),x,(.box (lift (aN (t.2.2 j))))])))))))):vcY LO 32 8 QE ((20,gL (t.ins.get j),[])::(19,int j,[])::Jc) [.box (lift (az t)),kf 0 0 0 e9,mw false,.box [.im (iI k)],.box (lift (aN (t.ins.get k))),.box (lift (az t)),.box [.im (iI k)],r5,.loop 32 104 Jc [19,20] (gr 32) (gq 32) .ready none,x]:=km h
theorem y99 (t:ae) (k j:Nat) (r5 x:ag) (hj:j<k) (hk:k<t.ins.n) (hS:bj t) (hm:oq t):mO my Try.prog 8 [int j,gL (t.ins.get j)] [.box (lift (az t)),kf 0 0 0 e9,mw false,.box [.im (iI k)],.box (lift (aN (t.ins.get k))),.box (lift (az t)),.box [.im (iI k)],r5,.loop 32 104 Jc [19,20] (gr 32) (gq 32) .ready none,x] (bool (!EI t k (Int.ofNat j))) [.box (lift (az t)),vV t k (Int.ofNat j),vF t k (Int.ofNat j),.box [.im (iI k)],.box (lift (aN (t.ins.get k))),.box (lift (az t)),.box [.im (iI k)],r5,.loop 32 104 Jc [19,20] (gr 32) (gq 32) (bif !EI t k (Int.ofNat j) then .ready else .done) (bif !EI t k (Int.ofNat j) then none else some .ret),x]:=by
 have h65:LC 21 [a7 t,int j,int k] [] (int (b6 t j k)) []:=by
  have:=NN t j k (by omega) hk hS hm
  rw [show min j k=j by omega,show max j k=k by omega] at this
  exact this
 refine Wz (X:=LO) (f:=32) (wJ:=Jc) (A5:=((20,gL (t.ins.get j),[])::(19,int j,[])::Jc)) (ps:=[19,20]) (by kernel_rfl) (by kernel_rfl) (at2 _ t k j r5 x ?_)
 refine ⟨zc _,?_⟩
 refine aq (λh0=>?_) (λh0=>?_)
 .refine ⟨tX _,?_⟩
  refine aq (λh1=>?_) (λh1=>?_)
  .have g0:jh (t.ins.get j).op=false:=by have h:(!jh (t.ins.get j).op)=true:=h0; simpa using h
   have g1:ea (t.ins.get j).op=false:=by have h:(!ea (t.ins.get j).op)=true:=h1; simpa using h
   have e1:j5 t k j=false:=by simp only [j5,g0,g1,aL]
   rw [show EI t k (Int.ofNat j)=false from e1,show vV t k (Int.ofNat j)=kf 0 0 0 e9 from by show (bif j5 t k j then _ else _)=_; rw [e1]; rfl,show vF t k (Int.ofNat j)=mw false from by show (bif j5 t k j then _ else _)=_; rw [e1]; rfl]
   exact ⟨10,aQ rfl,aQ rfl,rfl,rfl,bh.refl _,by repeat' (first|exact trivial|refine ⟨.inl (.inl rfl),?_⟩|refine ⟨.inr rfl,?_⟩|refine ⟨.inl (.inr ⟨_,_,_,_,_,_,_,_,_,_,rfl,rfl⟩),?_⟩|done)⟩
  .refine ⟨h65,?_⟩
   refine aq (λh2=>?_) (λh2=>?_)
   .refine ⟨zc _,?_⟩
    refine aq (λh3=>(by rw [h3] at h0; exact Bool.noConfusion h0)) (λh3=>?_)
    refine aq (λh4=>?_) (λh4=>Bool.noConfusion (h2.symm.trans h4))
    refine aq (λh5=>?_) (λh5=>?_)
    .have g0:jh (t.ins.get j).op=false:=by have h:(!jh (t.ins.get j).op)=true:=h0; simpa using h
     have g1:ea (t.ins.get j).op=true:=by have h:(!ea (t.ins.get j).op)=false:=h1; simpa using h
     have g2:(b6 t j k==2)=true:=h2
     have g3:(jh (t.ins.get j).op)=false:=h3
     have g4:(b6 t j k==2)=true:=h4
     have g5:((t.ins.get j).op==11)=true:=h5
     have e1:j5 t k j=true:=by simp only [j5,g0,g1,g2,g3,g4,g5,aL]
     have e2:jV t k j=(2,(k:Int),(t.ins.get j).b,true):=by simp only [jV,g0,g1,g2,g3,g4,g5,aL]
     rw [show EI t k (Int.ofNat j)=true from e1,show vV t k (Int.ofNat j)=kf 2 (k:Int) (t.ins.get j).b e9 from by show (bif j5 t k j then kf (jV t k j).1 (jV t k j).2.1 (jV t k j).2.2.1 e9 else _)=_; rw [e1,e2]; rfl,show vF t k (Int.ofNat j)=mw true from by show (bif j5 t k j then mw (jV t k j).2.2.2 else _)=_; rw [e1,e2]; rfl]
     exact ⟨10,aQ rfl,aQ rfl,rfl,rfl,bh.refl _,by repeat' (first|exact trivial|refine ⟨.inl (.inl rfl),?_⟩|refine ⟨.inr rfl,?_⟩|refine ⟨.inl (.inr ⟨_,_,_,_,_,_,_,_,_,_,rfl,rfl⟩),?_⟩|done)⟩
    .refine aq (λh6=>?_) (λh6=>Bool.noConfusion (h2.symm.trans h6))
     have g0:jh (t.ins.get j).op=false:=by have h:(!jh (t.ins.get j).op)=true:=h0; simpa using h
     have g1:ea (t.ins.get j).op=true:=by have h:(!ea (t.ins.get j).op)=false:=h1; simpa using h
     have g2:(b6 t j k==2)=true:=h2
     have g3:(jh (t.ins.get j).op)=false:=h3
     have g4:(b6 t j k==2)=true:=h4
     have g5:((t.ins.get j).op==11)=false:=h5
     have g6:(b6 t j k==2)=true:=h6
     have e1:j5 t k j=true:=by simp only [j5,g0,g1,g2,g3,g4,g5,g6,aL]
     have e2:jV t k j=(2,(k:Int),(t.ins.get j).c,true):=by simp only [jV,g0,g1,g2,g3,g4,g5,g6,aL]
     rw [show EI t k (Int.ofNat j)=true from e1,show vV t k (Int.ofNat j)=kf 2 (k:Int) (t.ins.get j).c e9 from by show (bif j5 t k j then kf (jV t k j).1 (jV t k j).2.1 (jV t k j).2.2.1 e9 else _)=_; rw [e1,e2]; rfl,show vF t k (Int.ofNat j)=mw true from by show (bif j5 t k j then mw (jV t k j).2.2.2 else _)=_; rw [e1,e2]; rfl]
     exact ⟨10,aQ rfl,aQ rfl,rfl,rfl,bh.refl _,by repeat' (first|exact trivial|refine ⟨.inl (.inl rfl),?_⟩|refine ⟨.inr rfl,?_⟩|refine ⟨.inl (.inr ⟨_,_,_,_,_,_,_,_,_,_,rfl,rfl⟩),?_⟩|done)⟩
   .refine aq (λh3=>Bool.noConfusion (h3.symm.trans h2)) (λh3=>?_)
    refine aq (λh4=>Bool.noConfusion (h4.symm.trans h2)) (λh4=>?_)
    refine aq (λh5=>?_) (λh5=>?_)
    .refine ⟨tX _,?_⟩
     refine aq (λh6=>?_) (λh6=>(by rw [h6] at h1; exact Bool.noConfusion h1))
     have g0:jh (t.ins.get j).op=false:=by have h:(!jh (t.ins.get j).op)=true:=h0; simpa using h
     have g1:ea (t.ins.get j).op=true:=by have h:(!ea (t.ins.get j).op)=false:=h1; simpa using h
     have g2:(b6 t j k==2)=false:=h2
     have g3:(b6 t j k==2)=false:=h3
     have g4:(b6 t j k==2)=false:=h4
     have g5:(b6 t j k==1)=true:=h5
     have g6:(ea (t.ins.get j).op)=true:=h6
     have g99:(b6 t j k==2)=false:=by first|assumption|(have:=eq_of_beq (show (b6 t j k==1)=true by assumption); rw [this]; rfl)
     have e1:j5 t k j=true:=by simp only [j5,g0,g1,g2,g3,g4,g5,g6,g99,aL]
     have e2:jV t k j=(0,0,0,false):=by simp only [jV,g0,g1,g2,g3,g4,g5,g6,g99,aL]
     rw [show EI t k (Int.ofNat j)=true from e1,show vV t k (Int.ofNat j)=kf 0 0 0 e9 from by show (bif j5 t k j then kf (jV t k j).1 (jV t k j).2.1 (jV t k j).2.2.1 e9 else _)=_; rw [e1,e2]; rfl,show vF t k (Int.ofNat j)=mw false from by show (bif j5 t k j then mw (jV t k j).2.2.2 else _)=_; rw [e1,e2]; rfl]
     exact ⟨10,aQ rfl,aQ rfl,rfl,rfl,bh.refl _,by repeat' (first|exact trivial|refine ⟨.inl (.inl rfl),?_⟩|refine ⟨.inr rfl,?_⟩|refine ⟨.inl (.inr ⟨_,_,_,_,_,_,_,_,_,_,rfl,rfl⟩),?_⟩|done)⟩
    .have g0:jh (t.ins.get j).op=false:=by have h:(!jh (t.ins.get j).op)=true:=h0; simpa using h
     have g1:ea (t.ins.get j).op=true:=by have h:(!ea (t.ins.get j).op)=false:=h1; simpa using h
     have g2:(b6 t j k==2)=false:=h2
     have g3:(b6 t j k==2)=false:=h3
     have g4:(b6 t j k==2)=false:=h4
     have g5:(b6 t j k==1)=false:=h5
     have e1:j5 t k j=false:=by simp only [j5,g0,g1,g2,g3,g4,g5,aL]
     rw [show EI t k (Int.ofNat j)=false from e1,show vV t k (Int.ofNat j)=kf 0 0 0 e9 from by show (bif j5 t k j then _ else _)=_; rw [e1]; rfl,show vF t k (Int.ofNat j)=mw false from by show (bif j5 t k j then _ else _)=_; rw [e1]; rfl]
     exact ⟨10,aQ rfl,aQ rfl,rfl,rfl,bh.refl _,by repeat' (first|exact trivial|refine ⟨.inl (.inl rfl),?_⟩|refine ⟨.inr rfl,?_⟩|refine ⟨.inl (.inr ⟨_,_,_,_,_,_,_,_,_,_,rfl,rfl⟩),?_⟩|done)⟩
 .refine ⟨h65,?_⟩
  refine aq (λh1=>?_) (λh1=>?_)
  .refine ⟨zc _,?_⟩
   refine aq (λh2=>?_) (λh2=>(by rw [h2] at h0; exact Bool.noConfusion h0))
   have g0:jh (t.ins.get j).op=true:=by have h:(!jh (t.ins.get j).op)=false:=h0; simpa using h
   have g1:(b6 t j k==2)=true:=h1
   have g2:(jh (t.ins.get j).op)=true:=h2
   have e1:j5 t k j=true:=by simp only [j5,g0,g1,g2,aL]
   have e2:jV t k j=(2,(k:Int),(j:Int),true):=by simp only [jV,g0,g1,g2,aL]
   rw [show EI t k (Int.ofNat j)=true from e1,show vV t k (Int.ofNat j)=kf 2 (k:Int) (j:Int) e9 from by show (bif j5 t k j then kf (jV t k j).1 (jV t k j).2.1 (jV t k j).2.2.1 e9 else _)=_; rw [e1,e2]; rfl,show vF t k (Int.ofNat j)=mw true from by show (bif j5 t k j then mw (jV t k j).2.2.2 else _)=_; rw [e1,e2]; rfl]
   exact ⟨10,aQ rfl,aQ rfl,rfl,rfl,bh.refl _,by repeat' (first|exact trivial|refine ⟨.inl (.inl rfl),?_⟩|refine ⟨.inr rfl,?_⟩|refine ⟨.inl (.inr ⟨_,_,_,_,_,_,_,_,_,_,rfl,rfl⟩),?_⟩|done)⟩
  .refine aq (λh2=>Bool.noConfusion (h2.symm.trans h1)) (λh2=>?_)
   refine aq (λh3=>Bool.noConfusion (h3.symm.trans h1)) (λh3=>?_)
   refine aq (λh4=>?_) (λh4=>?_)
   .refine ⟨tX _,?_⟩
    refine aq (λh5=>?_) (λh5=>?_)
    .have g0:jh (t.ins.get j).op=true:=by have h:(!jh (t.ins.get j).op)=false:=h0; simpa using h
     have g1:(b6 t j k==2)=false:=h1
     have g2:(b6 t j k==2)=false:=h2
     have g3:(b6 t j k==2)=false:=h3
     have g4:(b6 t j k==1)=true:=h4
     have g5:(ea (t.ins.get j).op)=true:=h5
     have g99:(b6 t j k==2)=false:=by first|assumption|(have:=eq_of_beq (show (b6 t j k==1)=true by assumption); rw [this]; rfl)
     have e1:j5 t k j=true:=by simp only [j5,g0,g1,g2,g3,g4,g5,g99,aL]
     have e2:jV t k j=(0,0,0,false):=by simp only [jV,g0,g1,g2,g3,g4,g5,g99,aL]
     rw [show EI t k (Int.ofNat j)=true from e1,show vV t k (Int.ofNat j)=kf 0 0 0 e9 from by show (bif j5 t k j then kf (jV t k j).1 (jV t k j).2.1 (jV t k j).2.2.1 e9 else _)=_; rw [e1,e2]; rfl,show vF t k (Int.ofNat j)=mw false from by show (bif j5 t k j then mw (jV t k j).2.2.2 else _)=_; rw [e1,e2]; rfl]
     exact ⟨10,aQ rfl,aQ rfl,rfl,rfl,bh.refl _,by repeat' (first|exact trivial|refine ⟨.inl (.inl rfl),?_⟩|refine ⟨.inr rfl,?_⟩|refine ⟨.inl (.inr ⟨_,_,_,_,_,_,_,_,_,_,rfl,rfl⟩),?_⟩|done)⟩
    .have g0:jh (t.ins.get j).op=true:=by have h:(!jh (t.ins.get j).op)=false:=h0; simpa using h
     have g1:(b6 t j k==2)=false:=h1
     have g2:(b6 t j k==2)=false:=h2
     have g3:(b6 t j k==2)=false:=h3
     have g4:(b6 t j k==1)=true:=h4
     have g5:(ea (t.ins.get j).op)=false:=h5
     have e1:j5 t k j=false:=by simp only [j5,g0,g1,g2,g3,g4,g5,aL]
     rw [show EI t k (Int.ofNat j)=false from e1,show vV t k (Int.ofNat j)=kf 0 0 0 e9 from by show (bif j5 t k j then _ else _)=_; rw [e1]; rfl,show vF t k (Int.ofNat j)=mw false from by show (bif j5 t k j then _ else _)=_; rw [e1]; rfl]
     exact ⟨10,aQ rfl,aQ rfl,rfl,rfl,bh.refl _,by repeat' (first|exact trivial|refine ⟨.inl (.inl rfl),?_⟩|refine ⟨.inr rfl,?_⟩|refine ⟨.inl (.inr ⟨_,_,_,_,_,_,_,_,_,_,rfl,rfl⟩),?_⟩|done)⟩
   .have g0:jh (t.ins.get j).op=true:=by have h:(!jh (t.ins.get j).op)=false:=h0; simpa using h
    have g1:(b6 t j k==2)=false:=h1
    have g2:(b6 t j k==2)=false:=h2
    have g3:(b6 t j k==2)=false:=h3
    have g4:(b6 t j k==1)=false:=h4
    have e1:j5 t k j=false:=by simp only [j5,g0,g1,g2,g3,g4,aL]
    rw [show EI t k (Int.ofNat j)=false from e1,show vV t k (Int.ofNat j)=kf 0 0 0 e9 from by show (bif j5 t k j then _ else _)=_; rw [e1]; rfl,show vF t k (Int.ofNat j)=mw false from by show (bif j5 t k j then _ else _)=_; rw [e1]; rfl]
    exact ⟨10,aQ rfl,aQ rfl,rfl,rfl,bh.refl _,by repeat' (first|exact trivial|refine ⟨.inl (.inl rfl),?_⟩|refine ⟨.inr rfl,?_⟩|refine ⟨.inl (.inr ⟨_,_,_,_,_,_,_,_,_,_,rfl,rfl⟩),?_⟩|done)⟩
theorem ai4 (t:ae) (k:Nat) (hk:k<t.ins.n) (hS:bj t) (hm:oq t) (ha:(t.ins.get k).op=10->cM (t.ins.get k).a t.ins.n=true):LC 32 [a7 t,int k] [] (Oc t k) []:=by
 have c:=I1 (EI t k) (vV t k) (vF t k) t k (.box (lift (az t))) (kf 0 0 0 e9) (mw false) (.box [.im (iI k)]) (.box (lift (aN (t.ins.get k)))) .kA 32 104 Jc [19,20] (gr 32) (gq 32) (λj x hj _=>y99 t k j .kA x hj hk hS hm) (by omega) hS.ins ⟨.inl rfl,.inl rfl,.inl rfl,.inl rfl,.inl rfl,.inl rfl,.inl rfl,.inl rfl,sA rfl,trivial⟩
  (λj h=>by
   have h:j5 t k j=false:=h
   exact ⟨by show (bif j5 t k j then _ else _)=_; rw [h]; rfl,by show (bif j5 t k j then _ else _)=_; rw [h]; rfl⟩)
  (λj=>by
   refine ⟨?_,?_⟩
   .show ib 9 (bif j5 t k j then _ else _)=true
    cases j5 t k j<;>rfl
   .show ib 9 (bif j5 t k j then _ else _)=true
    cases j5 t k j<;>rfl)
 cases hb:zA t (EI t k) k with
 | none=>
   rw [hb] at c
   rw [show Oc t k=jt 1 k 0 Fb (HM t k) from by unfold Oc; rw [hb]]
   refine pv (X:=X99 true 0 0 0 false) (stop:=Lc) ak7 (au0 _ _ true 0 0 0 false t k (aC (a8 hk) ?_))
   refine af.rename [0,2,3,1,4] rfl (af.lr (HL true 0 0 0 false t k) (aR (X:=X99 true 0 0 0 false) (stop:=Lc) (Q6 _ _ true 0 0 0 false t k ⟨bP.jS (tZ t k) [] _ rfl rfl,aq (λ_=>⟨c,aq (λh1=>aC (ha (eq_of_beq h1)) (aq (λh2=>aC (ha (eq_of_beq h1)) ?_) (λh2=>?_))) (λh1=>?_)⟩) (λh=>Bool.noConfusion h)⟩)))
   .have h1:((t.ins.get k).op==10)=true:=h1
    have h2:((t.ins.get (t.ins.get k).a.toNat).op==16)=true:=h2
    unfold HM
    rw [h1,h2]
    exact bh.refl _
   .have h1:((t.ins.get k).op==10)=true:=h1
    have h2:((t.ins.get (t.ins.get k).a.toNat).op==16)=false:=h2
    unfold HM
    rw [h1,h2]
    exact bh.refl _
   .have h1:((t.ins.get k).op==10)=false:=h1
    unfold HM
    rw [h1]
    exact bh.refl _
 | some j=>
   rw [hb] at c
   have l8:j5 t k j=true:=pP hb
   generalize ho:jV t k j=o at *
   have e1:vV t k (Int.ofNat j)=kf o.1 o.2.1 o.2.2.1 e9:=by show (bif j5 t k j then kf (jV t k j).1 (jV t k j).2.1 (jV t k j).2.2.1 e9 else _)=_; rw [l8,ho]; rfl
   have e2:vF t k (Int.ofNat j)=mw o.2.2.2:=by show (bif j5 t k j then mw (jV t k j).2.2.2 else _)=_; rw [l8,ho]; rfl
   simp only [Qm] at c
   rw [e1,e2] at c
   rw [show Oc t k=jt o.1 o.2.1 o.2.2.1 e9 o.2.2.2 from by unfold Oc; rw [hb]; show jt (jV t k j).1 (jV t k j).2.1 (jV t k j).2.2.1 e9 (jV t k j).2.2.2=_; rw [ho]]
   refine pv (X:=X99 false o.1 o.2.1 o.2.2.1 o.2.2.2) (stop:=Lc) ak7 (au0 _ _ false o.1 o.2.1 o.2.2.1 o.2.2.2 t k (aC (a8 hk) ?_))
   refine af.rename [0,2,3,1,4] rfl (af.lr (HL false o.1 o.2.1 o.2.2.1 o.2.2.2 t k) (aR (X:=X99 false o.1 o.2.1 o.2.2.1 o.2.2.2) (stop:=Lc) (Q6 _ _ false o.1 o.2.1 o.2.2.1 o.2.2.2 t k ⟨bP.jS (tZ t k) [] _ rfl rfl,aq (λh=>Bool.noConfusion h) (λ_=>⟨c,?_⟩)⟩)))
   exact bh.refl _
open Go Go.V
section
def F60 (d:D):FuncId->List D->List ag->Out:=ext F99 [(32,λ_ _=>(d,[],[]))]
def W1 (p:Bool) (k:Nat) (kd Yl zS:Int) (v:iL) (b:Bool):fN:={ F:=F60 (jt kd Yl zS v b),S:=[1,2,8],B:=λ_ _ _=>p,R1:=λ_ _ _=>(.t [],[],[]),R2:=λ_ ds rs=>(.t [],[(1,kf 3 k 0 e9),(2,mw true),(8,E9 false (aV rs 8))],[]) }
def rV (c:Tmp):aK:=[(4,.c (.rt 1 0 0),[]),(5,.c (.rt 2 0 0),[]),(6,.c (.rt 3 0 0),[]),(7,.c (.rt 4 0 0),[]),(c,.c (.dM 56 [6,5]),[])]
def WV:Code->List (List Tmp×Code×Code)
 | .rangeFunc _ ps a b=>[(ps.toList,a,b)]
 | .seq a b=>WV a++WV b
 | .cond _ a b=>WV a++WV b
 | .block _ a=>WV a
 | .loop a=>WV a
 | _=>[]
def PO (f:FuncId):Code:=match WV (oo f) with
 | _::x::_=>x.2.1
 | _=>.skip
def N2 (f:FuncId):Code:=match WV (oo f) with
 | _::x::_=>x.2.2
 | _=>.skip
def Zi (X:fN) (f:FuncId) (r:Nat) (Q:D->List ag->Prop) (a b:Code) (sl:aK) (rs:List ag):Prop:=
 uP my Try.prog X hints (wv f).ntmps f (some r) cE (λ_ _=>False) (Nl r Q) 10000 false [.code a,.beginRound,.code b] ⟨sl,rs,[]⟩
def q5:Sq Int:=⟨5,λi=>rI (flat 1 [Go.V.I.v (Value.int IntKind.i64 8),Go.V.I.v (Value.int IntKind.i64 9),Go.V.I.v (Value.int IntKind.i64 12),Go.V.I.v (Value.int IntKind.i64 13),Go.V.I.v (Value.int IntKind.i64 14)] i)⟩
def eo (t:ae) (k j:Nat):Bool:=(t.ins.get j).op==7&&((t.ins.get j).a==(t.ins.get k).a && !lR (t.ins.get k) (t.ins.get j))
def e7 (t:ae) (k j:Nat):Bool:=(t.ins.get j).a==(t.ins.get k).a&&nH (t.ins.get j).op q5
def Ax (S:ae->Nat->Nat->Bool) (t:ae) (k:Nat) (j:Int):Bool:=S t k j.toNat
def tJ (S:ae->Nat->Nat->Bool) (t:ae) (k:Nat) (j:Int):ag:=bif S t k j.toNat then kf 3 k 0 e9 else kf 0 0 0 e9
def ub (S:ae->Nat->Nat->Bool) (t:ae) (k:Nat) (j:Int):ag:=bif S t k j.toNat then mw true else mw false
def Mq (S:ae->Nat->Nat->Bool) (t:ae) (k:Nat):Bool:=match zA t (Ax S t k) k with
 | some _=>true
 | none=>false
def Dp (t:ae) (k:Nat):D:=bif (t.ins.get k).once then jt 3 k 0 e9 false else bif jh (t.ins.get k).op then Oc t k else bif (t.ins.get k).op==7 then
 (bif (t.ins.get (t.ins.get k).a.toNat).op==16 then (bif !lR (t.ins.get (t.ins.get k).a.toNat) (t.ins.get k) then jt 3 k 0 e9 true else jt 3 k 0 e9 (Mq eo t k)) else jt 3 k 0 e9 (Mq eo t k))
 else bif (t.ins.get k).op==8 then jt 3 k 0 e9 (Mq e7 t k) else jt 3 k 0 e9 false
end
def EB:Nat->Bool:=λi=>Nat.beq i 11||Nat.beq i 16
theorem aF5:Fn 18:={}
abbrev PA (aw:Nat) (aG:ae):VS:=⟨[(jK aw),de,ck,(5,((.c (.rt 2 0 0)),[])),(6,((.c (.rt 3 0 0)),[])),qh,(51,((bool false),[]))],[(cu aG),kq,(.box [dS]),(iF aG aw),(jQ aw),(.box (lift (aN (aG.2.2 (aG.2.2 aw).2.toNat))))],[]⟩
abbrev Jj (aw:ae) (aG:Nat):List ag:=[(cu aw),kq,(.box [dS]),(iF aw aG),(jQ aG)]
theorem aB7 (L:LP) (QD:D->Prop) (p:Bool) (t:ae) (k:Nat) (kd mN gY:Int) (v:iL) (b:Bool) (h:nd (cM (↑k:Int) t.2.1) (br ((t.2.2 k).11) (QD (qm k)) ((LC 31 (fB t k) [] (uI t k) []/\br (jh (t.2.2 k).1) ((LC 32 (tP t k) [] (.t [(.true,[(ci kd),(ci mN),(ci gY),(ci v.1),(ci v.2),(.im (.v (.string v.3)))]),(.false,[(.im (.v (.bool b)))])]) []/\QD (.t [(.true,[(ci kd),(ci mN),(ci gY),(ci v.1),(ci v.2),(.im (.v (.string v.3)))]),(.false,[(.im (.v (.bool b)))])]))) (br ((t.2.2 k).1==7) (nd (cM (t.2.2 k).2 t.2.1) (br ((t.2.2 (t.2.2 k).2.toNat).1==16) ((LC 33 [(.a (lift (aN (t.2.2 (t.2.2 k).2.toNat)))),(rK t k)] [] (bool (lR (t.2.2 (t.2.2 k).2.toNat) (t.2.2 k))) []/\br (!lR (t.2.2 (t.2.2 k).2.toNat) (t.2.2 k)) (QD (Kz k)) (L (ai 18 11) (PA k t)))) (L (ai 18 11) (PA k t)))) (br ((t.2.2 k).1==8) (L (ai 18 16) ⟨[(jK k),de,ck,(5,((.c (.rt 2 0 0)),[])),(6,((.c (.rt 3 0 0)),[])),qh,(75,((bool true),[]))],(Jj t k),[]⟩) (QD (qm k)))))))):fx (W1 p k kd mN gY v b) 18 EB L (bL QD) [a7 t,int k] []:=km h
abbrev Q7 (aw:Nat) (aG:ae):VS:=⟨[(1,int aw,[]),jq,lx,(5,.c (.rt 2 0 0),[]),(6,.c (.rt 3 0 0),[]),(7,.c (.rt 4 0 0),[])],[.box (lift (az aG)),kf 0 0 0 e9,mw false,.box (lift (aN (aG.ins.get aw))),kf 3 aw 0 e9],[]⟩
def vY (p:Bool) (t:ae) (k:Nat) (kd mN gY:Int) (v:iL) (b:Bool)  : VS:=(Q7 k t)
abbrev PD (aw:ae) (aG:Nat):List ag:=[(cu aw),kq,(.box [dS]),(iF aw aG),(jQ aG),(cu aw),(nT aG),.kA,(.loop 18 97 [(4,((.c (.rt 1 0 0)),[])),(5,((.c (.rt 2 0 0)),[])),(6,((.c (.rt 3 0 0)),[])),(7,((.c (.rt 4 0 0)),[])),(55,((.c (.dM 56 [6,5])),[]))] [56,57] (gr 18) (gq 18) .ready none)]
theorem JZ (L:LP) (QD:D->Prop) (p:Bool) (t:ae) (k:Nat) (kd mN gY:Int) (v:iL) (b:Bool)  (h:(LC 34 (tP t k) (Jj t k) (.c (.dM 56 [6,5])) [(cu t),kq,(.box [dS]),(iF t k),(jQ k),(cu t),(nT k)]/\br (p) ((LC 56 uN (PD t k) (.t []) (PD t k)/\QD (qm k))) ((LC 56 uN (PD t k) (.t []) [(cu t),(jQ k),(.box [(.im (.v (.bool true)))]),(iF t k),(jQ k),(cu t),(nT k),.kA,(.loop 18 97 [(4,((.c (.rt 1 0 0)),[])),(5,((.c (.rt 2 0 0)),[])),(6,((.c (.rt 3 0 0)),[])),(7,((.c (.rt 4 0 0)),[])),(55,((.c (.dM 56 [6,5])),[]))] [56,57] (gr 18) (gq 18) .done (some .ret))]/\QD (Kz k))))):cB (W1 p k kd mN gY v b) 18 EB L (bL QD) 11 (vY p t k kd mN gY v b ):=km h
def CS (p:Bool) (t:ae) (k:Nat) (kd mN gY:Int) (v:iL) (b:Bool)  : VS:=(Q7 k t)
abbrev PZ (aw:ae) (aG:Nat):List ag:=[(cu aw),kq,(.box [dS]),(iF aw aG),(jQ aG),(cu aw),(nT aG),.kA,(.loop 18 97 [(4,((.c (.rt 1 0 0)),[])),(5,((.c (.rt 2 0 0)),[])),(6,((.c (.rt 3 0 0)),[])),(7,((.c (.rt 4 0 0)),[])),(81,((.c (.dM 56 [6,5])),[]))] [82,83] (PO 18) (N2 18) .ready none)]
theorem KZ (L:LP) (QD:D->Prop) (p:Bool) (t:ae) (k:Nat) (kd mN gY:Int) (v:iL) (b:Bool)  (h:(LC 34 (tP t k) (Jj t k) (.c (.dM 56 [6,5])) [(cu t),kq,(.box [dS]),(iF t k),(jQ k),(cu t),(nT k)]/\br (p) ((LC 56 uN (PZ t k) (.t []) (PZ t k)/\QD (qm k))) ((LC 56 uN (PZ t k) (.t []) [(cu t),(jQ k),(.box [(.im (.v (.bool true)))]),(iF t k),(jQ k),(cu t),(nT k),.kA,(.loop 18 97 [(4,((.c (.rt 1 0 0)),[])),(5,((.c (.rt 2 0 0)),[])),(6,((.c (.rt 3 0 0)),[])),(7,((.c (.rt 4 0 0)),[])),(81,((.c (.dM 56 [6,5])),[]))] [82,83] (PO 18) (N2 18) .done (some .ret))]/\QD (Kz k))))):cB (W1 p k kd mN gY v b) 18 EB L (bL QD) 16 (CS p t k kd mN gY v b ):=km h
theorem R0 {X:fN} {f:FuncId} {r:Nat} {wJ A5:aK} {ps:List Tmp} {ds:List D} {rs:List ag} {d:D} {aJ:List ag} (ca cb:Code) (hr:rs[r]?=some (.loop f (wv f).ntmps wJ ps ca cb .ready none)) (HK:Lg (wv f).ntmps ps ds wJ=some A5) (h:Zi X f r (Go.V.Ends rs d aJ) ca cb A5 rs):mO my Try.prog r ds rs d aJ:=
 Aa qi hr HK λb cs hb=>wH (L:=λ_ _=>False) qi mixed hb (λ_ _ q=>q.elim) (λ_ _ q=>q) 10000 h
theorem Y8 (v:Int):LC 35 [.c (.im (.sl 1 5 (flat 1 [Go.V.I.v (Value.int IntKind.i64 8),Go.V.I.v (Value.int IntKind.i64 9),Go.V.I.v (Value.int IntKind.i64 12),Go.V.I.v (Value.int IntKind.i64 13),Go.V.I.v (Value.int IntKind.i64 14)]))),int v] [] (bool (nH v q5)) []:=
 bP.pre (Eo _ v) (.cons (sb (cH.sl λi hi j hj=>by
  have hj:j=0:=by omega
  subst hj
  have hi:i<5:=hi
  match i,hi with
  | 0,_=>exact cH.refl _
  | 1,_=>exact cH.refl _
  | 2,_=>exact cH.refl _
  | 3,_=>exact cH.refl _
  | 4,_=>exact cH.refl _)) (.cons (bh.refl _) .nil))
theorem Gr {S:ae->Nat->Nat->Bool} {t:ae} {k:Nat} (h:zA t (Ax S t k) k=none):Mq S t k=false:=by unfold Mq; rw [h]
theorem GH {S:ae->Nat->Nat->Bool} {t:ae} {k j:Nat} (h:zA t (Ax S t k) k=some j):Mq S t k=true:=by unfold Mq; rw [h]
theorem P3 (t:ae) (k:Nat):∃ kd Yl zS v b,Oc t k=jt kd Yl zS v b:=by
 unfold Oc
 cases zA t (EI t k) k with
 | none=>exact ⟨_,_,_,_,_,rfl⟩
 | some j=>exact ⟨_,_,_,_,_,rfl⟩
theorem S5 (QE:D->List ag->Prop) (t:ae) (k j:Nat) (r5 x:ag) (h:br ((t.2.2 j).1==7) (br ((t.2.2 j).2==(t.2.2 k).2) ((LC 33 [(rK t k),(rK t j)] [] (bool (lR (t.2.2 k) (t.2.2 j))) []/\br (!lR (t.2.2 k) (t.2.2 j)) (QE (bool false) [(.box (lift (az (t)))),(.box [(ci 3),(ci (↑k:Int)),(ci 0),(ci 0),(ci 0),(.im (.v (.string ⟨⟨[]⟩⟩)))]),(.box [(.im (.v (.bool true)))]),(.box (lift (aN (t.2.2 k)))),(.box [(ci 3),(ci (↑k:Int)),(ci 0),(ci 0),(ci 0),(.im (.v (.string ⟨⟨[]⟩⟩)))]),(.box (lift (az (t)))),(.box [(ci (↑k:Int))]),r5,(.loop 18 97 [(4,((.c (.rt 1 0 0)),[])),(5,((.c (.rt 2 0 0)),[])),(6,((.c (.rt 3 0 0)),[])),(7,((.c (.rt 4 0 0)),[])),(55,((.c (.dM 56 [6,5])),[]))] [56,57] (gr 18) (gq 18) .done (some .ret)),x,(.box (lift (aN (t.2.2 j))))]) (QE (bool true) [(.box (lift (az (t)))),(.box [(ci 0),(ci 0),(ci 0),(ci 0),(ci 0),(.im (.v (.string ⟨⟨[]⟩⟩)))]),(.box [(.im (.v (.bool false)))]),(.box (lift (aN (t.2.2 k)))),(.box [(ci 3),(ci (↑k:Int)),(ci 0),(ci 0),(ci 0),(.im (.v (.string ⟨⟨[]⟩⟩)))]),(.box (lift (az (t)))),(.box [(ci (↑k:Int))]),r5,(.loop 18 97 [(4,((.c (.rt 1 0 0)),[])),(5,((.c (.rt 2 0 0)),[])),(6,((.c (.rt 3 0 0)),[])),(7,((.c (.rt 4 0 0)),[])),(55,((.c (.dM 56 [6,5])),[]))] [56,57] (gr 18) (gq 18) .ready none),x,(.box (lift (aN (t.2.2 j))))]))) (QE (bool true) [(.box (lift (az (t)))),(.box [(ci 0),(ci 0),(ci 0),(ci 0),(ci 0),(.im (.v (.string ⟨⟨[]⟩⟩)))]),(.box [(.im (.v (.bool false)))]),(.box (lift (aN (t.2.2 k)))),(.box [(ci 3),(ci (↑k:Int)),(ci 0),(ci 0),(ci 0),(.im (.v (.string ⟨⟨[]⟩⟩)))]),(.box (lift (az (t)))),(.box [(ci (↑k:Int))]),r5,(.loop 18 97 [(4,((.c (.rt 1 0 0)),[])),(5,((.c (.rt 2 0 0)),[])),(6,((.c (.rt 3 0 0)),[])),(7,((.c (.rt 4 0 0)),[])),(55,((.c (.dM 56 [6,5])),[]))] [56,57] (gr 18) (gq 18) .ready none),x,(.box (lift (aN (t.2.2 j))))])) (QE (bool true) [(.box (lift (az (t)))),(.box [(ci 0),(ci 0),(ci 0),(ci 0),(ci 0),(.im (.v (.string ⟨⟨[]⟩⟩)))]),(.box [(.im (.v (.bool false)))]),(.box (lift (aN (t.2.2 k)))),(.box [(ci 3),(ci (↑k:Int)),(ci 0),(ci 0),(ci 0),(.im (.v (.string ⟨⟨[]⟩⟩)))]),(.box (lift (az (t)))),(.box [(ci (↑k:Int))]),r5,(.loop 18 97 [(4,((.c (.rt 1 0 0)),[])),(5,((.c (.rt 2 0 0)),[])),(6,((.c (.rt 3 0 0)),[])),(7,((.c (.rt 4 0 0)),[])),(55,((.c (.dM 56 [6,5])),[]))] [56,57] (gr 18) (gq 18) .ready none),x,(.box (lift (aN (t.2.2 j))))])):Zi LO 18 8 QE (gr 18) (gq 18) ((57,gL (t.ins.get j),[])::(56,int j,[])::rV 55) [.box (lift (az t)),kf 0 0 0 e9,mw false,.box (lift (aN (t.ins.get k))),kf 3 k 0 e9,.box (lift (az t)),.box [.im (iI k)],r5,.loop 18 97 (rV 55) [56,57] (gr 18) (gq 18) .ready none,x]:=km h
theorem al8 (t:ae) (k j:Nat) (r5 x:ag):mO my Try.prog 8 [int j,gL (t.ins.get j)] [.box (lift (az t)),kf 0 0 0 e9,mw false,.box (lift (aN (t.ins.get k))),kf 3 k 0 e9,.box (lift (az t)),.box [.im (iI k)],r5,.loop 18 97 (rV 55) [56,57] (gr 18) (gq 18) .ready none,x] (bool (!Ax eo t k (Int.ofNat j))) [.box (lift (az t)),tJ eo t k (Int.ofNat j),ub eo t k (Int.ofNat j),.box (lift (aN (t.ins.get k))),kf 3 k 0 e9,.box (lift (az t)),.box [.im (iI k)],r5,.loop 18 97 (rV 55) [56,57] (gr 18) (gq 18) (bif !Ax eo t k (Int.ofNat j) then .ready else .done) (bif !Ax eo t k (Int.ofNat j) then none else some .ret),x]:=by
 refine R0 (X:=LO) (f:=18) (wJ:=rV 55) (A5:=((57,gL (t.ins.get j),[])::(56,int j,[])::rV 55)) (ps:=[56,57]) (gr 18) (gq 18) (by kernel_rfl) (by kernel_rfl) (S5 _ t k j r5 x ?_)
 refine aq (λh0=>?_) (λh0=>?_)
 .refine aq (λh1=>?_) (λh1=>?_)
  .refine ⟨Ih _ _,?_⟩
   refine aq (λh2=>?_) (λh2=>?_)
   .have g0:((t.ins.get j).op==7)=true:=h0
    have g1:((t.ins.get j).a==(t.ins.get k).a)=true:=h1
    have g2:lR (t.ins.get k) (t.ins.get j)=false:=by have h:(!lR (t.ins.get k) (t.ins.get j))=true:=h2; simpa using h
    have e1:eo t k j=true:=by simp only [eo,g0,g1,g2,aL]
    rw [show Ax eo t k (Int.ofNat j)=true from e1,show tJ eo t k (Int.ofNat j)=kf 3 k 0 e9 from by show (bif eo t k j then _ else _)=_; rw [e1]; rfl,show ub eo t k (Int.ofNat j)=mw true from by show (bif eo t k j then _ else _)=_; rw [e1]; rfl]
    exact ⟨10,aQ rfl,aQ rfl,rfl,rfl,bh.refl _,by repeat' (first|exact trivial|refine ⟨.inl (.inl rfl),?_⟩|refine ⟨.inr rfl,?_⟩|refine ⟨.inl (.inr ⟨_,_,_,_,_,_,_,_,_,_,rfl,rfl⟩),?_⟩|done)⟩
   .have g0:((t.ins.get j).op==7)=true:=h0
    have g1:((t.ins.get j).a==(t.ins.get k).a)=true:=h1
    have g2:lR (t.ins.get k) (t.ins.get j)=true:=by have h:(!lR (t.ins.get k) (t.ins.get j))=false:=h2; simpa using h
    have e1:eo t k j=false:=by simp only [eo,g0,g1,g2,aL]
    rw [show Ax eo t k (Int.ofNat j)=false from e1,show tJ eo t k (Int.ofNat j)=kf 0 0 0 e9 from by show (bif eo t k j then _ else _)=_; rw [e1]; rfl,show ub eo t k (Int.ofNat j)=mw false from by show (bif eo t k j then _ else _)=_; rw [e1]; rfl]
    exact ⟨10,aQ rfl,aQ rfl,rfl,rfl,bh.refl _,by repeat' (first|exact trivial|refine ⟨.inl (.inl rfl),?_⟩|refine ⟨.inr rfl,?_⟩|refine ⟨.inl (.inr ⟨_,_,_,_,_,_,_,_,_,_,rfl,rfl⟩),?_⟩|done)⟩
  .have g0:((t.ins.get j).op==7)=true:=h0
   have g1:((t.ins.get j).a==(t.ins.get k).a)=false:=h1
   have e1:eo t k j=false:=by simp only [eo,g0,g1,aL]
   rw [show Ax eo t k (Int.ofNat j)=false from e1,show tJ eo t k (Int.ofNat j)=kf 0 0 0 e9 from by show (bif eo t k j then _ else _)=_; rw [e1]; rfl,show ub eo t k (Int.ofNat j)=mw false from by show (bif eo t k j then _ else _)=_; rw [e1]; rfl]
   exact ⟨10,aQ rfl,aQ rfl,rfl,rfl,bh.refl _,by repeat' (first|exact trivial|refine ⟨.inl (.inl rfl),?_⟩|refine ⟨.inr rfl,?_⟩|refine ⟨.inl (.inr ⟨_,_,_,_,_,_,_,_,_,_,rfl,rfl⟩),?_⟩|done)⟩
 .have g0:((t.ins.get j).op==7)=false:=h0
  have e1:eo t k j=false:=by simp only [eo,g0,aL]
  rw [show Ax eo t k (Int.ofNat j)=false from e1,show tJ eo t k (Int.ofNat j)=kf 0 0 0 e9 from by show (bif eo t k j then _ else _)=_; rw [e1]; rfl,show ub eo t k (Int.ofNat j)=mw false from by show (bif eo t k j then _ else _)=_; rw [e1]; rfl]
  exact ⟨10,aQ rfl,aQ rfl,rfl,rfl,bh.refl _,by repeat' (first|exact trivial|refine ⟨.inl (.inl rfl),?_⟩|refine ⟨.inr rfl,?_⟩|refine ⟨.inl (.inr ⟨_,_,_,_,_,_,_,_,_,_,rfl,rfl⟩),?_⟩|done)⟩
theorem J5 (t:ae) (k:Nat) (hk:k<t.ins.n) (hS:bj t) (kd mN gY:Int) (v:iL) (b:Bool):af 18 0 (bF (jt 3 k 0 e9 (Mq eo t k))) (ai 18 11) (vY false t k kd mN gY v b):=by
 have c:=I1 (Ax eo t k) (tJ eo t k) (ub eo t k) t k (.box (lift (az t))) (kf 0 0 0 e9) (mw false) (.box (lift (aN (t.ins.get k)))) (kf 3 k 0 e9) .kA 18 97 (rV 55) [56,57] (gr 18) (gq 18) (λj x hj _=>al8 t k j .kA x) (by omega) hS.ins ⟨.inl rfl,.inl rfl,.inl rfl,.inl rfl,.inl rfl,.inl rfl,.inl rfl,.inl rfl,sA rfl,trivial⟩
  (λj h=>by
   have h:eo t k j=false:=h
   exact ⟨by show (bif eo t k j then _ else _)=_; rw [h]; rfl,by show (bif eo t k j then _ else _)=_; rw [h]; rfl⟩)
  (λj=>by
   refine ⟨?_,?_⟩
   .show ib 9 (bif eo t k j then _ else _)=true
    cases eo t k j<;>rfl
   .show ib 9 (bif eo t k j then _ else _)=true
    cases eo t k j<;>rfl)
 cases hb:zA t (Ax eo t k) k with
 | none=>
   rw [hb] at c
   rw [Gr hb]
   exact aR (X:=W1 true k kd mN gY v b) (stop:=EB) (JZ _ _ true t k kd mN gY v b ⟨bP.jS (tZ t k) [] _ rfl rfl,aq (λ_=>⟨c,bh.refl _⟩) (λh=>Bool.noConfusion h)⟩)
 | some j=>
   rw [hb] at c
   rw [GH hb]
   have l8:eo t k j=true:=pP hb
   simp only [Qm] at c
   rw [show tJ eo t k (Int.ofNat j)=kf 3 k 0 e9 from by show (bif eo t k j then _ else _)=_; rw [l8]; rfl,show ub eo t k (Int.ofNat j)=mw true from by show (bif eo t k j then _ else _)=_; rw [l8]; rfl] at c
   exact aR (X:=W1 false k kd mN gY v b) (stop:=EB) (JZ _ _ false t k kd mN gY v b ⟨bP.jS (tZ t k) [] _ rfl rfl,aq (λh=>Bool.noConfusion h) (λ_=>⟨c,bh.refl _⟩)⟩)
theorem S9 (QE:D->List ag->Prop) (t:ae) (k j:Nat) (r5 x:ag) (h:br ((t.2.2 j).2==(t.2.2 k).2) ((LC 35 [(.c (.im (.sl 1 5 (flat 1 [I.v (Value.int IntKind.i64 8),I.v (Value.int IntKind.i64 9),I.v (Value.int IntKind.i64 12),I.v (Value.int IntKind.i64 13),I.v (Value.int IntKind.i64 14)])))),(int ((t.2.2 j).1))] [] (bool (nH (t.2.2 j).1 { n:=5,get:=λi=>rI (flat 1 [I.v (Value.int IntKind.i64 8),I.v (Value.int IntKind.i64 9),I.v (Value.int IntKind.i64 12),I.v (Value.int IntKind.i64 13),I.v (Value.int IntKind.i64 14)] i) })) []/\br (nH (t.2.2 j).1 { n:=5,get:=λi=>rI (flat 1 [I.v (Value.int IntKind.i64 8),I.v (Value.int IntKind.i64 9),I.v (Value.int IntKind.i64 12),I.v (Value.int IntKind.i64 13),I.v (Value.int IntKind.i64 14)] i) }) (QE (bool false) [(.box (lift (az (t)))),(.box [(ci 3),(ci (↑k:Int)),(ci 0),(ci 0),(ci 0),(.im (.v (.string ⟨⟨[]⟩⟩)))]),(.box [(.im (.v (.bool true)))]),(.box (lift (aN (t.2.2 k)))),(.box [(ci 3),(ci (↑k:Int)),(ci 0),(ci 0),(ci 0),(.im (.v (.string ⟨⟨[]⟩⟩)))]),(.box (lift (az (t)))),(.box [(ci (↑k:Int))]),r5,(.loop 18 97 [(4,((.c (.rt 1 0 0)),[])),(5,((.c (.rt 2 0 0)),[])),(6,((.c (.rt 3 0 0)),[])),(7,((.c (.rt 4 0 0)),[])),(81,((.c (.dM 56 [6,5])),[]))] [82,83] (PO 18) (N2 18) .done (some .ret)),x,(.box (lift (aN (t.2.2 j)))),(.row 3 1 5 [(ci 8),(ci 9),(ci 12),(ci 13),(ci 14)])]) (QE (bool true) [(.box (lift (az (t)))),(.box [(ci 0),(ci 0),(ci 0),(ci 0),(ci 0),(.im (.v (.string ⟨⟨[]⟩⟩)))]),(.box [(.im (.v (.bool false)))]),(.box (lift (aN (t.2.2 k)))),(.box [(ci 3),(ci (↑k:Int)),(ci 0),(ci 0),(ci 0),(.im (.v (.string ⟨⟨[]⟩⟩)))]),(.box (lift (az (t)))),(.box [(ci (↑k:Int))]),r5,(.loop 18 97 [(4,((.c (.rt 1 0 0)),[])),(5,((.c (.rt 2 0 0)),[])),(6,((.c (.rt 3 0 0)),[])),(7,((.c (.rt 4 0 0)),[])),(81,((.c (.dM 56 [6,5])),[]))] [82,83] (PO 18) (N2 18) .ready none),x,(.box (lift (aN (t.2.2 j)))),(.row 3 1 5 [(ci 8),(ci 9),(ci 12),(ci 13),(ci 14)])]))) (QE (bool true) [(.box (lift (az (t)))),(.box [(ci 0),(ci 0),(ci 0),(ci 0),(ci 0),(.im (.v (.string ⟨⟨[]⟩⟩)))]),(.box [(.im (.v (.bool false)))]),(.box (lift (aN (t.2.2 k)))),(.box [(ci 3),(ci (↑k:Int)),(ci 0),(ci 0),(ci 0),(.im (.v (.string ⟨⟨[]⟩⟩)))]),(.box (lift (az (t)))),(.box [(ci (↑k:Int))]),r5,(.loop 18 97 [(4,((.c (.rt 1 0 0)),[])),(5,((.c (.rt 2 0 0)),[])),(6,((.c (.rt 3 0 0)),[])),(7,((.c (.rt 4 0 0)),[])),(81,((.c (.dM 56 [6,5])),[]))] [82,83] (PO 18) (N2 18) .ready none),x,(.box (lift (aN (t.2.2 j))))])):Zi LO 18 8 QE (PO 18) (N2 18) ((83,gL (t.ins.get j),[])::(82,int j,[])::rV 81) [.box (lift (az t)),kf 0 0 0 e9,mw false,.box (lift (aN (t.ins.get k))),kf 3 k 0 e9,.box (lift (az t)),.box [.im (iI k)],r5,.loop 18 97 (rV 81) [82,83] (PO 18) (N2 18) .ready none,x]:=km h
theorem ac1 (t:ae) (k j:Nat) (r5 x:ag):mO my Try.prog 8 [int j,gL (t.ins.get j)] [.box (lift (az t)),kf 0 0 0 e9,mw false,.box (lift (aN (t.ins.get k))),kf 3 k 0 e9,.box (lift (az t)),.box [.im (iI k)],r5,.loop 18 97 (rV 81) [82,83] (PO 18) (N2 18) .ready none,x] (bool (!Ax e7 t k (Int.ofNat j))) [.box (lift (az t)),tJ e7 t k (Int.ofNat j),ub e7 t k (Int.ofNat j),.box (lift (aN (t.ins.get k))),kf 3 k 0 e9,.box (lift (az t)),.box [.im (iI k)],r5,.loop 18 97 (rV 81) [82,83] (PO 18) (N2 18) (bif !Ax e7 t k (Int.ofNat j) then .ready else .done) (bif !Ax e7 t k (Int.ofNat j) then none else some .ret),x]:=by
 refine R0 (X:=LO) (f:=18) (wJ:=rV 81) (A5:=((83,gL (t.ins.get j),[])::(82,int j,[])::rV 81)) (ps:=[82,83]) (PO 18) (N2 18) (by kernel_rfl) (by kernel_rfl) (S9 _ t k j r5 x ?_)
 refine aq (λh0=>?_) (λh0=>?_)
 .refine ⟨Y8 _,?_⟩
  refine aq (λh1=>?_) (λh1=>?_)
  .have g0:((t.ins.get j).a==(t.ins.get k).a)=true:=h0
   have g1:(nH (t.ins.get j).op q5)=true:=h1
   have e1:e7 t k j=true:=by simp only [e7,g0,g1,aL]
   rw [show Ax e7 t k (Int.ofNat j)=true from e1,show tJ e7 t k (Int.ofNat j)=kf 3 k 0 e9 from by show (bif e7 t k j then _ else _)=_; rw [e1]; rfl,show ub e7 t k (Int.ofNat j)=mw true from by show (bif e7 t k j then _ else _)=_; rw [e1]; rfl]
   exact ⟨10,aQ rfl,aQ rfl,rfl,rfl,bh.refl _,by repeat' (first|exact trivial|refine ⟨.inl (.inl rfl),?_⟩|refine ⟨.inr rfl,?_⟩|refine ⟨.inl (.inr ⟨_,_,_,_,_,_,_,_,_,_,rfl,rfl⟩),?_⟩|done)⟩
  .have g0:((t.ins.get j).a==(t.ins.get k).a)=true:=h0
   have g1:(nH (t.ins.get j).op q5)=false:=h1
   have e1:e7 t k j=false:=by simp only [e7,g0,g1,aL]
   rw [show Ax e7 t k (Int.ofNat j)=false from e1,show tJ e7 t k (Int.ofNat j)=kf 0 0 0 e9 from by show (bif e7 t k j then _ else _)=_; rw [e1]; rfl,show ub e7 t k (Int.ofNat j)=mw false from by show (bif e7 t k j then _ else _)=_; rw [e1]; rfl]
   exact ⟨10,aQ rfl,aQ rfl,rfl,rfl,bh.refl _,by repeat' (first|exact trivial|refine ⟨.inl (.inl rfl),?_⟩|refine ⟨.inr rfl,?_⟩|refine ⟨.inl (.inr ⟨_,_,_,_,_,_,_,_,_,_,rfl,rfl⟩),?_⟩|done)⟩
 .have g0:((t.ins.get j).a==(t.ins.get k).a)=false:=h0
  have e1:e7 t k j=false:=by simp only [e7,g0,aL]
  rw [show Ax e7 t k (Int.ofNat j)=false from e1,show tJ e7 t k (Int.ofNat j)=kf 0 0 0 e9 from by show (bif e7 t k j then _ else _)=_; rw [e1]; rfl,show ub e7 t k (Int.ofNat j)=mw false from by show (bif e7 t k j then _ else _)=_; rw [e1]; rfl]
  exact ⟨10,aQ rfl,aQ rfl,rfl,rfl,bh.refl _,by repeat' (first|exact trivial|refine ⟨.inl (.inl rfl),?_⟩|refine ⟨.inr rfl,?_⟩|refine ⟨.inl (.inr ⟨_,_,_,_,_,_,_,_,_,_,rfl,rfl⟩),?_⟩|done)⟩
theorem SJ (t:ae) (k:Nat) (hk:k<t.ins.n) (hS:bj t) (kd mN gY:Int) (v:iL) (b:Bool):af 18 0 (bF (jt 3 k 0 e9 (Mq e7 t k))) (ai 18 16) (CS false t k kd mN gY v b):=by
 have c:=I1 (Ax e7 t k) (tJ e7 t k) (ub e7 t k) t k (.box (lift (az t))) (kf 0 0 0 e9) (mw false) (.box (lift (aN (t.ins.get k)))) (kf 3 k 0 e9) .kA 18 97 (rV 81) [82,83] (PO 18) (N2 18) (λj x hj _=>ac1 t k j .kA x) (by omega) hS.ins ⟨.inl rfl,.inl rfl,.inl rfl,.inl rfl,.inl rfl,.inl rfl,.inl rfl,.inl rfl,sA rfl,trivial⟩
  (λj h=>by
   have h:e7 t k j=false:=h
   exact ⟨by show (bif e7 t k j then _ else _)=_; rw [h]; rfl,by show (bif e7 t k j then _ else _)=_; rw [h]; rfl⟩)
  (λj=>by
   refine ⟨?_,?_⟩
   .show ib 9 (bif e7 t k j then _ else _)=true
    cases e7 t k j<;>rfl
   .show ib 9 (bif e7 t k j then _ else _)=true
    cases e7 t k j<;>rfl)
 cases hb:zA t (Ax e7 t k) k with
 | none=>
   rw [hb] at c
   rw [Gr hb]
   exact aR (X:=W1 true k kd mN gY v b) (stop:=EB) (KZ _ _ true t k kd mN gY v b ⟨bP.jS (tZ t k) [] _ rfl rfl,aq (λ_=>⟨c,bh.refl _⟩) (λh=>Bool.noConfusion h)⟩)
 | some j=>
   rw [hb] at c
   rw [GH hb]
   have l8:e7 t k j=true:=pP hb
   simp only [Qm] at c
   rw [show tJ e7 t k (Int.ofNat j)=kf 3 k 0 e9 from by show (bif e7 t k j then _ else _)=_; rw [l8]; rfl,show ub e7 t k (Int.ofNat j)=mw true from by show (bif e7 t k j then _ else _)=_; rw [l8]; rfl] at c
   exact aR (X:=W1 false k kd mN gY v b) (stop:=EB) (KZ _ _ false t k kd mN gY v b ⟨bP.jS (tZ t k) [] _ rfl rfl,aq (λh=>Bool.noConfusion h) (λ_=>⟨c,bh.refl _⟩)⟩)
theorem ar9 (t:ae) (k:Nat) (hk:k<t.ins.n) (hS:bj t) (hm:oq t) (ha:(t.ins.get k).op=10->cM (t.ins.get k).a t.ins.n=true) (ha7:(t.ins.get k).op=7->cM (t.ins.get k).a t.ins.n=true):LC 18 [a7 t,int k] [] (Dp t k) []:=by
 obtain ⟨kd,mN,gY,v,b,hd⟩:=P3 t k
 have h99:LC 32 [a7 t,int k] [] (jt kd mN gY v b) []:=hd▸ai4 t k hk hS hm ha
 refine pv (X:=W1 false k kd mN gY v b) (stop:=EB) aF5 (aB7 _ _ false t k kd mN gY v b ?_)
 refine aC (by first|exact a8 hk|exact ha7 (eq_of_beq h2)) ?_
 refine aq (λh0=>?_) (λh0=>?_)
 .have g0:((t.ins.get k).once)=true:=h0
  have e:Dp t k=jt 3 k 0 e9 false:=by simp only [Dp,g0,aL]
  rw [e]
  exact bh.refl _
 .refine ⟨zc _,?_⟩
  refine aq (λh1=>?_) (λh1=>?_)
  .refine ⟨h99,?_⟩
   have g0:((t.ins.get k).once)=false:=h0
   have g1:(jh (t.ins.get k).op)=true:=h1
   have e:Dp t k=Oc t k:=by simp only [Dp,g0,g1,aL]
   rw [e,hd]
   exact bh.refl _
  .refine aq (λh2=>?_) (λh2=>?_)
   .refine aC (by first|exact a8 hk|exact ha7 (eq_of_beq h2)) ?_
    refine aq (λh3=>?_) (λh3=>?_)
    .refine ⟨Ih _ _,?_⟩
     refine aq (λh4=>?_) (λh4=>?_)
     .have g0:((t.ins.get k).once)=false:=h0
      have g1:(jh (t.ins.get k).op)=false:=h1
      have g2:((t.ins.get k).op==7)=true:=h2
      have g3:((t.ins.get (t.ins.get k).a.toNat).op==16)=true:=h3
      have g4:(!lR (t.ins.get (t.ins.get k).a.toNat) (t.ins.get k))=true:=h4
      have e:Dp t k=jt 3 k 0 e9 true:=by simp only [Dp,g0,g1,g2,g3,g4,aL]
      rw [e]
      exact bh.refl _
     .have g0:((t.ins.get k).once)=false:=h0
      have g1:(jh (t.ins.get k).op)=false:=h1
      have g2:((t.ins.get k).op==7)=true:=h2
      have g3:((t.ins.get (t.ins.get k).a.toNat).op==16)=true:=h3
      have g4:(!lR (t.ins.get (t.ins.get k).a.toNat) (t.ins.get k))=false:=h4
      have e:Dp t k=jt 3 k 0 e9 (Mq eo t k):=by simp only [Dp,g0,g1,g2,g3,g4,aL]
      rw [e]
      exact af.rename [0,1,2,3,4] rfl (af.lr (vY false t k kd mN gY v b) (J5 t k hk hS kd mN gY v b))
    .have g0:((t.ins.get k).once)=false:=h0
     have g1:(jh (t.ins.get k).op)=false:=h1
     have g2:((t.ins.get k).op==7)=true:=h2
     have g3:((t.ins.get (t.ins.get k).a.toNat).op==16)=false:=h3
     have e:Dp t k=jt 3 k 0 e9 (Mq eo t k):=by simp only [Dp,g0,g1,g2,g3,aL]
     rw [e]
     exact af.rename [0,1,2,3,4] rfl (af.lr (vY false t k kd mN gY v b) (J5 t k hk hS kd mN gY v b))
   .refine aq (λh3=>?_) (λh3=>?_)
    .have g0:((t.ins.get k).once)=false:=h0
     have g1:(jh (t.ins.get k).op)=false:=h1
     have g2:((t.ins.get k).op==7)=false:=h2
     have g3:((t.ins.get k).op==8)=true:=h3
     have e:Dp t k=jt 3 k 0 e9 (Mq e7 t k):=by simp only [Dp,g0,g1,g2,g3,aL]
     rw [e]
     exact af.rename [0,1,2,3,4] rfl (af.lr (CS false t k kd mN gY v b) (SJ t k hk hS kd mN gY v b))
    .have g0:((t.ins.get k).once)=false:=h0
     have g1:(jh (t.ins.get k).op)=false:=h1
     have g2:((t.ins.get k).op==7)=false:=h2
     have g3:((t.ins.get k).op==8)=false:=h3
     have e:Dp t k=jt 3 k 0 e9 false:=by simp only [Dp,g0,g1,g2,g3,aL]
     rw [e]
     exact bh.refl _
open Go Go.V
section
structure kM where
 kd:Int
 pos:Int
 src:Int
 v:iL
def FC (r:kM) (b:Bool):D:=jt r.kd r.pos r.src r.v b
def ae6 (d:D):kM×Bool:=match d with
 | .t [(true,[c0,c1,c2,c3,c4,c5]),(false,[c6])]=>(⟨cJ (cI c0),cJ (cI c1),cJ (cI c2),⟨cJ (cI c3),cJ (cI c4),Vn (cI c5)⟩⟩,WO (cI c6))
 | _=>(⟨0,0,0,e9⟩,false)
def rN (u:ae) (r:kM):ae:=
 bif r.kd==1 then uT u (vQ u.ins r.pos.toNat (DC (u.ins.get r.pos.toNat).once)).get u.aa.get else
 bif r.kd==2 then uT u (vQ (aY (gQ r.pos r.src) u.ins u.ins.n) r.pos.toNat sT).get (aY (iy r.pos r.src) u.aa u.aa.n).get else
 uT u (vQ u.ins r.pos.toNat sT).get u.aa.get
end
structure Inv (n:Nat) (u:ae):Prop where
 small:bj u
 ok:bH u=0
 num:∀ k,k<u.ins.n->(u.ins.get k).n<=9223372036854775807
 n:u.ins.n=n
theorem Inv.right {n:Nat} {u:ae} (h:Inv n u):tL u=0:=by rw [<- Od u h.num]; exact h.ok
theorem Inv.mem {n:Nat} {u:ae} (h:Inv n u):oq u:=MC h.right
theorem Inv.ins {n:Nat} {u:ae} (h:Inv n u) {k:Nat} (hk:k<n):uD u k=true:=Ay h.right k (by rw [h.n]; exact hk)
theorem Inv.used {n:Nat} {u:ae} (h:Inv n u) {k j:Nat} (hk:k<n) (hj:j<(bz (u.ins.get k)).n):∃ i:Nat,(bz (u.ins.get k)).get j=(i:Int)/\i<k/\vT (u.ins.get i).op=true/\((u.ins.get i).op==17)=false:=by
 have h1:=h.ins hk
 unfold uD MP at h1
 simp only [dJ] at h1
 have h2:=jN.1 h1.2.2.1 j hj
 unfold u16 e6 at h2
 simp only [dJ,decide_eq_true_eq,Bool.not_eq_true'] at h2
 obtain ⟨⟨q1,q2,q3⟩,q4⟩:=h2
 obtain ⟨i,hi⟩:=Int.eq_ofNat_of_zero_le q1
 rw [hi] at q2 q3 q4
 exact ⟨i,hi,by omega,q3,q4⟩
theorem ad2 {x:aj} {c:Int} (h:x.op=c) (h1:gh c=1) (h2:(c==20)=false):(bz x).n=1/\(bz x).get 0=x.a:=by
 unfold bz
 rw [h,h2,h1]
 exact ⟨rfl,rfl⟩
theorem aj8 {x:aj} {c:Int} (h:x.op=c) (h1:gh c=2) (h2:(c==20)=false):(bz x).n=2/\(bz x).get 1=x.b:=by
 unfold bz
 rw [h,h2,h1]
 exact ⟨rfl,rfl⟩
theorem au5 {x:aj} {c:Int} (h:x.op=c) (h1:gh c=3) (h2:(c==20)=false):(bz x).n=3/\(bz x).get 2=x.c:=by
 unfold bz
 rw [h,h2,h1]
 exact ⟨rfl,rfl⟩
theorem al6 (op:Int) (h:vT op=true):eD op [1,2,3,4,10,12,14,16,17]=true:=by rw [Tg]; exact h
theorem qR {u:ae} (hS:bj u) {k:Nat} {x:aj} (h1:x.args.n<=1000) (h2:x.names.n<=1000) (h3:x.k.s.size<=1000) {s:Sq aj} {es:Sq ah} (hn:s.n=u.ins.n) (hm:es.n=u.aa.n) (hs:∀ i,i<u.ins.n->(s.get i).args.n<=1000/\(s.get i).names.n<=1000/\(s.get i).k.s.size<=1000) (he:∀ i,i<u.aa.n->gS (es.get i)):bj (uT u (vQ s k x).get es.get):=by
 refine ⟨hS.ins,hS.aa,λi hi=>?_,λi hi=>?_,λi hi=>?_,he⟩
 .show (bif Nat.beq i k then x else s.get i).args.n<=1000
  cases Nat.beq i k with
  | true=>exact h1
  | false=>exact (hs i hi).1
 .show (bif Nat.beq i k then x else s.get i).names.n<=1000
  cases Nat.beq i k with
  | true=>exact h2
  | false=>exact (hs i hi).2.1
 .show (bif Nat.beq i k then x else s.get i).k.s.size<=1000
  cases Nat.beq i k with
  | true=>exact h3
  | false=>exact (hs i hi).2.2
theorem mU {α:Type} {f:α->α} {P:α->Prop} {s:Sq α} {m:Nat} (h:∀ i,i<s.n->P (s.get i)) (hf:∀ x,P x->P (f x)):∀ i,i<s.n->P ((aY f s m).get i):=by
 intro i hi
 show P (bif Nat.blt i m then f (s.get i) else s.get i)
 cases Nat.blt i m with
 | true=>exact hf _ (h i hi)
 | false=>exact h i hi
theorem Lv {a b:Int} {e:ah} (h:gS e):gS (iy a b e):=
 ⟨h.frames,mU (P:=λx:cK=>x.vars.n<=1000) h.vars λ_ q=>q,h.ax,mU (P:=λx:cG=>x.names.n<=1000) h.names λ_ q=>q,mU (P:=λx:cG=>x.items.n<=1000) h.items λ_ q=>q⟩
theorem AR {u:ae} (hS:bj u) (r:kM):bj (rN u r):=by
 have h0:∀ i,i<u.ins.n->(u.ins.get i).args.n<=1000/\(u.ins.get i).names.n<=1000/\(u.ins.get i).k.s.size<=1000:=λi hi=>⟨hS.args i hi,hS.names i hi,hS.str i hi⟩
 unfold rN
 cases r.kd==1 with
 | true=>exact qR hS (bu _) (bu _) (bu _) rfl rfl h0 hS.ex
 | false=>cases r.kd==2 with
   | true=>exact qR hS (bu _) (bu _) (bu _) (s:=aY (gQ r.pos r.src) u.ins u.ins.n) (es:=aY (iy r.pos r.src) u.aa u.aa.n) rfl rfl (mU (P:=λx:aj=>x.args.n<=1000/\x.names.n<=1000/\x.k.s.size<=1000) h0 λ_ q=>q) (mU hS.ex λ_ q=>Lv q)
   | false=>exact qR hS (bu _) (bu _) (bu _) rfl rfl h0 hS.ex
theorem U3 {u:ae} (h:∀ k,k<u.ins.n->(u.ins.get k).n<=9223372036854775807) (r:kM):∀ k,k<u.ins.n->((rN u r).ins.get k).n<=9223372036854775807:=by
 have up:∀ {s:Sq aj} {p:Nat} {x:aj},x.n=0->(∀ k,k<u.ins.n->(s.get k).n<=9223372036854775807)->∀ k,k<u.ins.n->((vQ s p x).get k).n<=9223372036854775807:=λ{s p x} hx hs k hk=>by
  show (bif Nat.beq k p then x else s.get k).n<=_
  cases Nat.beq k p with
  | true=>show x.n<=_; rw [hx]; omega
  | false=>exact hs k hk
 unfold rN
 cases r.kd==1 with
 | true=>exact up rfl h
 | false=>cases r.kd==2 with
   | true=>exact up rfl (mU (P:=λx:aj=>x.n<=9223372036854775807) h λ_ q=>q)
   | false=>exact up rfl h
theorem WI (u:ae) (r:kM):(rN u r).ins.n=u.ins.n:=by
 unfold rN
 cases r.kd==1 with
 | true=>rfl
 | false=>cases r.kd==2<;>rfl
theorem Inv.next {n:Nat} {u:ae} (h:Inv n u) {r:kM} (h0:bH (rN u r)=0):Inv n (rN u r):=
 ⟨AR h.small r,h0,λk hk=>U3 h.num r k (by rw [WI] at hk; exact hk),by rw [WI]; exact h.n⟩
def Fit (u:ae) (k:Nat) (r:kM):Prop:=
 (r=⟨3,(k:Int),0,e9⟩/\((u.ins.get k).op=7∨(u.ins.get k).op=8∨(u.ins.get k).op=11∨(u.ins.get k).op=13)) ∨
 (r=⟨1,(k:Int),0,Fb⟩/\(u.ins.get k).op=10) ∨
 ∃ j:Nat,r=⟨2,(k:Int),(j:Int),e9⟩/\j<k/\jh (u.ins.get k).op=true/\vT (u.ins.get j).op=true/\((u.ins.get j).op==17)=false
theorem IF {op:Int} (h:jh op=true):op=10∨op=12:=by
 unfold jh at h
 cases h1:op==10 with
 | true=>exact .inl (eq_of_beq h1)
 | false=>
   rw [h1] at h
   exact .inr (eq_of_beq h)
theorem Fit.rewrite {n:Nat} {u:ae} (hI:Inv n u) {k:Nat} (hk:k<n) {r:kM} (h:Fit u k r):LC 20 [a7 u,Js r.kd r.pos r.src r.v] [] (SB (rN u r)) []:=by
 have hk:k<u.ins.n:=by rw [hI.n]; exact hk
 have hs:=AR hI.small r
 rcases h with ⟨rfl,ho⟩|⟨rfl,ho⟩|⟨j,rfl,hj,h1,h2,h3⟩
 .exact Px u _ _ 3 k 0 e9 hI.small hk hI.ok hs (Xl u k hk hI.small ho)
 .exact Px u _ _ 1 k 0 Fb hI.small hk hI.ok hs (Yj u k hk hI.small ho)
 .have h4:=IF h1
  exact Px u _ _ 2 k j e9 hI.small hk hI.ok hs (XZ u k hk hI.small j hj (by rcases h4 with e|e<;>rw [e]<;>rfl) (al6 _ h2) (by rcases h4 with e|e<;>rw [e]<;>rfl) h3 (by rcases h4 with e|e<;>rw [e]<;>rfl))
open Go Go.V
theorem HS {t:ae} {dC:Int->Bool} {j:Nat}:∀ {k:Nat},zA t dC k=some j->j<k
 | 0,h=>by cases h
 | k+1,h=>by
   unfold zA at h
   cases h0 : !(t.ins.get k).once with
   | false=>rw [h0] at h; exact Nat.lt_succ_of_lt (HS h)
   | true=>
     cases h1:dC (Int.ofNat k) with
     | false=>rw [h0,h1] at h; exact Nat.lt_succ_of_lt (HS h)
     | true=>
       rw [h0,h1] at h
       have h:some k=some j:=h
       cases h
       exact Nat.lt_succ_self _
theorem K0 {op:Int} (h:ea op=true):op=11∨op=13:=by
 unfold ea at h
 cases h1:op==11 with
 | true=>exact .inl (eq_of_beq h1)
 | false=>
   rw [h1] at h
   exact .inr (eq_of_beq h)
theorem YE {n:Nat} {u:ae} (hI:Inv n u) {k:Nat} (hk:k<n) (h98:jh (u.ins.get k).op=true):∃ r b,Oc u k=FC r b/\(b=true->Fit u k r):=by
 unfold Oc
 cases hb:zA u (EI u k) k with
 | none=>
   refine ⟨⟨1,k,0,Fb⟩,HM u k,rfl,λh=>.inr (.inl ⟨rfl,?_⟩)⟩
   unfold HM at h
   cases h1:(u.ins.get k).op==10 with
   | true=>exact eq_of_beq h1
   | false=>rw [h1] at h; cases h
 | some j=>
   have hj:=HS hb
   have hs:j5 u k j=true:=pP hb
   refine ⟨⟨(jV u k j).1,(jV u k j).2.1,(jV u k j).2.2.1,e9⟩,(jV u k j).2.2.2,rfl,λh=>.inr (.inr ?_)⟩
   unfold jV at h ⊢
   cases h2:b6 u j k==2 with
   | false=>rw [h2] at h; cases h
   | true=>
     simp only [cond_true]
     cases h3:jh (u.ins.get j).op with
     | true=>
       simp only [cond_true]
       exact ⟨j,rfl,hj,h98,by rcases IF h3 with e|e<;>rw [e]<;>rfl,by rcases IF h3 with e|e<;>rw [e]<;>rfl⟩
     | false=>
       simp only [cond_false]
       have h4:ea (u.ins.get j).op=true:=by
        unfold j5 at hs
        rw [h3,Bool.false_or,dJ] at hs
        exact hs.1
       cases h5:(u.ins.get j).op==11 with
       | true=>
         simp only [cond_true]
         obtain ⟨q1,q2⟩:=aj8 (eq_of_beq h5) rfl rfl
         obtain ⟨i,g1,g2,g3,g4⟩:=hI.used (k:=j) (j:=1) (by omega) (by rw [q1]; omega)
         rw [q2] at g1
         exact ⟨i,by rw [g1],by omega,h98,g3,g4⟩
       | false=>
         simp only [cond_false]
         have h6:(u.ins.get j).op=13:=by
          rcases K0 h4 with e|e
          .rw [e] at h5; cases h5
          .exact e
         obtain ⟨q1,q2⟩:=au5 h6 rfl rfl
         obtain ⟨i,g1,g2,g3,g4⟩:=hI.used (k:=j) (j:=2) (by omega) (by rw [q1]; omega)
         rw [q2] at g1
         exact ⟨i,by rw [g1],by omega,h98,g3,g4⟩
theorem XS {n:Nat} {u:ae} (hI:Inv n u) {k:Nat} (hk:k<n):∃ r b,Dp u k=FC r b/\(b=true->Fit u k r):=by
 unfold Dp
 have no:∃ r b,jt 3 k 0 e9 false=FC r b/\(b=true->Fit u k r):=⟨⟨3,k,0,e9⟩,false,rfl,λh=>by cases h⟩
 cases (u.ins.get k).once with
 | true=>exact no
 | false=>
   simp only [cond_false]
   cases h1:jh (u.ins.get k).op with
   | true=>exact YE hI hk h1
   | false=>
     simp only [cond_false]
     cases h2:(u.ins.get k).op==7 with
     | true=>
       have yes:∀ b,∃ r b',jt 3 k 0 e9 b=FC r b'/\(b'=true->Fit u k r):=λb=>⟨⟨3,k,0,e9⟩,b,rfl,λ_=>.inl ⟨rfl,.inl (eq_of_beq h2)⟩⟩
       simp only [cond_true]
       cases (u.ins.get (u.ins.get k).a.toNat).op==16 with
       | true=>
         simp only [cond_true]
         cases !lR (u.ins.get (u.ins.get k).a.toNat) (u.ins.get k) with
         | true=>exact yes _
         | false=>exact yes _
       | false=>exact yes _
     | false=>
       simp only [cond_false]
       cases h3:(u.ins.get k).op==8 with
       | true=>exact ⟨⟨3,k,0,e9⟩,Mq e7 u k,rfl,λ_=>.inl ⟨rfl,.inr (.inl (eq_of_beq h3))⟩⟩
       | false=>exact no
theorem Inv.ag8 {n:Nat} {u:ae} (hI:Inv n u) {k:Nat} (hk:k<n) {c:Int} (h:(u.ins.get k).op=c) (h1:gh c=1) (h2:(c==20)=false):cM (u.ins.get k).a u.ins.n=true:=by
 obtain ⟨q1,q2⟩:=ad2 h h1 h2
 obtain ⟨i,g1,g2,_,_⟩:=hI.used (k:=k) (j:=0) hk (by rw [q1]; omega)
 rw [q2] at g1
 rw [g1]
 exact a8 (by rw [hI.n]; omega)
theorem ao3 {n:Nat} {u:ae} (hI:Inv n u) {k:Nat} (hk:k<n):∃ r b,ae6 (Dp u k)=(r,b)/\LC 18 [a7 u,int k] [] (FC r b) []/\(b=true->Fit u k r):=by
 obtain ⟨r,b,h1,h2⟩:=XS hI hk
 refine ⟨r,b,by rw [h1]; rfl,?_,h2⟩
 rw [<- h1]
 exact ar9 u k (by rw [hI.n]; exact hk) hI.small hI.mem (λh=>hI.ag8 hk h rfl rfl) (λh=>hI.ag8 hk h rfl rfl)
theorem an3 {n:Nat} {u:ae} (hI:Inv n u) {k:Nat} (hk:k<n):LC 19 [a7 u,int k] [] (FC ⟨3,k,0,e9⟩ (zb u k)) []/\(zb u k=true->Fit u k ⟨3,k,0,e9⟩):=by
 refine ⟨an5 u k (by rw [hI.n]; exact hk) hI.small hI.mem,λh=>.inl ⟨rfl,?_⟩⟩
 unfold zb at h
 cases h1:ea (u.ins.get k).op with
 | false=>rw [h1] at h; cases h
 | true=>exact .inr (.inr (K0 h1))
open Go Go.V
section
def lRw (r:kM):List Go.V.I:=[iI r.kd,iI r.pos,iI r.src,iI r.v.kind,iI r.v.n,iS r.v.s]
def OM (r:kM):Nat->Go.V.I:=ixI (lRw r)
def rwR (s:Sq kM):ag:=.arr 44 6 s.n (λi=>OM (s.get i))
def fnV (f:FuncId):C:=.im (.fn f 0 λ_=>.v (.bool false))
def snR (s:Sq kM) (x:kM):Sq kM:=ek s ⟨1,λ_=>x⟩
def D9 (p:Bool) (u:ae) (k:Nat):kM×Bool:=bif p then ae6 (Dp u k) else (⟨3,(k:Int),0,e9⟩,zb u k)
def Fs (p:Bool) (k:Nat) (x:ae×Sq kM):ae×Sq kM:=bif (D9 p x.1 k).2 then bif bH (rN x.1 (D9 p x.1 k).1)!=0 then x else (rN x.1 (D9 p x.1 k).1,snR x.2 (D9 p x.1 k).1) else x
def Mw (p:Bool):Nat->Nat->ae×Sq kM->ae×Sq kM
 | 0,_,x=>x
 | m+1,k,x=>Mw p m (k+1) (Fs p k x)
def rP:kM:=⟨0,0,0,e9⟩
def zT0:ae:=⟨⟨0,0⟩,bc sT,bc ⟨bc ⟨0,0,bc 0⟩,bc zV,0⟩⟩
def nO (t:ae):Sq kM:=bif bH t != 0 then bc rP else (Mw false t.ins.n 0 (Mw true t.ins.n 0 (t,bc rP))).2
def MK (r:kM) (b:Bool) (u2:ae) (e:Int):fN:={ F:=ext vh [(10,λds _=>(int (bH (fj ds 0)),[],[])),(18,λ_ _=>(FC r b,[],[])),(19,λ_ _=>(FC r b,[],[])),(20,λ_ _=>(.t [(true,lift (az u2)),(false,[ci e])],[],[]))] }
end
def vN:Nat->Bool:=λi=>Nat.beq i 8
theorem aH0:Fn 6:={}
abbrev R6:C:=.im (.fn 18 0 (λx=>I.v (Value.bool false)))
abbrev B6:fp:=(5,((.c R6),[]))
abbrev pj:fp:=(14,((.c (.sa 1 2)),[]))
abbrev Dh:fp:=(16,((int 0),[]))
abbrev O4:C:=.im (.fn 19 0 (λx=>I.v (Value.bool false)))
abbrev xr:ag:=.row 58 1 2 [R6,O4]
theorem aB1 (L:LP) (QD:D->Prop) (r:kM) (b:Bool) (u2:ae) (e:Int) (t:ae) (h:(LC 10 [(fX t)] [] (int (bH t)) []/\br (bH t != 0) (QD (.c fi)) (L (ai 6 8) ⟨[dN,(3,((.c fi),[])),B6,pj,(15,((int (↑2:Int)),[])),Dh,(22,((iw t),[])),(23,((int 0),[]))],[(cu t),xr],[]⟩))):fx (MK r b u2 e) 6 vN L (bL QD) [a7 t] []:=km h
def lT (r:kM) (b:Bool) (u2:ae) (e:Int) (t:ae) (n:Nat) (u:ae) (s:Sq kM) (k:Nat):VS:=⟨[l4,(3,.c (.sa 2 s.n),[]),(5,.c (fnV 18),[]),(14,.c (.sa 1 2),[]),(15,int 2,[]),(16,int 0,[]),(22,int n,[]),(23,int k,[])],[.box (lift (az u)),.row 58 1 2 [fnV 18,fnV 19],rwR s],[]⟩
abbrev OU (aw:kM) (aG:Bool):D:=.t [(.true,[(ci aw.kd),(ci aw.pos),(ci aw.src),(ci aw.v.1),(ci aw.v.2),(.im (.v (.string aw.v.3)))]),(.false,[(.im (.v (.bool aG)))])]
abbrev xJ (aw:Sq kM):fp:=(3,((.c (.sa 2 aw.1)),[]))
abbrev rG:fp:=(15,((int 2),[]))
abbrev tG (aw:Nat):fp:=(22,((kh aw),[]))
abbrev yj (aw:Sq kM):ag:=.arr 44 6 aw.1 (λi=>OM (aw.2 i))
abbrev uX (aw:kM):List C:=[(ci aw.kd),(ci aw.pos),(ci aw.src),(ci aw.v.1),(ci aw.v.2),(.im (.v (.string aw.v.3)))]
abbrev PN (aw:ae) (aG:kM) (bk:Sq kM):List ag:=[(cu aw),xr,.dead,(.box (uX aG)),(cu aw),(.row 44 6 1 (uX aG)),(.arr 44 6 (bk.1+1) (gA bk.1 (λi=>OM (bk.2 i)) (1,flat 6 [I.v (Value.int IntKind.i64 aG.kd),I.v (Value.int IntKind.i64 aG.pos),I.v (Value.int IntKind.i64 aG.src),I.v (Value.int IntKind.i64 aG.v.1),I.v (Value.int IntKind.i64 aG.v.2),iS aG.v.3]).snd))]
abbrev Cu:fp:=(5,((.c O4),[]))
theorem wM (L:LP) (QD:D->Prop) (r:kM) (b:Bool) (u2:ae) (e:Int) (t:ae) (n:Nat) (u:ae) (s:Sq kM) (k:Nat) (h:br (decide ((↑k:Int)<(↑n:Int))) ((LC 18 (tP u k) [] (OU r b) []/\br (!b) (L (ai 6 8) ⟨[dN,(xJ s),B6,pj,rG,Dh,(tG n),(23,((int (IntKind.i64.wrap ((↑k:Int)+1))),[]))],[(cu u),xr,(yj s),(.box (uX r))],[]⟩) ((LC 20 [(fX u),(.a (uX r))] [] (.t [(.true,(lift (az (u2)))),(.false,[(ci e)])]) []/\br (e==0) (nd (b5 (s.1+1) 56) (nd (s.1.beq s.1) (L (ai 6 8) ⟨[dN,(3,((.c (.sa 6 (.succ s.1))),[])),B6,pj,rG,Dh,(tG n),(23,((int (IntKind.i64.wrap ((↑k:Int)+1))),[]))],(PN u2 r s),[]⟩))) (L (ai 6 8) ⟨[dN,(xJ s),B6,pj,rG,Dh,(tG n),(23,((int (IntKind.i64.wrap ((↑k:Int)+1))),[]))],[(cu u),xr,(yj s),(.box (uX r)),(cu u2)],[]⟩))))) (L (ai 6 8) ⟨[dN,(xJ s),Cu,pj,rG,(16,((int (IntKind.i64.wrap (0+1))),[])),(22,((iw u),[])),(23,((int 0),[]))],[(cu u),xr,(yj s)],[]⟩)):cB (MK r b u2 e) 6 vN L (bL QD) 8 (lT r b u2 e t n u s k):=km h
def kG (r:kM) (b:Bool) (u2:ae) (e:Int) (t:ae) (n:Nat) (u:ae) (s:Sq kM) (k:Nat):VS:=⟨[l4,(3,.c (.sa 2 s.n),[]),(5,.c (fnV 19),[]),(14,.c (.sa 1 2),[]),(15,int 2,[]),(16,int 1,[]),(22,int n,[]),(23,int k,[])],[.box (lift (az u)),.row 58 1 2 [fnV 18,fnV 19],rwR s],[]⟩
theorem wc (L:LP) (QD:D->Prop) (r:kM) (b:Bool) (u2:ae) (e:Int) (t:ae) (n:Nat) (u:ae) (s:Sq kM) (k:Nat) (h:br (decide ((↑k:Int)<(↑n:Int))) ((LC 19 (tP u k) [] (OU r b) []/\br (!b) (L (ai 6 8) ⟨[dN,(xJ s),Cu,pj,rG,(16,((int 1),[])),(tG n),(23,((int (IntKind.i64.wrap ((↑k:Int)+1))),[]))],[(cu u),xr,(yj s),(.box (uX r))],[]⟩) ((LC 20 [(fX u),(.a (uX r))] [] (.t [(.true,(lift (az (u2)))),(.false,[(ci e)])]) []/\br (e==0) (nd (b5 (s.1+1) 56) (nd (s.1.beq s.1) (L (ai 6 8) ⟨[dN,(3,((.c (.sa 6 (.succ s.1))),[])),Cu,pj,rG,(16,((int 1),[])),(tG n),(23,((int (IntKind.i64.wrap ((↑k:Int)+1))),[]))],(PN u2 r s),[]⟩))) (L (ai 6 8) ⟨[dN,(xJ s),Cu,pj,rG,(16,((int 1),[])),(tG n),(23,((int (IntKind.i64.wrap ((↑k:Int)+1))),[]))],[(cu u),xr,(yj s),(.box (uX r)),(cu u2)],[]⟩))))) (QD (.c (.im (.sl 6 s.1 (λi=>OM (s.2 i))))))):cB (MK r b u2 e) 6 vN L (bL QD) 8 (kG r b u2 e t n u s k):=km h
theorem ar8 (t:ae) (n c0:Nat) (hn:n<=1000) (hc:c0<=1000) (d:D):∀ k,k<=n->∀ x:ae×Sq kM,Inv n x.1->x.2.n<=c0+k->d=iM 6 OM (Mw false (n-k) k x).2->af 6 0 (bF d) (ai 6 8) (kG rP false t 0 t n x.1 x.2 k):=by
 refine aU (λk hk ih=>?_) ?_
 .rintro ⟨u,s⟩ hI hs hf
  have hI:Inv n u:=hI
  have hs:s.n<=c0+k:=hs
  have hW:=dr hk (by unfold maxLen; omega:_<=maxLen)
  have e0:n-k=(n-(k+1))+1:=by omega
  rw [e0] at hf
  obtain ⟨h1,h2⟩:=an3 hI hk
  generalize hr0:(⟨3,(k:Int),0,e9⟩:kM)=r at h1 h2
  generalize hb0:zb u k=b at h1 h2
  have hpd:D9 false u k=(r,b):=by show ((⟨3,(k:Int),0,e9⟩:kM),zb u k)=_; rw [hr0,hb0]
  have go:∀ x':ae×Sq kM,Fs false k (u,s)=x'->Inv n x'.1->x'.2.n<=c0+(k+1)->af 6 0 (bF d) (ai 6 8) (kG rP false t 0 t n x'.1 x'.2 (k+1)):=λx' hx h1 h2=>ih x' h1 h2 (by
   have hf:=hf
   unfold Mw at hf
   rw [hx] at hf
   exact hf)
  have same:b=false->af 6 0 (bF d) (ai 6 8) (kG rP false t 0 t n u s (k+1)):=λhb=>go (u,s) (by
   show (bif (D9 false u k).2 then _ else _)=_
   rw [hpd,hb]; rfl) hI (by show s.n<=_; omega)
  cases hb:b with
  | false=>
    rw [hb] at h1
    refine aR (X:=MK r false t 0) (stop:=vN) (wc _ _ r false t 0 t n u s k ?_)
    refine aq (λh0=>⟨h1,aq (λ_=>?_) (λh=>Bool.noConfusion h)⟩) (λh=>(dec_lt h hk).elim)
    rw [hW]
    exact af.rename [0,1,2] rfl (af.lr (kG rP false t 0 t n u s (k+1)) (same hb))
  | true=>
    rw [hb] at h1
    have hw:=(h2 hb).rewrite hI hk
    cases hr:bH (rN u r)!=0 with
    | true=>
      have hw:LC 20 [a7 u,Js r.kd r.pos r.src r.v] [] (.t [(true,lift (az zT0)),(false,[ci 1])]) []:=bP.post hw (by unfold SB; rw [hr]; exact U5 (.cons (jg.refl _) (.cons (jg.refl _) (.cons (jg.im lA) (.cons (jg.im lA) .nil)))))
      refine aR (X:=MK r true zT0 1) (stop:=vN) (wc _ _ r true zT0 1 t n u s k ?_)
      refine aq (λh0=>⟨h1,aq (λh=>Bool.noConfusion h) (λ_=>⟨hw,aq (λh=>absurd h (by decide)) (λ_=>?_)⟩)⟩) (λh=>(dec_lt h hk).elim)
      rw [hW]
      exact af.rename [0,1,2] rfl (af.lr (kG rP false t 0 t n u s (k+1)) (go (u,s) (by
       show (bif (D9 false u k).2 then (bif bH (rN u (D9 false u k).1)!=0 then _ else _) else _)=_
       rw [hpd,hb,hr]; rfl) hI (by show s.n<=_; omega)))
    | false=>
      have hw:LC 20 [a7 u,Js r.kd r.pos r.src r.v] [] (.t [(true,lift (az (rN u r))),(false,[ci 0])]) []:=bP.post hw (by unfold SB; rw [hr]; exact bh.refl _)
      have h0r:bH (rN u r)=0:=by simpa using hr
      refine aR (X:=MK r true (rN u r) 0) (stop:=vN) (wc _ _ r true (rN u r) 0 t n u s k ?_)
      refine aq (λh0=>⟨h1,aq (λh=>Bool.noConfusion h) (λ_=>⟨hw,aq (λ_=>aC (cZ (by show s.n+1<=_; omega) (by omega)) (aC (dq _) ?_)) (λh=>absurd h (by decide))⟩)⟩) (λh=>(dec_lt h hk).elim)
      rw [hW]
      exact af.rename [0,1,6] rfl (af.lf (kG rP false t 0 t n (rN u r) (snR s r) (k+1)) (rc (rc (.cons (wi 44 6 s r OM (lRw r) λj hj=>by rw [rY (l:=lRw r) hj]; exact cH.refl _) .nil))) (go (rN u r,snR s r) (by
       show (bif (D9 false u k).2 then (bif bH (rN u (D9 false u k).1)!=0 then _ else _) else _)=_
       rw [hpd,hb,hr]; rfl) (hI.next h0r) (by show s.n+1<=_; omega)))
 .rintro ⟨u,s⟩ hI hs hf
  rw [Nat.sub_self] at hf
  refine aR (X:=MK rP false t 0) (stop:=vN) (wc _ _ rP false t 0 t n u s n ?_)
  refine aq (λh=>bS h) (λh=>?_)
  rw [hf]
  exact bh.refl _
theorem ap6 (t:ae) (n c0:Nat) (hn:n<=1000) (hc:c0<=1000) (d:D):∀ k,k<=n->∀ x:ae×Sq kM,Inv n x.1->x.2.n<=c0+k->(∀ y:ae×Sq kM,Mw true (n-k) k x=y->af 6 0 (bF d) (ai 6 8) (kG rP false t 0 t n y.1 y.2 0))->af 6 0 (bF d) (ai 6 8) (lT rP false t 0 t n x.1 x.2 k):=by
 refine aU (λk hk ih=>?_) ?_
 .rintro ⟨u,s⟩ hI hs hf
  have hI:Inv n u:=hI
  have hs:s.n<=c0+k:=hs
  have hW:=dr hk (by unfold maxLen; omega:_<=maxLen)
  have e0:n-k=(n-(k+1))+1:=by omega
  rw [e0] at hf
  obtain ⟨r,b,hpd,h1,h2⟩:=ao3 hI hk
  have hpd:D9 true u k=(r,b):=hpd
  have go:∀ x':ae×Sq kM,Fs true k (u,s)=x'->Inv n x'.1->x'.2.n<=c0+(k+1)->af 6 0 (bF d) (ai 6 8) (lT rP false t 0 t n x'.1 x'.2 (k+1)):=λx' hx h1 h2=>ih x' h1 h2 (by
   have hf:=hf
   unfold Mw at hf
   rw [hx] at hf
   exact hf)
  have same:b=false->af 6 0 (bF d) (ai 6 8) (lT rP false t 0 t n u s (k+1)):=λhb=>go (u,s) (by
   show (bif (D9 true u k).2 then _ else _)=_
   rw [hpd,hb]; rfl) hI (by show s.n<=_; omega)
  cases hb:b with
  | false=>
    rw [hb] at h1
    refine aR (X:=MK r false t 0) (stop:=vN) (wM _ _ r false t 0 t n u s k ?_)
    refine aq (λh0=>⟨h1,aq (λ_=>?_) (λh=>Bool.noConfusion h)⟩) (λh=>(dec_lt h hk).elim)
    rw [hW]
    exact af.rename [0,1,2] rfl (af.lr (lT rP false t 0 t n u s (k+1)) (same hb))
  | true=>
    rw [hb] at h1
    have hw:=(h2 hb).rewrite hI hk
    cases hr:bH (rN u r)!=0 with
    | true=>
      have hw:LC 20 [a7 u,Js r.kd r.pos r.src r.v] [] (.t [(true,lift (az zT0)),(false,[ci 1])]) []:=bP.post hw (by unfold SB; rw [hr]; exact U5 (.cons (jg.refl _) (.cons (jg.refl _) (.cons (jg.im lA) (.cons (jg.im lA) .nil)))))
      refine aR (X:=MK r true zT0 1) (stop:=vN) (wM _ _ r true zT0 1 t n u s k ?_)
      refine aq (λh0=>⟨h1,aq (λh=>Bool.noConfusion h) (λ_=>⟨hw,aq (λh=>absurd h (by decide)) (λ_=>?_)⟩)⟩) (λh=>(dec_lt h hk).elim)
      rw [hW]
      exact af.rename [0,1,2] rfl (af.lr (lT rP false t 0 t n u s (k+1)) (go (u,s) (by
       show (bif (D9 true u k).2 then (bif bH (rN u (D9 true u k).1)!=0 then _ else _) else _)=_
       rw [hpd,hb,hr]; rfl) hI (by show s.n<=_; omega)))
    | false=>
      have hw:LC 20 [a7 u,Js r.kd r.pos r.src r.v] [] (.t [(true,lift (az (rN u r))),(false,[ci 0])]) []:=bP.post hw (by unfold SB; rw [hr]; exact bh.refl _)
      have h0r:bH (rN u r)=0:=by simpa using hr
      refine aR (X:=MK r true (rN u r) 0) (stop:=vN) (wM _ _ r true (rN u r) 0 t n u s k ?_)
      refine aq (λh0=>⟨h1,aq (λh=>Bool.noConfusion h) (λ_=>⟨hw,aq (λ_=>aC (cZ (by show s.n+1<=_; omega) (by omega)) (aC (dq _) ?_)) (λh=>absurd h (by decide))⟩)⟩) (λh=>(dec_lt h hk).elim)
      rw [hW]
      exact af.rename [0,1,6] rfl (af.lf (lT rP false t 0 t n (rN u r) (snR s r) (k+1)) (rc (rc (.cons (wi 44 6 s r OM (lRw r) λj hj=>by rw [rY (l:=lRw r) hj]; exact cH.refl _) .nil))) (go (rN u r,snR s r) (by
       show (bif (D9 true u k).2 then (bif bH (rN u (D9 true u k).1)!=0 then _ else _) else _)=_
       rw [hpd,hb,hr]; rfl) (hI.next h0r) (by show s.n+1<=_; omega)))
 .rintro ⟨u,s⟩ hI hs hf
  rw [Nat.sub_self] at hf
  refine aR (X:=MK rP false t 0) (stop:=vN) (wM _ _ rP false t 0 t n u s n ?_)
  refine aq (λh=>bS h) (λh=>?_)
  have hn2:u.2.1=n:=hI.n
  subst hn2
  exact af.lr (kG rP false t 0 t u.2.1 u s 0) (hf (u,s) rfl)
theorem Kx (t:ae):∀ (p:Bool) (m k n:Nat) (x:ae×Sq kM),k+m<=n->Inv n x.1->Inv n (Mw p m k x).1/\(Mw p m k x).2.n<=x.2.n+m
 | p,0,k,n,x,_,hI=>⟨hI,bG _⟩
 | p,m+1,k,n,x,hk,hI=>by
   have key:Inv n (Fs p k x).1/\(Fs p k x).2.n<=x.2.n+1:=by
    unfold Fs
    cases (D9 p x.1 k).2 with
    | false=>exact ⟨hI,Nat.le_succ _⟩
    | true=>
      cases hr:bH (rN x.1 (D9 p x.1 k).1)!=0 with
      | true=>exact ⟨hI,Nat.le_succ _⟩
      | false=>exact ⟨hI.next (by simpa using hr),bG _⟩
   obtain ⟨h1,h2⟩:=Kx t p m (k+1) n (Fs p k x) (by omega) key.1
   exact ⟨h1,by show (Mw p m (k+1) (Fs p k x)).2.n<=_; omega⟩
theorem WB (t:ae) (hS:bj t) (hn:∀ k,k<t.ins.n->(t.ins.get k).n<=9223372036854775807):LC 6 [a7 t] [] (iM 6 OM (nO t)) []:=by
 have hN:=hS.ins
 refine pv (X:=MK rP false t 0) (stop:=vN) aH0 (aB1 _ _ rP false t 0 t ⟨Gl t hS,aq (λh=>?_) (λh=>?_)⟩)
 .have h:(bH t != 0)=true:=h
  rw [show nO t=bc rP from by unfold nO; rw [h]; rfl]
  exact λE av w v q=>jg.nil 6 _ E av w v q
 .have h:(bH t != 0)=false:=h
  rw [show nO t=(Mw false t.ins.n 0 (Mw true t.ins.n 0 (t,bc rP))).2 from by unfold nO; rw [h]; rfl]
  have hI:Inv t.ins.n t:=⟨hS,by simpa using h,hn,rfl⟩
  have hA:=Kx t true t.ins.n 0 t.ins.n (t,bc rP) (by omega) hI
  refine af.KB 3 44 6 rfl (af.lf (lT rP false t 0 t t.ins.n t (bc rP) 0) (rc (rc (.cons (ug 44 6 _ _) .nil))) (ap6 t t.ins.n 0 hN (bu _) _ 0 (bu _) (t,bc rP) hI (bG _) ?_))
  intro y hy
  have hy:Mw true t.ins.n 0 (t,bc rP)=y:=hy
  rw [hy] at hA ⊢
  exact ar8 t t.ins.n t.ins.n hN hN _ 0 (bu _) y hA.1 (by have h9:y.2.n<=0+t.ins.n:=hA.2; show y.2.n<=t.ins.n+0; omega) rfl
end
end Go.Proofs.Ytgbbdaegmfjahaa
