/- Loops: what is to be shown. -/
import Derived.Test.YtgbbdaegmfjahaaP7
import Derived.Test.YtgbbdaegmfjahaaP6
set_option linter.unusedVariables false
set_option linter.unusedSimpArgs false
set_option maxRecDepth 1000000
namespace Go.Proofs.Ytgbbdaegmfjahaa
open Go Go.V
noncomputable section
section
def Pq (el sz:Nat) (ds:List D):Out:=match ds with
 | [.c (.im (.sl _ n get))]=>(.c (.sa 0 n),[],[.arr el sz n get])
 | _=>tF
def F75:FuncId->List D->List ag->Out:=ext vh [(60,λds _=>Pq 3 1 ds),(61,λds _=>(aD ds 0,[],[])),(58,λds _=>Pq 56 14 ds),(59,λds _=>Pq 72 3 ds),(62,λds _=>Pq 74 3 ds),(63,λds _=>Pq 77 4 ds)]
def tq:fN:={ F:=F75 }
def ar3 (x:aj):List O:=[.im (iI x.op),.im (iI x.a),.im (iI x.b),.im (iI x.c),.im (iI x.n),yY x.args,.im (iI x.k.kind),.im (iI x.k.n),.im (iS x.k.s),.im (zK 1 cw x.names),.im (iI x.place.fn),.im (iI x.place.line),.im (iI x.exit),.im (iB x.once)]
def bD (x:aj):Nat->O:=SE (ar3 x)
def fE (x:cG):Nat->O:=SE [.im (iI x.value),.im (iI x.cls),.im (zK 1 cw x.names),yY x.items]
def as0 (s:Sq cG):O:=.ns 77 4 s.n λi=>fE (s.get i)
def bs (x:ah):Nat->O:=SE [vO x.frames,as0 x.ax,.im (iI x.back)]
def bR (s:Sq aj):ag:=.bt 56 14 s.n (λi=>bD (s.get i)) none
def eS (s:Sq ah):ag:=.bt 72 3 s.n (λi=>bs (s.get i)) none
def N4 (s:Sq cG):ag:=.bt 77 4 s.n (λi=>fE (s.get i)) none
def vn {α:Type} (s:Sq α) (k:Nat) (f:α->Nat->O) (e:α->Nat->Go.V.I) (i:Nat):Nat->O:=bif Nat.blt i k then f (s.get i) else λj=>.im (e (s.get i) j)
def gN {α:Type} (el sz:Nat) (f:α->Nat->O) (e:α->Nat->Go.V.I) (s:Sq α) (k:Nat):ag:=.bt el sz s.n (vn s k f e) none
def gF {α:Type} (el sz:Nat) (f:α->Nat->O) (e:α->Nat->Go.V.I) (s:Sq α) (k:Nat):ag:=.bt el sz s.n (vn s k f e) (some (k,iY (λj=>.im (e (s.get k) j)) sz 0))
def PX (t:ae):ag:=.box [.im (iI t.place.fn),.im (iI t.place.line),.sa 2 t.ins.n,.sa 3 t.aa.n]
end
def jj:Nat->Bool:=λi=>Nat.beq i 2||Nat.beq i 3||Nat.beq i 4||Nat.beq i 8||Nat.beq i 9||Nat.beq i 11||Nat.beq i 12||Nat.beq i 13||Nat.beq i 17||Nat.beq i 18||Nat.beq i 21
theorem aD6:Fn 37:={}
abbrev Jg (aw:ae):ag:=.arr 56 14 aw.2.1 (λi=>fT (aw.2.2 i))
abbrev qP (aw:ae):ag:=.arr 72 3 aw.3.1 (λi=>dw (aw.3.2 i))
abbrev ey (aw:ae):ag:=.box [(ci aw.1.1),(ci aw.1.2),(.sa 2 aw.2.1),(.sa 3 aw.3.1)]
theorem aG0 (L:LP) (QE:D->List ag->Prop) (t:ae) (h:(LC 58 [(.c (.im (.sl 14 t.2.1 (λi=>fT (t.2.2 i)))))] [] (.c (.sa 0 t.2.1)) [(Jg t)]/\nd (Nat.beq t.2.1 t.2.1) ((LC 59 [(.c (.im (.sl 3 t.3.1 (λi=>dw (t.3.2 i)))))] [] (.c (.sa 0 t.3.1)) [(qP t)]/\nd (Nat.beq t.3.1 t.3.1) ((LC 58 [(.c (.im (.sl 14 t.2.1 (λi=>fT (t.2.2 i)))))] [] (.c (.sa 0 t.2.1)) [(Jg t)]/\nd (Nat.beq t.2.1 t.2.1) ((LC 59 [(.c (.im (.sl 3 t.3.1 (λi=>dw (t.3.2 i)))))] [] (.c (.sa 0 t.3.1)) [(qP t)]/\nd (Nat.beq t.3.1 t.3.1) (L (ai 37 2) ⟨[dN,fW],[(ey t),cQ,(Jg t),(qP t)],[]⟩))))))))):fx tq 37 jj L QE [a7 t] []:=km h
def IW (t:ae)  : VS:=⟨[l4,l9],[PX t,.box [.im (iI 0),.im (iI 0),.im (.v (.slice none 0 0)),.im (.v (.slice none 0 0))],gN 56 14 bD fT t.ins 0,.arr 72 3 t.aa.n (λi=>dw (t.aa.get i))],[]⟩
theorem YA (L:LP) (QE:D->List ag->Prop) (t:ae)  (h:L (ai 37 3) ⟨[dN,fW,(22,((.c (.sa 2 t.2.1)),[])),(23,((iw t),[])),(24,((int 0),[]))],[(ey t),cQ,(.bt 56 14 t.2.1 (vn t.2 0 bD fT) .none),(qP t)],[]⟩):cB tq 37 jj L QE 2 (IW t ):=km h
def ye (t:ae) (k:Nat):VS:=⟨[l4,l9,(22,.c (.sa 2 t.ins.n),[]),(23,int t.ins.n,[]),(24,int k,[])],[PX t,.box [.im (iI 0),.im (iI 0),.im (.v (.slice none 0 0)),.im (.v (.slice none 0 0))],gN 56 14 bD fT t.ins k,.arr 72 3 t.aa.n (λi=>dw (t.aa.get i))],[]⟩
abbrev lO (aw:ae):fp:=(47,((.c (.sa 3 aw.3.1)),[]))
abbrev IL (aw:ae):D:=int (↑aw.3.1:Int)
abbrev ly (aw:ae):fp:=(48,((IL aw),[]))
theorem Nd (L:LP) (QE:D->List ag->Prop) (t:ae) (k:Nat) (h:br (decide ((↑k:Int)<(↑t.2.1:Int))) (L (ai 37 4) ⟨[dN,fW,(22,((.c (.sa 2 t.2.1)),[])),(23,((iw t),[])),(24,((int (↑k:Int)),[])),(25,((bool true),[]))],[(ey t),cQ,(.bt 56 14 t.2.1 (vn t.2 k bD fT) .none),(qP t)],[]⟩) (L (ai 37 8) ⟨[dN,fW,(lO t),(ly t),(49,((int 0),[]))],[(ey t),cQ,(.bt 56 14 t.2.1 (vn t.2 k bD fT) .none),(qP t)],[]⟩)):cB tq 37 jj L QE 3 (ye t k):=km h
def HW (t:ae) (k:Nat):VS:=⟨[l4,l9,(22,.c (.sa 2 t.ins.n),[]),(23,int t.ins.n,[]),(24,int k,[])],[PX t,.box [.im (iI 0),.im (iI 0),.im (.v (.slice none 0 0)),.im (.v (.slice none 0 0))],gF 56 14 bD fT t.ins k,.arr 72 3 t.aa.n (λi=>dw (t.aa.get i))],[]⟩
abbrev Hh (aw:ae) (aG:Nat):ag:=.arr 3 1 ((aw.2.2 aG).6.1) (λi=>bA ((aw.2.2 aG).6.2 i))
abbrev zt (aw:ae) (aG:Nat):C:=.im (.sl 1 ((aw.2.2 aG).8.1) (λi=>cw ((aw.2.2 aG).8.2 i)))
abbrev iF (aw:ae) (aG:Nat):ag:=.box (lift (aN (aw.2.2 aG)))
theorem YB (L:LP) (QE:D->List ag->Prop) (t:ae) (k:Nat) (h:nd (cM (↑k:Int) t.2.1) (nd (k.blt t.2.1) (nd (k.beq k) ((LC 60 [(.c (.im (.sl 1 ((t.2.2 k).6.1) (λi=>bA ((t.2.2 k).6.2 i)))))] [] (.c (.sa 0 ((t.2.2 k).6.1))) [(Hh t k)]/\nd (Nat.beq (t.2.2 k).6.1 (t.2.2 k).6.1) ((LC 61 [(.c (zt t k))] [] (.c (zt t k)) []/\nd (cM (↑k:Int) t.2.1) (nd (k.beq k) (nd (cM (↑k:Int) t.2.1) (nd (k.beq k) ((LC 60 [(.c (.im (.sl 1 ((t.2.2 k).6.1) (λi=>bA ((t.2.2 k).6.2 i)))))] [] (.c (.sa 0 ((t.2.2 k).6.1))) [(Hh t k)]/\nd (Nat.beq (t.2.2 k).6.1 (t.2.2 k).6.1) ((LC 61 [(.c (zt t k))] [] (.c (zt t k)) []/\nd (cM (↑k:Int) t.2.1) (nd (k.beq k) (nd (cM (↑k:Int) t.2.1) (nd (k.beq k) (L (ai 37 3) ⟨[dN,fW,(22,((.c (.sa 2 t.2.1)),[])),(23,((iw t),[])),(24,((int (IntKind.i64.wrap ((↑k:Int)+1))),[]))],[(ey t),cQ,(.bt 56 14 t.2.1 (vn t.2 k bD fT) (.some (k,[(kW t k),(lz t k),(lC t k),(jX t k),(lE t k),(.c (.sa 5 ((t.2.2 k).6.1))),(la t k),(kU t k),(.c (mQ t k)),(.c (zt t k)),(jY t k),(j8 t k),(ln t k),(.c (jy t k))]))),(qP t),(iF t k),(Hh t k),.dead],[]⟩)))))))))))))))))):cB tq 37 jj L QE 4 (HW t k):=km h
abbrev xO (aw:ae):fp:=(47,.c (.sa 3 aw.aa.n),[])
abbrev wU (aw:ae):fp:=(48,int aw.aa.n,[])
def nP (t:ae) (k:Nat):VS:=⟨[l4,l9,(xO t),(wU t),(49,int k,[])],[PX t,.box [.im (iI 0),.im (iI 0),.im (.v (.slice none 0 0)),.im (.v (.slice none 0 0))],bR t.ins,gN 72 3 bs dw t.aa k],[]⟩
abbrev nY (aw:Nat):fp:=(49,((kh aw),[]))
abbrev oK (aw:ae):ag:=.bt 56 14 aw.2.1 (λi=>bD (aw.2.2 i)) .none
theorem R9 (L:LP) (QE:D->List ag->Prop) (t:ae) (k:Nat) (h:br (decide ((↑k:Int)<(↑t.3.1:Int))) (L (ai 37 9) ⟨[dN,fW,(lO t),(ly t),(nY k),(50,((bool true),[]))],[(ey t),cQ,(oK t),(.bt 72 3 t.3.1 (vn t.3 k bs dw) .none)],[]⟩) (QE (.a [(ci t.1.1),(ci t.1.2),(.sa 2 t.2.1),(.sa 3 t.3.1)]) [(.box [(ci t.1.1),(ci t.1.2),(.sa 2 t.2.1),(.sa 3 t.3.1)]),(.box [(ci t.1.1),(ci t.1.2),(.sa 2 t.2.1),(.sa 3 t.3.1)]),(.bt 56 14 t.2.1 (λi=>bD (t.2.2 i)) .none),(.bt 72 3 t.3.1 (vn t.3 k bs dw) .none)])):cB tq 37 jj L QE 8 (nP t k):=km h
def IV (t:ae) (k:Nat):VS:=⟨[l4,l9,(xO t),(wU t),(49,int k,[])],[PX t,.box [.im (iI 0),.im (iI 0),.im (.v (.slice none 0 0)),.im (.v (.slice none 0 0))],bR t.ins,gF 72 3 bs dw t.aa k],[]⟩
abbrev Ir (aw:ae) (aG:Nat):C:=.im (.sl 3 ((aw.3.2 aG).1.1) (λi=>dg ((aw.3.2 aG).1.2 i)))
abbrev Hz (aw:ae) (aG:Nat):ag:=.arr 74 3 ((aw.3.2 aG).1.1) (λi=>dg ((aw.3.2 aG).1.2 i))
abbrev Hg (aw:ae) (aG:Nat):C:=.im (.sl 4 ((aw.3.2 aG).2.1) (λi=>eX ((aw.3.2 aG).2.2 i)))
abbrev IP (aw:ae) (aG:Nat):ag:=.arr 77 4 ((aw.3.2 aG).2.1) (λi=>eX ((aw.3.2 aG).2.2 i))
abbrev py (aw:Nat):fp:=(5,((kh aw),[]))
abbrev Bc (aw:ae) (aG:Nat):ag:=.bt 72 3 aw.3.1 (vn aw.3 aG bs dw) (.some (aG,[(.c (Ir aw aG)),(.c (Hg aw aG)),(.c (nz aw aG))]))
theorem Xs (L:LP) (QE:D->List ag->Prop) (t:ae) (k:Nat) (h:nd (cM (↑k:Int) t.3.1) (nd (k.blt t.3.1) (nd (k.beq k) ((LC 62 [(.c (Ir t k))] [] (.c (.sa 0 ((t.3.2 k).1.1))) [(Hz t k)]/\nd (Nat.beq (t.3.2 k).1.1 (t.3.2 k).1.1) ((LC 63 [(.c (Hg t k))] [] (.c (.sa 0 ((t.3.2 k).2.1))) [(IP t k)]/\nd (Nat.beq (t.3.2 k).2.1 (t.3.2 k).2.1) ((LC 62 [(.c (Ir t k))] [] (.c (.sa 0 ((t.3.2 k).1.1))) [(Hz t k)]/\nd (Nat.beq (t.3.2 k).1.1 (t.3.2 k).1.1) ((LC 63 [(.c (Hg t k))] [] (.c (.sa 0 ((t.3.2 k).2.1))) [(IP t k)]/\nd (Nat.beq (t.3.2 k).2.1 (t.3.2 k).2.1) (L (ai 37 11) ⟨[dN,fW,(py k),(7,((.c (.sa 5 ((t.3.2 k).1.1))),[])),(8,((.c (.sa 6 ((t.3.2 k).2.1))),[])),(lO t),(ly t),(nY k)],[(ey t),cQ,(oK t),(Bc t k),(.box (lift (bn (t.3.2 k)))),(Hz t k),(IP t k)],[]⟩)))))))))))):cB tq 37 jj L QE 9 (IV t k):=km h
abbrev Rl (aw:ae) (aG:Nat):aK:=[l4,l9,(xO aw),(wU aw),(49,int aG,[]),(5,int aG,[]),(7,.c (.sa 4 (aw.aa.get aG).frames.n),[]),(8,.c (.sa 5 (aw.aa.get aG).ax.n),[])]
def Cs (t:ae) (k:Nat):VS:=⟨(Rl t k),[PX t,.box [.im (iI 0),.im (iI 0),.im (.v (.slice none 0 0)),.im (.v (.slice none 0 0))],bR t.ins,gF 72 3 bs dw t.aa k,gN 74 3 du dg (t.aa.get k).frames 0,gN 77 4 fE eX (t.aa.get k).ax 0],[]⟩
abbrev qE (aw:ae) (aG:Nat):fp:=(7,((.c (.sa 4 ((aw.3.2 aG).1.1))),[]))
abbrev yz (aw:ae) (aG:Nat):D:=.c (.sa 5 ((aw.3.2 aG).2.1))
abbrev qX (aw:ae) (aG:Nat):fp:=(8,((yz aw aG),[]))
abbrev Jf (aw:ae) (aG:Nat):ag:=.bt 77 4 ((aw.3.2 aG).2.1) (vn (aw.3.2 aG).2 0 fE eX) .none
theorem S4 (L:LP) (QE:D->List ag->Prop) (t:ae) (k:Nat) (h:L (ai 37 12) ⟨[dN,fW,(py k),(qE t k),(qX t k),(lO t),(ly t),(nY k),(60,((.c (.sa 4 ((t.3.2 k).1.1))),[])),(61,((int ((↑(t.3.2 k).1.1:Int))),[])),(62,((int 0),[]))],[(ey t),cQ,(oK t),(Bc t k),(.bt 74 3 ((t.3.2 k).1.1) (vn (t.3.2 k).1 0 du dg) .none),(Jf t k)],[]⟩):cB tq 37 jj L QE 11 (Cs t k):=km h
abbrev M1 (aw:ae) (aG bk:Nat):aK:=[l4,l9,(xO aw),(wU aw),(49,int aG,[]),(5,int aG,[]),(7,.c (.sa 4 (aw.aa.get aG).frames.n),[]),(8,.c (.sa 5 (aw.aa.get aG).ax.n),[]),(60,.c (.sa 4 (aw.aa.get aG).frames.n),[]),(61,int (aw.aa.get aG).frames.n,[]),(62,int bk,[])]
def s7 (t:ae) (k j:Nat):VS:=⟨(M1 t k j),[PX t,.box [.im (iI 0),.im (iI 0),.im (.v (.slice none 0 0)),.im (.v (.slice none 0 0))],bR t.ins,gF 72 3 bs dw t.aa k,gN 74 3 du dg (t.aa.get k).frames j,gN 77 4 fE eX (t.aa.get k).ax 0],[]⟩
abbrev QI (aw:ae) (aG bk:Nat):List ag:=[(ey aw),cQ,(oK aw),(Bc aw aG),(.bt 74 3 ((aw.3.2 aG).1.1) (vn (aw.3.2 aG).1 bk du dg) .none),(Jf aw aG)]
abbrev Ce (aw:ae) (aG:Nat):fp:=(76,((int ((↑(aw.3.2 aG).2.1:Int))),[]))
theorem JO (L:LP) (QE:D->List ag->Prop) (t:ae) (k j:Nat) (h:br (decide ((↑j:Int)<(↑(t.3.2 k).1.1:Int))) (L (ai 37 13) ⟨[dN,fW,(py k),(qE t k),(qX t k),(lO t),(ly t),(nY k),(60,((.c (.sa 4 ((t.3.2 k).1.1))),[])),(61,((int ((↑(t.3.2 k).1.1:Int))),[])),(62,((int (↑j:Int)),[])),(63,((bool true),[]))],(QI t k j),[]⟩) (L (ai 37 17) ⟨[dN,fW,(py k),(qE t k),(qX t k),(lO t),(ly t),(nY k),(75,((yz t k),[])),(Ce t k),(77,((int 0),[]))],(QI t k j),[]⟩)):cB tq 37 jj L QE 12 (s7 t k j):=km h
def Dm (t:ae) (k j:Nat):VS:=⟨(M1 t k j),[PX t,.box [.im (iI 0),.im (iI 0),.im (.v (.slice none 0 0)),.im (.v (.slice none 0 0))],bR t.ins,gF 72 3 bs dw t.aa k,gF 74 3 du dg (t.aa.get k).frames j,gN 77 4 fE eX (t.aa.get k).ax 0],[]⟩
theorem Uc (L:LP) (QE:D->List ag->Prop) (t:ae) (k j:Nat) (h:nd (cM (↑j:Int) (t.3.2 k).1.1) (nd (j.blt (t.3.2 k).1.1) (nd (j.beq j) ((LC 60 [(.c (.im (.sl 1 (((t.3.2 k).1.2 j).3.1) (λi=>bA (((t.3.2 k).1.2 j).3.2 i)))))] [] (.c (.sa 0 (((t.3.2 k).1.2 j).3.1))) [(.arr 3 1 (((t.3.2 k).1.2 j).3.1) (λi=>bA (((t.3.2 k).1.2 j).3.2 i)))]/\nd (Nat.beq ((t.3.2 k).1.2 j).3.1 ((t.3.2 k).1.2 j).3.1) (nd (cM (↑j:Int) (t.3.2 k).1.1) (nd (j.beq j) (L (ai 37 12) ⟨[dN,fW,(py k),(qE t k),(qX t k),(lO t),(ly t),(nY k),(60,((.c (.sa 4 ((t.3.2 k).1.1))),[])),(61,((int ((↑(t.3.2 k).1.1:Int))),[])),(62,((int (IntKind.i64.wrap ((↑j:Int)+1))),[]))],[(ey t),cQ,(oK t),(Bc t k),(.bt 74 3 ((t.3.2 k).1.1) (vn (t.3.2 k).1 j du dg) (.some (j,[(.c (ci (((t.3.2 k).1.2 j).1))),(.c (ci (((t.3.2 k).1.2 j).2))),(.c (.sa 7 (((t.3.2 k).1.2 j).3.1)))]))),(Jf t k),(.box (lift (ka ((t.3.2 k).1.2 j)))),(.arr 3 1 (((t.3.2 k).1.2 j).3.1) (λi=>bA (((t.3.2 k).1.2 j).3.2 i)))],[]⟩)))))))):cB tq 37 jj L QE 13 (Dm t k j):=km h
abbrev Pw (aw:ae) (aG bk:Nat):aK:=[l4,l9,(xO aw),(wU aw),(49,int aG,[]),(5,int aG,[]),(7,.c (.sa 4 (aw.aa.get aG).frames.n),[]),(8,.c (.sa 5 (aw.aa.get aG).ax.n),[]),(75,.c (.sa 5 (aw.aa.get aG).ax.n),[]),(76,int (aw.aa.get aG).ax.n,[]),(77,int bk,[])]
def sj (t:ae) (k j:Nat):VS:=⟨(Pw t k j),[PX t,.box [.im (iI 0),.im (iI 0),.im (.v (.slice none 0 0)),.im (.v (.slice none 0 0))],bR t.ins,gF 72 3 bs dw t.aa k,zq (t.aa.get k).frames,gN 77 4 fE eX (t.aa.get k).ax j],[]⟩
abbrev H6 (aw:ae) (aG:Nat):ag:=.bt 74 3 ((aw.3.2 aG).1.1) (λi=>du ((aw.3.2 aG).1.2 i)) .none
abbrev P7 (aw:ae) (aG bk:Nat):List ag:=[(ey aw),cQ,(oK aw),(Bc aw aG),(H6 aw aG),(.bt 77 4 ((aw.3.2 aG).2.1) (vn (aw.3.2 aG).2 bk fE eX) .none)]
theorem Kq (L:LP) (QE:D->List ag->Prop) (t:ae) (k j:Nat) (h:br (decide ((↑j:Int)<(↑(t.3.2 k).2.1:Int))) (L (ai 37 18) ⟨[dN,fW,(py k),(qE t k),(qX t k),(lO t),(ly t),(nY k),(75,((yz t k),[])),(Ce t k),(77,((int (↑j:Int)),[])),(78,((bool true),[]))],(P7 t k j),[]⟩) (L (ai 37 21) ⟨[dN,fW,(py k),(qE t k),(qX t k),(lO t),(ly t),(nY k),(75,((yz t k),[])),(Ce t k),(77,((int (↑j:Int)),[])),(78,((bool false),[]))],(P7 t k j),[]⟩)):cB tq 37 jj L QE 17 (sj t k j):=km h
def C4 (t:ae) (k j:Nat):VS:=⟨(Pw t k j),[PX t,.box [.im (iI 0),.im (iI 0),.im (.v (.slice none 0 0)),.im (.v (.slice none 0 0))],bR t.ins,gF 72 3 bs dw t.aa k,zq (t.aa.get k).frames,gF 77 4 fE eX (t.aa.get k).ax j],[]⟩
abbrev xh (aw:ae) (aG bk:Nat):C:=.im (.sl 1 (((aw.3.2 aG).2.2 bk).3.1) (λi=>cw (((aw.3.2 aG).2.2 bk).3.2 i)))
abbrev Iu (aw:ae) (aG bk:Nat):ag:=.arr 3 1 (((aw.3.2 aG).2.2 bk).4.1) (λi=>bA (((aw.3.2 aG).2.2 bk).4.2 i))
theorem TS (L:LP) (QE:D->List ag->Prop) (t:ae) (k j:Nat) (h:nd (cM (↑j:Int) (t.3.2 k).2.1) (nd (j.blt (t.3.2 k).2.1) (nd (j.beq j) ((LC 61 [(.c (xh t k j))] [] (.c (xh t k j)) []/\(LC 60 [(.c (.im (.sl 1 (((t.3.2 k).2.2 j).4.1) (λi=>bA (((t.3.2 k).2.2 j).4.2 i)))))] [] (.c (.sa 0 (((t.3.2 k).2.2 j).4.1))) [(Iu t k j)]/\nd (Nat.beq ((t.3.2 k).2.2 j).4.1 ((t.3.2 k).2.2 j).4.1) (nd (cM (↑j:Int) (t.3.2 k).2.1) (nd (j.beq j) (nd (cM (↑j:Int) (t.3.2 k).2.1) (nd (j.beq j) ((LC 61 [(.c (xh t k j))] [] (.c (xh t k j)) []/\(LC 60 [(.c (.im (.sl 1 (((t.3.2 k).2.2 j).4.1) (λi=>bA (((t.3.2 k).2.2 j).4.2 i)))))] [] (.c (.sa 0 (((t.3.2 k).2.2 j).4.1))) [(Iu t k j)]/\nd (Nat.beq ((t.3.2 k).2.2 j).4.1 ((t.3.2 k).2.2 j).4.1) (nd (cM (↑j:Int) (t.3.2 k).2.1) (nd (j.beq j) (nd (cM (↑j:Int) (t.3.2 k).2.1) (nd (j.beq j) (L (ai 37 17) ⟨[dN,fW,(py k),(qE t k),(qX t k),(lO t),(ly t),(nY k),(75,((yz t k),[])),(Ce t k),(77,((int (IntKind.i64.wrap ((↑j:Int)+1))),[]))],[(ey t),cQ,(oK t),(Bc t k),(H6 t k),(.bt 77 4 ((t.3.2 k).2.1) (vn (t.3.2 k).2 j fE eX) (.some (j,[(.c (ci (((t.3.2 k).2.2 j).1))),(.c (ci (((t.3.2 k).2.2 j).2))),(.c (xh t k j)),(.c (.sa 8 (((t.3.2 k).2.2 j).4.1)))]))),(.box (lift (lY ((t.3.2 k).2.2 j)))),.dead,(Iu t k j)],[]⟩)))))))))))))))))):cB tq 37 jj L QE 18 (C4 t k j):=km h
def D1 (t:ae) (k:Nat):VS:=⟨(Rl t k),[PX t,.box [.im (iI 0),.im (iI 0),.im (.v (.slice none 0 0)),.im (.v (.slice none 0 0))],bR t.ins,gF 72 3 bs dw t.aa k,zq (t.aa.get k).frames,N4 (t.aa.get k).ax],[]⟩
theorem VE (L:LP) (QE:D->List ag->Prop) (t:ae) (k:Nat) (h:nd (cM (↑k:Int) t.3.1) (nd (k.beq k) (nd (cM (↑k:Int) t.3.1) (nd (k.beq k) (nd (cM (↑k:Int) t.3.1) (nd (k.beq k) (nd (cM (↑k:Int) t.3.1) (nd (k.beq k) (L (ai 37 8) ⟨[dN,fW,(lO t),(ly t),(49,((int (IntKind.i64.wrap ((↑k:Int)+1))),[]))],[(ey t),cQ,(oK t),(.bt 72 3 t.3.1 (vn t.3 k bs dw) (.some (k,[(.c (.sa 4 ((t.3.2 k).1.1))),(.c (.sa 5 ((t.3.2 k).2.1))),(.c (nz t k))]))),(H6 t k),(.bt 77 4 ((t.3.2 k).2.1) (λi=>fE ((t.3.2 k).2.2 i)) .none)],[]⟩))))))))):cB tq 37 jj L QE 21 (D1 t k):=km h
section
variable {α:Type} {s:Sq α} {f:α->Nat->O} {e:α->Nat->Go.V.I}
theorem ZN {k:Nat}:vn s k f e k=λj=>.im (e (s.get k) j):=by
 unfold vn
 cases hb:Nat.blt k k with
 | false=>rfl
 | true=>simp at hb
theorem Om {i k:Nat} (h:i<k):vn s k f e i=f (s.get i):=by
 unfold vn
 rw [dP h]; rfl
theorem ZR {i k:Nat} (h:i≠k):vn s (k+1) f e i=vn s k f e i:=by
 unfold vn
 have:Nat.blt i (k+1)=Nat.blt i k:=by
  rw [eB,kD,kD]
  omega
 rw [this]
theorem CM {el sz k:Nat} {l:List Fc} (h:IJ (f (s.get k)) l 0):aO (.bt el sz s.n (vn s k f e) (some (k,l))) (gN el sz f e s (k+1)):=
 aO.WR (by rw [Om (Nat.lt_succ_self k)]; exact h) λi hi oZ j hj=>by rw [ZR oZ]; exact oF.refl _
theorem C7 {el sz:Nat}:aO (gN el sz f e s s.n) (.bt el sz s.n (λi=>f (s.get i)) none):=aO.bt λi hi j hj=>by rw [Om hi]; exact oF.refl _
theorem T6 {el sz:Nat}:aO (.arr el sz s.n (λi=>e (s.get i))) (gN el sz f e s 0):=aO.tE λi hi j hj=>rfl
theorem JX {el sz k:Nat}:aO (.bt el sz s.n (vn s k f e) (some (k,iY (vn s k f e k) sz 0))) (gF el sz f e s k):=by
 unfold gF
 rw [ZN]
 exact aO.refl _
end
theorem da {c:Bool} {p:Prop} (k:p) (h:c=true:=by first|exact a8 hk|exact dP hk|exact dq _|exact a8 hj|exact dP hj):nd c p:=aC h k
theorem Zq (t:ae) (hS:bj t) (k:Nat) (hk:k<t.ins.n) (ih:af 37 0 (Go.V.b8 [] (.a (jG t 0 1)) [bR t.ins,eS t.aa]) (ai 37 3) (ye t (k+1))):af 37 0 (Go.V.b8 [] (.a (jG t 0 1)) [bR t.ins,eS t.aa]) (ai 37 4) (HW t k):=by
 have hN:=hS.ins
 refine aF (X:=tq) (stop:=jj) (YB _ _ t k ?_)
 have hW:=dr hk (by unfold maxLen; omega:_<=maxLen)
 refine da ?_
 refine da ?_
 refine da ?_
 refine ⟨w8 (t.ins.get k).args (hS.args k hk),?_⟩
 refine da ?_
 refine ⟨Dd (t.ins.get k).names (hS.names k hk),?_⟩
 refine da ?_
 refine da ?_
 refine da ?_
 refine da ?_
 refine ⟨w8 (t.ins.get k).args (hS.args k hk),?_⟩
 refine da ?_
 refine ⟨Dd (t.ins.get k).names (hS.names k hk),?_⟩
 refine da ?_
 refine da ?_
 refine da ?_
 refine da ?_
 rw [hW]
 exact af.close 2 5 5 rfl rfl rfl rfl rfl rfl (af.rename [0,1,2,3] rfl (af.lf (ye t (k+1)) (rc (rc (.cons (CM ⟨aW.aE _,aW.aE _,aW.aE _,aW.aE _,aW.aE _,aW.refl _,aW.aE _,aW.aE _,aW.aE _,aW.aE _,aW.aE _,aW.aE _,aW.aE _,aW.aE _,trivial⟩) (rc .nil)))) ih))
theorem Td (t:ae) (hS:bj t) (k:Nat) (hk:k<t.aa.n) (ih:af 37 0 (Go.V.b8 [] (.a (jG t 0 1)) [bR t.ins,eS t.aa]) (ai 37 8) (nP t (k+1))):af 37 0 (Go.V.b8 [] (.a (jG t 0 1)) [bR t.ins,eS t.aa]) (ai 37 21) (D1 t k):=by
 have hN:=hS.aa
 refine aF (X:=tq) (stop:=jj) (VE _ _ t k ?_)
 have hW:=dr hk (by unfold maxLen; omega:_<=maxLen)
 refine da ?_
 refine da ?_
 refine da ?_
 refine da ?_
 refine da ?_
 refine da ?_
 refine da ?_
 refine da ?_
 rw [hW]
 exact af.close 3 0 4 rfl rfl rfl rfl rfl rfl (af.close 3 1 5 rfl rfl rfl rfl rfl rfl (af.rename [0,1,2,3] rfl (af.lf (nP t (k+1)) (rc (rc (rc (.cons (CM ⟨aW.refl _,aW.refl _,aW.aE _,trivial⟩) .nil)))) ih)))
theorem Vc (t:ae) (hS:bj t) (k:Nat) (hk:k<t.aa.n) (j:Nat) (hj:j<(t.aa.get k).ax.n) (ih:af 37 0 (Go.V.b8 [] (.a (jG t 0 1)) [bR t.ins,eS t.aa]) (ai 37 17) (sj t k (j+1))):af 37 0 (Go.V.b8 [] (.a (jG t 0 1)) [bR t.ins,eS t.aa]) (ai 37 18) (C4 t k j):=by
 have hN:=(hS.ex k hk).ax
 refine aF (X:=tq) (stop:=jj) (TS _ _ t k j ?_)
 have hW:=dr hj (by unfold maxLen; omega:_<=maxLen)
 refine da ?_
 refine da ?_
 refine da ?_
 refine ⟨Dd ((t.aa.get k).ax.get j).names ((hS.ex k hk).names j hj),?_⟩
 refine ⟨w8 ((t.aa.get k).ax.get j).items ((hS.ex k hk).items j hj),?_⟩
 refine da ?_
 refine da ?_
 refine da ?_
 refine da ?_
 refine da ?_
 refine ⟨Dd ((t.aa.get k).ax.get j).names ((hS.ex k hk).names j hj),?_⟩
 refine ⟨w8 ((t.aa.get k).ax.get j).items ((hS.ex k hk).items j hj),?_⟩
 refine da ?_
 refine da ?_
 refine da ?_
 refine da ?_
 refine da ?_
 rw [hW]
 exact af.close 5 3 8 rfl rfl rfl rfl rfl rfl (af.rename [0,1,2,3,4,5] rfl (af.lf (sj t k (j+1)) (rc (rc (rc (rc (rc (.cons (CM ⟨aW.aE _,aW.aE _,aW.aE _,aW.refl _,trivial⟩) .nil)))))) ih))
theorem Vl (t:ae) (hS:bj t) (k:Nat) (hk:k<t.aa.n) (j:Nat) (hj:j<(t.aa.get k).frames.n) (ih:af 37 0 (Go.V.b8 [] (.a (jG t 0 1)) [bR t.ins,eS t.aa]) (ai 37 12) (s7 t k (j+1))):af 37 0 (Go.V.b8 [] (.a (jG t 0 1)) [bR t.ins,eS t.aa]) (ai 37 13) (Dm t k j):=by
 have hN:=(hS.ex k hk).frames
 refine aF (X:=tq) (stop:=jj) (Uc _ _ t k j ?_)
 have hW:=dr hj (by unfold maxLen; omega:_<=maxLen)
 refine da ?_
 refine da ?_
 refine da ?_
 refine ⟨w8 ((t.aa.get k).frames.get j).vars ((hS.ex k hk).vars j hj),?_⟩
 refine da ?_
 refine da ?_
 refine da ?_
 rw [hW]
 exact af.close 4 2 7 rfl rfl rfl rfl rfl rfl (af.rename [0,1,2,3,4,5] rfl (af.lf (s7 t k (j+1)) (rc (rc (rc (rc (.cons (CM ⟨aW.aE _,aW.aE _,aW.refl _,trivial⟩) (rc .nil)))))) ih))
theorem TE (t:ae) (hS:bj t) (k:Nat) (hk:k<t.aa.n) (ih:af 37 0 (Go.V.b8 [] (.a (jG t 0 1)) [bR t.ins,eS t.aa]) (ai 37 8) (nP t (k+1))):∀ j,j<=(t.aa.get k).ax.n->af 37 0 (Go.V.b8 [] (.a (jG t 0 1)) [bR t.ins,eS t.aa]) (ai 37 17) (sj t k j):=by
 have hB:(t.aa.get k).ax.n<=1000:=(hS.ex k hk).ax
 refine aU (λj hj Av=>?_) ?_
 .refine aF (X:=tq) (stop:=jj) (Kq _ _ t k j ?_)
  refine aq (λh0=>?_) (λh=>(dec_lt h hj).elim)
  exact af.focus 5 j rfl hj (af.lf (C4 t k j) (rc (rc (rc (rc (rc (.cons (JX) .nil)))))) (Vc t hS k hk j hj Av))
 .refine aF (X:=tq) (stop:=jj) (Kq _ _ t k _ ?_)
  refine aq (λh=>bS h) (λh=>?_)
  exact af.lf (D1 t k) (rc (rc (rc (rc (rc (.cons (C7) .nil)))))) (Td t hS k hk ih)
theorem U4 (t:ae) (hS:bj t) (k:Nat) (hk:k<t.aa.n) (ih:af 37 0 (Go.V.b8 [] (.a (jG t 0 1)) [bR t.ins,eS t.aa]) (ai 37 8) (nP t (k+1))):∀ j,j<=(t.aa.get k).frames.n->af 37 0 (Go.V.b8 [] (.a (jG t 0 1)) [bR t.ins,eS t.aa]) (ai 37 12) (s7 t k j):=by
 have hB:(t.aa.get k).frames.n<=1000:=(hS.ex k hk).frames
 refine aU (λj hj Av=>?_) ?_
 .refine aF (X:=tq) (stop:=jj) (JO _ _ t k j ?_)
  refine aq (λh0=>?_) (λh=>(dec_lt h hj).elim)
  exact af.focus 4 j rfl hj (af.lf (Dm t k j) (rc (rc (rc (rc (.cons (JX) (rc .nil)))))) (Vl t hS k hk j hj Av))
 .refine aF (X:=tq) (stop:=jj) (JO _ _ t k _ ?_)
  refine aq (λh=>bS h) (λh=>?_)
  exact af.lf (sj t k 0) (rc (rc (rc (rc (.cons (C7) (rc .nil)))))) (TE t hS k hk ih 0 (bu _))
theorem U6 (t:ae) (hS:bj t) (k:Nat) (hk:k<t.aa.n) (ih:af 37 0 (Go.V.b8 [] (.a (jG t 0 1)) [bR t.ins,eS t.aa]) (ai 37 8) (nP t (k+1))):af 37 0 (Go.V.b8 [] (.a (jG t 0 1)) [bR t.ins,eS t.aa]) (ai 37 11) (Cs t k):=by
 refine aF (X:=tq) (stop:=jj) (S4 _ _ t k ?_)
 exact af.lr (s7 t k 0) (U4 t hS k hk ih 0 (bu _))
theorem ZL (t:ae) (hS:bj t) (k:Nat) (hk:k<t.aa.n) (ih:af 37 0 (Go.V.b8 [] (.a (jG t 0 1)) [bR t.ins,eS t.aa]) (ai 37 8) (nP t (k+1))):af 37 0 (Go.V.b8 [] (.a (jG t 0 1)) [bR t.ins,eS t.aa]) (ai 37 9) (IV t k):=by
 refine aF (X:=tq) (stop:=jj) (Xs _ _ t k ?_)
 refine da ?_
 refine da ?_
 refine da ?_
 refine ⟨Qi (t.aa.get k).frames (hS.ex k hk).frames,?_⟩
 refine da ?_
 refine ⟨P1 (t.aa.get k).ax (hS.ex k hk).ax,?_⟩
 refine da ?_
 refine ⟨Qi (t.aa.get k).frames (hS.ex k hk).frames,?_⟩
 refine da ?_
 refine ⟨P1 (t.aa.get k).ax (hS.ex k hk).ax,?_⟩
 refine da ?_
 exact af.rename [0,1,2,3,5,6] rfl (af.lf (Cs t k) (rc (rc (rc (rc (.cons (T6) (.cons (T6) .nil)))))) (U6 t hS k hk ih))
theorem YN (t:ae) (hS:bj t)   : ∀ k,k<=t.aa.n->af 37 0 (Go.V.b8 [] (.a (jG t 0 1)) [bR t.ins,eS t.aa]) (ai 37 8) (nP t  k):=by
 have hB:t.aa.n<=1000:=hS.aa
 refine aU (λk hk Av=>?_) ?_
 .refine aF (X:=tq) (stop:=jj) (R9 _ _ t  k ?_)
  refine aq (λh0=>?_) (λh=>(dec_lt h hk).elim)
  exact af.focus 3 k rfl hk (af.lf (IV t k) (rc (rc (rc (.cons (JX) .nil)))) (ZL t hS k hk Av))
 .refine aF (X:=tq) (stop:=jj) (R9 _ _ t  _ ?_)
  refine aq (λh=>bS h) (λh=>?_)
  exact ⟨[2,3],.a (jG t 0 1),_,_,rfl,(rc (.cons (C7) .nil)),⟨2,aQ rfl,aQ rfl,rfl,rfl,bh.refl _,⟨rfl,⟨rfl,trivial⟩⟩⟩⟩
theorem Zg (t:ae) (hS:bj t)   : ∀ k,k<=t.ins.n->af 37 0 (Go.V.b8 [] (.a (jG t 0 1)) [bR t.ins,eS t.aa]) (ai 37 3) (ye t  k):=by
 have hB:t.ins.n<=1000:=hS.ins
 refine aU (λk hk Av=>?_) ?_
 .refine aF (X:=tq) (stop:=jj) (Nd _ _ t  k ?_)
  refine aq (λh0=>?_) (λh=>(dec_lt h hk).elim)
  exact af.focus 2 k rfl hk (af.lf (HW t k) (rc (rc (.cons (JX) (rc .nil)))) (Zq t hS k hk Av))
 .refine aF (X:=tq) (stop:=jj) (Nd _ _ t  _ ?_)
  refine aq (λh=>bS h) (λh=>?_)
  exact af.lf (nP t 0) (rc (rc (.cons (C7) (.cons (T6) .nil)))) (YN t hS 0 (bu _))
theorem Y9 (t:ae) (hS:bj t):af 37 0 (Go.V.b8 [] (.a (jG t 0 1)) [bR t.ins,eS t.aa]) (ai 37 2) (IW t):=by
 refine aF (X:=tq) (stop:=jj) (YA _ _ t ?_)
 exact af.lr (ye t 0) (Zg t hS 0 (bu _))
theorem au1 (t:ae) (hS:bj t):LC 37 [a7 t] [] (.a (jG t 0 1)) [bR t.ins,eS t.aa]:=by
 refine cV aD6 (aQ (by kernel_rfl)) (dc (X:=tq) (stop:=jj) (aG0 _ _ t ?_))
 refine ⟨Rx t.ins hS.ins,?_⟩
 refine aC (by exact dq _) ?_
 refine ⟨OK t.aa hS.aa,?_⟩
 refine aC (by exact dq _) ?_
 refine ⟨Rx t.ins hS.ins,?_⟩
 refine aC (by exact dq _) ?_
 refine ⟨OK t.aa hS.aa,?_⟩
 refine aC (by exact dq _) ?_
 exact af.lf (IW t) (rc (rc (.cons (T6) (rc .nil)))) (Y9 t hS)
open Go Go.V
section
def F17:FuncId->List D->List ag->Out:=ext F46 [(22,λds rs=>(.a (jG (fj ds 0) rs.length (rs.length+1)),[],[kg (fj ds 0).ins,rM (fj ds 0).aa])),(24,λ_ _=>(iM 1 cw zN,[],[]))]
def kI:fN:={ F:=F17,S:=zn }
def QB (q0 q1 q2:Int):ag:=.box [ci q0,ci q1,ci q2]
def ZT:ag:=.box [ci 0,ci 0,pZ,pZ]
def SN (t:ae) (k:Nat) (l:List Fc):ag:=.bt 56 14 t.ins.n (λi=>j9 (t.ins.get i)) (some (k,l))
def DX (t:ae) (k:Nat) (l:List Fc):ag:=.bt 72 3 t.aa.n (λi=>iU (t.aa.get i)) (some (k,l))
def foI (x:aj):List Fc:=iY (j9 x) 14 0
def GQ (x:ah):List Fc:=iY (iU x) 3 0
def lQ (t:ae) (p q m:Nat):ag:=.box [.im (iI t.place.fn),.im (iI t.place.line),.sa p m,.sa q t.aa.n]
end
def eR:Nat->Bool:=λi=>Nat.beq i 2||Nat.beq i 6||Nat.beq i 8||Nat.beq i 10||Nat.beq i 12||Nat.beq i 14||Nat.beq i 16||Nat.beq i 18||Nat.beq i 20||Nat.beq i 22||Nat.beq i 24||Nat.beq i 26||Nat.beq i 29||Nat.beq i 30||Nat.beq i 32||Nat.beq i 33||Nat.beq i 35||Nat.beq i 37||Nat.beq i 38
theorem aK9:Fn 8:={}
abbrev e8 (aw aG bk:Int):ag:=.box [(ci aw),(ci aG),(ci bk)]
abbrev sO (aw:ae):List C:=[(ci aw.1.1),(ci aw.1.2),(.sa 3 aw.2.1),(.sa 4 aw.3.1)]
abbrev ti (aw:ae):ag:=.bt 72 3 aw.3.1 (λi=>iU (aw.3.2 i)) .none
abbrev kb:fp:=(3,((.c (.rt 1 0 0)),[]))
abbrev Cy:fp:=(4,((.c (.rt 2 0 0)),[]))
theorem ay0 (L:LP) (QD:D->Prop) (t:ae) (q0 q1 q2:Int) (h:(LC 22 [(fX t)] [(cu t),(e8 q0 q1 q2),cQ] (.a (sO t)) [(cu t),(e8 q0 q1 q2),cQ,(kp t),(ti t)]/\L (ai 8 2) ⟨[kb,Cy,mf],[(cu t),(e8 q0 q1 q2),cQ,(kp t),(ti t),(.box (sO t))],[]⟩)):fx kI 8 eR L (bL QD) [a7 t,.a [ci q0,ci q1,ci q2]] []:=km h
abbrev xA:fp:=(3,(.c (.rt 1 0 0)),[])
def Qd (t:ae) (q0 q1 q2:Int)  : VS:=⟨[xA,(4,(.c (.rt 2 0 0)),[]),(5,(.c (.rt 5 0 0)),[])],[(cu t),(e8 q0 q1 q2),cQ,(kp t),(ti t),(.box (sO t))],[]⟩
abbrev kj:fp:=(7,((.c (.im (.v (.pointer .none)))),[]))
theorem Xx (L:LP) (QD:D->Prop) (t:ae) (q0 q1 q2:Int)  (h:(LC 23 [(int q1),(iw t)] [] (int (dY q1 (Int.ofNat t.2.1))) []/\nd (cM (dY q1 (Int.ofNat t.2.1)) t.2.1) (br (decide ((↑t.3.1:Int)>0)) ((LC 23 [(int q1),(IL t)] [] (int (dY q1 (Int.ofNat t.3.1))) []/\nd (cM (dY q1 (Int.ofNat t.3.1)) t.3.1) (L (ai 8 6) ⟨[kb,Cy,mf,(6,((.c (.rt 3 ((dY q1 (Int.ofNat t.2.1)).toNat) 0)),[])),(7,((.c (.rt 4 ((dY q1 (Int.ofNat t.3.1)).toNat) 0)),[]))],[(cu t),(e8 q0 q1 q2),cQ,(kp t),(ti t),(.box (sO t)),.dead,.dead],[]⟩))) (L (ai 8 6) ⟨[kb,Cy,mf,(6,((.c (.rt 3 ((dY q1 (Int.ofNat t.2.1)).toNat) 0)),[])),kj,(22,((bool false),[]))],[(cu t),(e8 q0 q1 q2),cQ,(kp t),(ti t),(.box (sO t)),.dead],[]⟩)))):cB kI 8 eR L (bL QD) 2 (Qd t q0 q1 q2 ):=km h
abbrev o8:fp:=(3,.c (.rt 0 0 0),[])
abbrev lx:fp:=(4,.c (.rt 1 0 0),[])
def GY (t:ae) (q0 q1 q2:Int) (k e:Nat):VS:=⟨[o8,lx,lJ,(6,.c (.rt 2 k 0),[]),(7,.c (.rt 3 e 0),[])],[QB q0 q1 q2,ZT,SN t k (foI (t.ins.get k)),DX t e (GQ (t.aa.get e)),lQ t 2 3 t.ins.n],[]⟩
abbrev Bl (aw:Int):D:=int (dY aw (Int.ofNat 14))
abbrev ck:fp:=(4,((.c (.rt 1 0 0)),[]))
abbrev jo (aw:Nat):fp:=(6,((.c (.rt 2 aw 0)),[]))
abbrev ja (aw:Nat):fp:=(7,((.c (.rt 3 aw 0)),[]))
abbrev fJ (aw:Int):fp:=(34,((Bl aw),[]))
abbrev YT (aw:ae) (aG:Nat):ag:=.bt 56 14 aw.2.1 (λi=>j9 (aw.2.2 i)) (.some (aG,[(kW aw aG),(lz aw aG),(lC aw aG),(jX aw aG),(lE aw aG),(.o (om aw aG)),(la aw aG),(kU aw aG),(.c (mQ aw aG)),(.o (oz aw aG)),(jY aw aG),(j8 aw aG),(ln aw aG),(.c (jy aw aG))]))
abbrev QH (aw:ae) (aG:Nat):ag:=.bt 72 3 aw.3.1 (λi=>iU (aw.3.2 i)) (.some (aG,[(.o (uG aw aG)),(.o (uA aw aG)),(.c (nz aw aG))]))
abbrev rC (aw aG bk:Int) (bN:ae) (dp fq:Nat):List ag:=[(e8 aw aG bk),cQ,(YT bN dp),(QH bN fq),(ey bN)]
theorem ZW (L:LP) (QD:D->Prop) (t:ae) (q0 q1 q2:Int) (k e:Nat) (h:(LC 23 [(int q0),(int 14)] [] (Bl q0) []/\br (dY q0 (Int.ofNat 14)==0) (L (ai 8 8) ⟨[dU,ck,cA,(jo k),(ja e),(fJ q0),(35,((bool true),[]))],(rC q0 q1 q2 t k e),[]⟩) (br (dY q0 (Int.ofNat 14)==1) (L (ai 8 10) ⟨[dU,ck,cA,(jo k),(ja e),(fJ q0),(43,((bool true),[]))],(rC q0 q1 q2 t k e),[]⟩) (br (dY q0 (Int.ofNat 14)==2) (L (ai 8 12) ⟨[dU,ck,cA,(jo k),(ja e),(fJ q0),(50,((bool true),[]))],(rC q0 q1 q2 t k e),[]⟩) (br (dY q0 (Int.ofNat 14)==3) (L (ai 8 14) ⟨[dU,ck,cA,(jo k),(ja e),(fJ q0),(57,((bool true),[]))],(rC q0 q1 q2 t k e),[]⟩) (br (dY q0 (Int.ofNat 14)==4) (L (ai 8 16) ⟨[dU,ck,cA,(jo k),(ja e),(fJ q0),(64,((bool true),[]))],(rC q0 q1 q2 t k e),[]⟩) (br (dY q0 (Int.ofNat 14)==5) (L (ai 8 18) ⟨[dU,ck,cA,(jo k),(ja e),(fJ q0),(77,((bool true),[]))],(rC q0 q1 q2 t k e),[]⟩) (br (dY q0 (Int.ofNat 14)==6) (L (ai 8 20) ⟨[dU,ck,cA,(jo k),(ja e),(fJ q0),(87,((bool true),[]))],(rC q0 q1 q2 t k e),[]⟩) (br (dY q0 (Int.ofNat 14)==7) (L (ai 8 22) ⟨[dU,ck,cA,(jo k),(ja e),(fJ q0),(100,((bool true),[]))],(rC q0 q1 q2 t k e),[]⟩) (br (dY q0 (Int.ofNat 14)==8) (L (ai 8 24) ⟨[dU,ck,cA,(jo k),(ja e),(fJ q0),(117,((bool true),[]))],(rC q0 q1 q2 t k e),[]⟩) (br (dY q0 (Int.ofNat 14)==9) (L (ai 8 26) ⟨[dU,ck,cA,(ja e),(fJ q0),(129,((bool true),[]))],(rC q0 q1 q2 t k e),[]⟩) (br (dY q0 (Int.ofNat 14)==10) (L (ai 8 29) ⟨[dU,ck,cA,(ja e),(fJ q0),(138,((bool true),[]))],(rC q0 q1 q2 t k e),[]⟩) (br (dY q0 (Int.ofNat 14)==11) (L (ai 8 32) ⟨[dU,ck,cA,(ja e),(fJ q0),(159,((bool true),[]))],(rC q0 q1 q2 t k e),[]⟩) (br (dY q0 (Int.ofNat 14)==12) (L (ai 8 35) ⟨[dU,ck,cA,(fJ q0),(177,((bool true),[]))],(rC q0 q1 q2 t k e),[]⟩) (br (dY q0 (Int.ofNat 14)==13) (L (ai 8 37) ⟨[dU,ck,cA,(189,((bool true),[]))],(rC q0 q1 q2 t k e),[]⟩) (L (ai 8 38) ⟨[dU,ck,cA,(189,((bool false),[]))],(rC q0 q1 q2 t k e),[]⟩)))))))))))))))):cB kI 8 eR L (bL QD) 6 (GY t q0 q1 q2 k e):=km h
abbrev pq:fp:=(4,(.c (.rt 1 0 0)),[])
abbrev rl:fp:=(5,(.c (.rt 4 0 0)),[])
abbrev rh (aw:Nat):fp:=(6,(.c (.rt 2 aw 0)),[])
abbrev rJ (aw:Int):fp:=(34,(Bl aw),[])
abbrev qS (aw aG bk:Int) (bN:ae) (dp:Nat) (fq:ag):List ag:=[(e8 aw aG bk),cQ,(YT bN dp),fq,(ey bN)]
def DZ (t:ae) (q0 q1 q2:Int) (k:Nat) (x3:ag):VS:=⟨[nN,pq,rl,(rh k),(rJ q0),(35,(bool true),[])],(qS q0 q1 q2 t k x3),[]⟩
theorem X4 (L:LP) (QD:D->Prop) (t:ae) (q0 q1 q2:Int) (k:Nat) (x3:ag) (h:(LC 23 [(int q2),(int 23)] [] (int (dY q2 (Int.ofNat 23))) []/\nd (k.beq k) (L (ai 8 38) ⟨[ck,cA],[(e8 q0 q1 q2),cQ,(.bt 56 14 t.2.1 (λi=>j9 (t.2.2 i)) (.some (k,[(.c (ci (dY q2 (Int.ofNat 23)))),(lz t k),(lC t k),(jX t k),(lE t k),(.o (om t k)),(la t k),(kU t k),(.c (mQ t k)),(.o (oz t k)),(jY t k),(j8 t k),(ln t k),(.c (jy t k))]))),x3,(ey t)],[]⟩))):cB kI 8 eR L (bL QD) 8 (DZ t q0 q1 q2 k x3):=km h
def v8 (t:ae) (q0 q1 q2:Int) (k:Nat) (x3:ag):VS:=⟨[nN,pq,rl,(rh k),(rJ q0),(43,(bool true),[])],(qS q0 q1 q2 t k x3),[]⟩
theorem TH (L:LP) (QD:D->Prop) (t:ae) (q0 q1 q2:Int) (k:Nat) (x3:ag) (h:nd (k.beq k) (L (ai 8 38) ⟨[ck,cA],[(e8 q0 q1 q2),cQ,(.bt 56 14 t.2.1 (λi=>j9 (t.2.2 i)) (.some (k,[(kW t k),(.c (ci q2)),(lC t k),(jX t k),(lE t k),(.o (om t k)),(la t k),(kU t k),(.c (mQ t k)),(.o (oz t k)),(jY t k),(j8 t k),(ln t k),(.c (jy t k))]))),x3,(ey t)],[]⟩)):cB kI 8 eR L (bL QD) 10 (v8 t q0 q1 q2 k x3):=km h
def wN (t:ae) (q0 q1 q2:Int) (k:Nat) (x3:ag):VS:=⟨[nN,pq,rl,(rh k),(rJ q0),(50,(bool true),[])],(qS q0 q1 q2 t k x3),[]⟩
theorem UC (L:LP) (QD:D->Prop) (t:ae) (q0 q1 q2:Int) (k:Nat) (x3:ag) (h:nd (k.beq k) (L (ai 8 38) ⟨[ck,cA],[(e8 q0 q1 q2),cQ,(.bt 56 14 t.2.1 (λi=>j9 (t.2.2 i)) (.some (k,[(kW t k),(lz t k),(.c (ci q2)),(jX t k),(lE t k),(.o (om t k)),(la t k),(kU t k),(.c (mQ t k)),(.o (oz t k)),(jY t k),(j8 t k),(ln t k),(.c (jy t k))]))),x3,(ey t)],[]⟩)):cB kI 8 eR L (bL QD) 12 (wN t q0 q1 q2 k x3):=km h
def wL (t:ae) (q0 q1 q2:Int) (k:Nat) (x3:ag):VS:=⟨[nN,pq,rl,(rh k),(rJ q0),(57,(bool true),[])],(qS q0 q1 q2 t k x3),[]⟩
theorem VU (L:LP) (QD:D->Prop) (t:ae) (q0 q1 q2:Int) (k:Nat) (x3:ag) (h:nd (k.beq k) (L (ai 8 38) ⟨[ck,cA],[(e8 q0 q1 q2),cQ,(.bt 56 14 t.2.1 (λi=>j9 (t.2.2 i)) (.some (k,[(kW t k),(lz t k),(lC t k),(jX t k),(.c (ci q2)),(.o (om t k)),(la t k),(kU t k),(.c (mQ t k)),(.o (oz t k)),(jY t k),(j8 t k),(ln t k),(.c (jy t k))]))),x3,(ey t)],[]⟩)):cB kI 8 eR L (bL QD) 14 (wL t q0 q1 q2 k x3):=km h
def wy (t:ae) (q0 q1 q2:Int) (k:Nat) (x3:ag):VS:=⟨[nN,pq,rl,(rh k),(rJ q0),(64,(bool true),[])],(qS q0 q1 q2 t k x3),[]⟩
theorem S6 (L:LP) (QD:D->Prop) (t:ae) (q0 q1 q2:Int) (k:Nat) (x3:ag) (h:(LC 23 [(int q2),(int (IntKind.i64.wrap ((↑t.3.1:Int)+2)))] [] (int (dY q2 (aI [D.c (C.im (I.v (Value.int IntKind.i64 q2))),D.c (C.im (I.v (Value.int IntKind.i64 (IntKind.i64.wrap ((↑t.3.1:Int)+2)))))] 1))) []/\nd (k.beq k) (L (ai 8 38) ⟨[ck,cA],[(e8 q0 q1 q2),cQ,(.bt 56 14 t.2.1 (λi=>j9 (t.2.2 i)) (.some (k,[(kW t k),(lz t k),(lC t k),(jX t k),(lE t k),(.o (om t k)),(la t k),(kU t k),(.c (mQ t k)),(.o (oz t k)),(jY t k),(j8 t k),(.c (ci (IntKind.i64.wrap (dY q2 (aI [D.c (C.im (I.v (Value.int IntKind.i64 q2))),D.c (C.im (I.v (Value.int IntKind.i64 (IntKind.i64.wrap ((↑t.3.1:Int)+2)))))] 1)-1)))),(.c (jy t k))]))),x3,(ey t)],[]⟩))):cB kI 8 eR L (bL QD) 16 (wy t q0 q1 q2 k x3):=km h
def wO (t:ae) (q0 q1 q2:Int) (k:Nat) (x3:ag):VS:=⟨[nN,pq,rl,(rh k),(rJ q0),(77,(bool true),[])],(qS q0 q1 q2 t k x3),[]⟩
theorem TG (L:LP) (QD:D->Prop) (t:ae) (q0 q1 q2:Int) (k:Nat) (x3:ag) (h:nd (k.blt t.2.1) (nd (k.beq k) (nd (k.beq k) (L (ai 8 38) ⟨[ck,cA],[(e8 q0 q1 q2),cQ,(.bt 56 14 t.2.1 (λi=>j9 (t.2.2 i)) (.some (k,[(kW t k),(lz t k),(lC t k),(jX t k),(lE t k),(.o (om t k)),(la t k),(kU t k),(.c (mQ t k)),(.o (oz t k)),(jY t k),(j8 t k),(ln t k),(.c (.im (.v (.bool (!(t.2.2 k).11)))))]))),x3,(ey t)],[]⟩)))):cB kI 8 eR L (bL QD) 18 (wO t q0 q1 q2 k x3):=km h
def we (t:ae) (q0 q1 q2:Int) (k:Nat) (x3:ag):VS:=⟨[o8,lx,lJ,(6,.c (.rt 2 k 0),[])],[QB q0 q1 q2,ZT,.bt 56 14 t.ins.n (λi=>j9 (t.ins.get i)) (some (k,setAt (foI (t.ins.get k)) 5 (.c (.sa 5 (t.ins.get k).args.n)))),x3,lQ t 2 3 t.ins.n,mz (t.ins.get k).args],[]⟩
theorem TY (L:LP) (QD:D->Prop) (t:ae) (q0 q1 q2:Int) (k:Nat) (x3:ag) (h:nd (k.blt t.2.1) (nd (k.beq k) (nd (b5 ((t.2.2 k).6.1+1) 8) (nd ((t.2.2 k).6.1.beq (t.2.2 k).6.1) (nd (k.beq k) (nd (k.blt t.2.1) (nd (k.beq k) (nd (b5 ((t.2.2 k).6.1+1) 8) (nd ((t.2.2 k).6.1.beq (t.2.2 k).6.1) (nd (k.beq k) (L (ai 8 38) ⟨[ck,cA],[(e8 q0 q1 q2),cQ,(.bt 56 14 t.2.1 (λi=>j9 (t.2.2 i)) (.some (k,[(kW t k),(lz t k),(lC t k),(jX t k),(lE t k),(.c (.sa 7 (.succ ((t.2.2 k).6.1)))),(la t k),(kU t k),(.c (mQ t k)),(.o (oz t k)),(jY t k),(j8 t k),(ln t k),(.c (jy t k))]))),x3,(ey t),.dead,(.row 3 1 1 [(ci q2)]),(.arr 3 1 ((t.2.2 k).6.1+1) (gA (t.2.2 k).6.1 (λi=>bA ((t.2.2 k).6.2 i)) (1,flat 1 [I.v (Value.int IntKind.i64 q2)]).snd))],[]⟩))))))))))):cB kI 8 eR L (bL QD) 20 (we t q0 q1 q2 k x3):=km h
def wI (t:ae) (q0 q1 q2:Int) (k:Nat) (x3:ag):VS:=⟨[o8,lx,lJ,(6,.c (.rt 2 k 0),[])],[QB q0 q1 q2,ZT,.bt 56 14 t.ins.n (λi=>j9 (t.ins.get i)) (some (k,setAt (foI (t.ins.get k)) 9 (.c (.sa 5 (t.ins.get k).names.n)))),x3,lQ t 2 3 t.ins.n,aJ4 (t.ins.get k).names],[]⟩
abbrev uM (aw:Int):D:=int (dY aw (Int.ofNat 3))
abbrev YF (aw:ae) (aG:Nat):ag:=.bt 56 14 aw.2.1 (λi=>j9 (aw.2.2 i)) (.some (aG,[(kW aw aG),(lz aw aG),(lC aw aG),(jX aw aG),(lE aw aG),(.o (om aw aG)),(la aw aG),(kU aw aG),(.c (mQ aw aG)),(.c (.sa 9 (.succ ((aw.2.2 aG).8.1)))),(jY aw aG),(j8 aw aG),(ln aw aG),(.c (jy aw aG))]))
abbrev NI:ag:=.row 9 1 3 [(.im (.v (.string ({ data := #[120] })))),(.im (.v (.string ({ data := #[122] })))),(.im (.v (.string ((ByteArray.mk #[])))))]
abbrev Q4 (aw aG bk:Int) (bN:ae) (dp:Nat) (fq:ag):VS:=⟨[ck,cA],[(e8 aw aG bk),cQ,(YF bN dp),fq,(ey bN),.dead,NI,.dead,(.row 9 1 1 [(.im (.v (.string ({ data := #[120] }))))]),(.arr 9 1 ((bN.2.2 dp).8.1+1) (gA (bN.2.2 dp).8.1 (λi=>cw ((bN.2.2 dp).8.2 i)) (1,flat 1 [I.v (Value.string { data := #[120] })]).snd))],[]⟩
abbrev NU (aw aG bk:Int) (bN:ae) (dp:Nat) (fq:ag):VS:=⟨[ck,cA],[(e8 aw aG bk),cQ,(YF bN dp),fq,(ey bN),.dead,NI,.dead,(.row 9 1 1 [(.im (.v (.string ({ data := #[122] }))))]),(.arr 9 1 ((bN.2.2 dp).8.1+1) (gA (bN.2.2 dp).8.1 (λi=>cw ((bN.2.2 dp).8.2 i)) (1,flat 1 [I.v (Value.string { data := #[122] })]).snd))],[]⟩
abbrev M4 (aw aG bk:Int) (bN:ae) (dp:Nat) (fq:ag):VS:=⟨[ck,cA],[(e8 aw aG bk),cQ,(YF bN dp),fq,(ey bN),.dead,NI,.dead,(.row 9 1 1 [(.im (.v (.string ((ByteArray.mk #[])))))]),(.arr 9 1 ((bN.2.2 dp).8.1+1) (gA (bN.2.2 dp).8.1 (λi=>cw ((bN.2.2 dp).8.2 i)) (1,flat 1 [I.v (Value.string (ByteArray.mk #[]))]).snd))],[]⟩
theorem Tn (L:LP) (QD:D->Prop) (t:ae) (q0 q1 q2:Int) (k:Nat) (x3:ag) (h:nd (k.blt t.2.1) (nd (k.beq k) ((LC 23 [(int q2),(int 3)] [] (uM q2) []/\nd (cM (dY q2 (Int.ofNat 3)) 3) (br ((dY q2 (Int.ofNat 3)).toNat.beq 0) (nd (b5 ((t.2.2 k).8.1+1) 16) (nd ((t.2.2 k).8.1.beq (t.2.2 k).8.1) (nd (k.beq k) (nd (k.blt t.2.1) (nd (k.beq k) ((LC 23 [(int q2),(int 3)] [] (uM q2) []/\nd (cM (dY q2 (Int.ofNat 3)) 3) (br ((dY q2 (Int.ofNat 3)).toNat.beq 0) (nd (b5 ((t.2.2 k).8.1+1) 16) (nd ((t.2.2 k).8.1.beq (t.2.2 k).8.1) (nd (k.beq k) (L (ai 8 38) (Q4 q0 q1 q2 t k x3))))) (br ((dY q2 (Int.ofNat 3)).toNat.beq 1) (nd (b5 ((t.2.2 k).8.1+1) 16) (nd ((t.2.2 k).8.1.beq (t.2.2 k).8.1) (nd (k.beq k) (L (ai 8 38) (NU q0 q1 q2 t k x3))))) (br ((dY q2 (Int.ofNat 3)).toNat.beq 2) (nd (b5 ((t.2.2 k).8.1+1) 16) (nd ((t.2.2 k).8.1.beq (t.2.2 k).8.1) (nd (k.beq k) (L (ai 8 38) (M4 q0 q1 q2 t k x3))))) (False))))))))))) (br ((dY q2 (Int.ofNat 3)).toNat.beq 1) (nd (b5 ((t.2.2 k).8.1+1) 16) (nd ((t.2.2 k).8.1.beq (t.2.2 k).8.1) (nd (k.beq k) (nd (k.blt t.2.1) (nd (k.beq k) ((LC 23 [(int q2),(int 3)] [] (uM q2) []/\nd (cM (dY q2 (Int.ofNat 3)) 3) (br ((dY q2 (Int.ofNat 3)).toNat.beq 0) (nd (b5 ((t.2.2 k).8.1+1) 16) (nd ((t.2.2 k).8.1.beq (t.2.2 k).8.1) (nd (k.beq k) (L (ai 8 38) (Q4 q0 q1 q2 t k x3))))) (br ((dY q2 (Int.ofNat 3)).toNat.beq 1) (nd (b5 ((t.2.2 k).8.1+1) 16) (nd ((t.2.2 k).8.1.beq (t.2.2 k).8.1) (nd (k.beq k) (L (ai 8 38) (NU q0 q1 q2 t k x3))))) (br ((dY q2 (Int.ofNat 3)).toNat.beq 2) (nd (b5 ((t.2.2 k).8.1+1) 16) (nd ((t.2.2 k).8.1.beq (t.2.2 k).8.1) (nd (k.beq k) (L (ai 8 38) (M4 q0 q1 q2 t k x3))))) (False))))))))))) (br ((dY q2 (Int.ofNat 3)).toNat.beq 2) (nd (b5 ((t.2.2 k).8.1+1) 16) (nd ((t.2.2 k).8.1.beq (t.2.2 k).8.1) (nd (k.beq k) (nd (k.blt t.2.1) (nd (k.beq k) ((LC 23 [(int q2),(int 3)] [] (uM q2) []/\nd (cM (dY q2 (Int.ofNat 3)) 3) (br ((dY q2 (Int.ofNat 3)).toNat.beq 0) (nd (b5 ((t.2.2 k).8.1+1) 16) (nd ((t.2.2 k).8.1.beq (t.2.2 k).8.1) (nd (k.beq k) (L (ai 8 38) (Q4 q0 q1 q2 t k x3))))) (br ((dY q2 (Int.ofNat 3)).toNat.beq 1) (nd (b5 ((t.2.2 k).8.1+1) 16) (nd ((t.2.2 k).8.1.beq (t.2.2 k).8.1) (nd (k.beq k) (L (ai 8 38) (NU q0 q1 q2 t k x3))))) (br ((dY q2 (Int.ofNat 3)).toNat.beq 2) (nd (b5 ((t.2.2 k).8.1+1) 16) (nd ((t.2.2 k).8.1.beq (t.2.2 k).8.1) (nd (k.beq k) (L (ai 8 38) (M4 q0 q1 q2 t k x3))))) (False))))))))))) (False)))))))):cB kI 8 eR L (bL QD) 22 (wI t q0 q1 q2 k x3):=km h
def wC (t:ae) (q0 q1 q2:Int) (k:Nat) (x3:ag):VS:=⟨[nN,pq,rl,(rh k),(rJ q0),(117,(bool true),[])],(qS q0 q1 q2 t k x3),[]⟩
theorem UW (L:LP) (QD:D->Prop) (t:ae) (q0 q1 q2:Int) (k:Nat) (x3:ag) (h:(LC 23 [(int q2),(int 8)] [] (int (dY q2 (Int.ofNat 8))) []/\(LC 23 [(int q2),(int 3)] [] (uM q2) []/\nd (k.beq k) ((LC 23 [(int q2),(int 8)] [] (int (dY q2 (Int.ofNat 8))) []/\(LC 23 [(int q2),(int 3)] [] (uM q2) []/\nd (k.beq k) (L (ai 8 38) ⟨[ck,cA],[(e8 q0 q1 q2),cQ,(.bt 56 14 t.2.1 (λi=>j9 (t.2.2 i)) (.some (k,[(kW t k),(lz t k),(lC t k),(jX t k),(lE t k),(.o (om t k)),(.c (ci (dY q2 (Int.ofNat 8)))),(.c (ci (dY q2 (Int.ofNat 3)))),(.c ff),(.o (oz t k)),(jY t k),(j8 t k),(ln t k),(.c (jy t k))]))),x3,(ey t),.dead,.dead],[]⟩))))))):cB kI 8 eR L (bL QD) 24 (wC t q0 q1 q2 k x3):=km h
abbrev PV (aw:Nat):aK:=[o8,lx,lJ,(7,.c (.rt 3 aw 0),[])]
abbrev Ho (aw:Nat) (aG bk bN:Int) (dp:ae):VS:=⟨(PV aw),[QB aG bk bN,ZT,kg dp.ins,DX dp aw (GQ (dp.aa.get aw)),lQ dp 2 3 dp.ins.n],[]⟩
def BO (t:ae) (q0 q1 q2:Int) (k e:Nat):VS:=(Ho e q0 q1 q2 t)
theorem UQ (L:LP) (QD:D->Prop) (t:ae) (q0 q1 q2:Int) (k e:Nat) (h:nd (e.beq e) (L (ai 8 38) ⟨[ck,cA],[(e8 q0 q1 q2),cQ,(kp t),(.bt 72 3 t.3.1 (λi=>iU (t.3.2 i)) (.some (e,[(.o (uG t e)),(.o (uA t e)),(.c (ci q2))]))),(ey t)],[]⟩)):cB kI 8 eR L (bL QD) 26 (BO t q0 q1 q2 k e):=km h
def DW (t:ae) (q0 q1 q2:Int) (k e:Nat):VS:=(Ho e q0 q1 q2 t)
theorem Us (L:LP) (QD:D->Prop) (t:ae) (q0 q1 q2:Int) (k e:Nat) (h:L (ai 8 30) ⟨[dU,ck,cA,(ja e),(141,((bool true),[]))],[(e8 q0 q1 q2),cQ,(kp t),(QH t e),(ey t)],[]⟩):cB kI 8 eR L (bL QD) 29 (DW t q0 q1 q2 k e):=km h
def Ci (t:ae) (q0 q1 q2:Int) (e:Nat):VS:=⟨(PV e),[QB q0 q1 q2,ZT,kg t.ins,.bt 72 3 t.aa.n (λi=>iU (t.aa.get i)) (some (e,setAt (GQ (t.aa.get e)) 0 (.c (.sa 5 (t.aa.get e).frames.n)))),lQ t 2 3 t.ins.n,.bt 74 3 (t.aa.get e).frames.n (λi=>du ((t.aa.get e).frames.get i)) (some (0,setAt (iY (du ((t.aa.get e).frames.get 0)) 3 0) 2 (.c (.sa 6 ((t.aa.get e).frames.get 0).vars.n)))),mz ((t.aa.get e).frames.get 0).vars],[]⟩
theorem UD (L:LP) (QD:D->Prop) (t:ae) (q0 q1 q2:Int) (e:Nat) (h:nd (e.blt t.3.1) (nd (e.beq e) (nd (e.blt t.3.1) (nd (e.beq e) (nd (cM 0 (t.3.2 e).1.1) (nd (Nat.blt 0 (t.3.2 e).1.1) (nd (b5 (((t.3.2 e).1.2 0).3.1+1) 8) (nd (((t.3.2 e).1.2 0).3.1.beq ((t.3.2 e).1.2 0).3.1) (nd (cM 0 (t.3.2 e).1.1) (nd (e.blt t.3.1) (nd (e.beq e) (nd (e.blt t.3.1) (nd (e.beq e) (nd (cM 0 (t.3.2 e).1.1) (nd (Nat.blt 0 (t.3.2 e).1.1) (nd (b5 (((t.3.2 e).1.2 0).3.1+1) 8) (nd (((t.3.2 e).1.2 0).3.1.beq ((t.3.2 e).1.2 0).3.1) (nd (cM 0 (t.3.2 e).1.1) (L (ai 8 38) ⟨[ck,cA],[(e8 q0 q1 q2),cQ,(kp t),(.bt 72 3 t.3.1 (λi=>iU (t.3.2 i)) (.some (e,[(.c (.sa 5 ((t.3.2 e).1.1))),(.o (uA t e)),(.c (nz t e))]))),(ey t),(.bt 74 3 ((t.3.2 e).1.1) (λi=>du ((t.3.2 e).1.2 i)) (.some (0,[(.c (ci (((t.3.2 e).1.2 0).1))),(.c (ci (((t.3.2 e).1.2 0).2))),(.c (.sa 8 (.succ (((t.3.2 e).1.2 0).3.1))))]))),.dead,(.row 3 1 1 [(ci q2)]),(.arr 3 1 (((t.3.2 e).1.2 0).3.1+1) (gA ((t.3.2 e).1.2 0).3.1 (λi=>bA (((t.3.2 e).1.2 0).3.2 i)) (1,flat 1 [I.v (Value.int IntKind.i64 q2)]).snd))],[]⟩))))))))))))))))))):cB kI 8 eR L (bL QD) 30 (Ci t q0 q1 q2 e):=km h
def Ck (t:ae) (q0 q1 q2:Int) (k e:Nat):VS:=(Ho e q0 q1 q2 t)
theorem Vb (L:LP) (QD:D->Prop) (t:ae) (q0 q1 q2:Int) (k e:Nat) (h:L (ai 8 33) ⟨[dU,ck,cA,(ja e),(162,((bool true),[]))],[(e8 q0 q1 q2),cQ,(kp t),(QH t e),(ey t)],[]⟩):cB kI 8 eR L (bL QD) 32 (Ck t q0 q1 q2 k e):=km h
def BV (t:ae) (q0 q1 q2:Int) (e:Nat):VS:=⟨(PV e),[QB q0 q1 q2,ZT,kg t.ins,.bt 72 3 t.aa.n (λi=>iU (t.aa.get i)) (some (e,setAt (GQ (t.aa.get e)) 1 (.c (.sa 5 (t.aa.get e).ax.n)))),lQ t 2 3 t.ins.n,aJ8 (t.aa.get e).ax],[]⟩
theorem Ug (L:LP) (QD:D->Prop) (t:ae) (q0 q1 q2:Int) (e:Nat) (h:nd (e.blt t.3.1) (nd (e.beq e) ((LC 24 [] [] (.c sv) []/\nd (b5 ((t.3.2 e).2.1+1) 64) (nd ((t.3.2 e).2.1.beq (t.3.2 e).2.1) (nd (e.beq e) (nd (e.blt t.3.1) (nd (e.beq e) ((LC 24 [] [] (.c sv) []/\nd (b5 ((t.3.2 e).2.1+1) 64) (nd ((t.3.2 e).2.1.beq (t.3.2 e).2.1) (nd (e.beq e) (L (ai 8 38) ⟨[ck,cA],[(e8 q0 q1 q2),cQ,(kp t),(.bt 72 3 t.3.1 (λi=>iU (t.3.2 i)) (.some (e,[(.o (uG t e)),(.c (.sa 9 (.succ ((t.3.2 e).2.1)))),(.c (nz t e))]))),(ey t),.dead,.dead,(.row 3 1 2 [(ci (-1)),(ci 0)]),(.row 77 4 1 [(ci q2),(ci 0),sv,(.sa 7 2)]),(.bt 77 4 ((t.3.2 e).2.1+1) (λi=>o6 ((t.3.2 e).2.2 i)) (.some (((t.3.2 e).2.1),[(.c (ci q2)),(.c (ci 0)),(.c sv),(.c (.sa 7 2))])))],[]⟩))))))))))))):cB kI 8 eR L (bL QD) 33 (BV t q0 q1 q2 e):=km h
def wD (t:ae) (q0 q1 q2:Int) (x3:ag):VS:=⟨[o8,lx,lJ],[QB q0 q1 q2,ZT,kg t.ins,x3,lQ t 2 3 t.ins.n],[]⟩
theorem VD (L:LP) (QD:D->Prop) (t:ae) (q0 q1 q2:Int) (x3:ag) (h:(LC 23 [(int q2),(iw t)] [] (int (dY q2 (Int.ofNat t.2.1))) []/\nd (GU (dY q2 (Int.ofNat t.2.1)) t.2.1) ((LC 23 [(int q2),(iw t)] [] (int (dY q2 (Int.ofNat t.2.1))) []/\nd (GU (dY q2 (Int.ofNat t.2.1)) t.2.1) (L (ai 8 38) ⟨[ck,cA],[(e8 q0 q1 q2),cQ,(kp t),x3,(.box [(ci t.1.1),(ci t.1.2),(.sa 2 ((dY q2 (Int.ofNat t.2.1)).toNat)),(.sa 3 t.3.1)]),.dead],[]⟩))))):cB kI 8 eR L (bL QD) 35 (wD t q0 q1 q2 x3):=km h
def wF (t:ae) (q0 q1 q2:Int) (x3:ag):VS:=⟨[o8,lx,lJ],[QB q0 q1 q2,ZT,kg t.ins,x3,lQ t 2 3 t.ins.n],[]⟩
theorem Tq (L:LP) (QD:D->Prop) (t:ae) (q0 q1 q2:Int) (x3:ag) (h:L (ai 8 38) ⟨[ck,cA],[(e8 q0 q1 q2),cQ,(kp t),x3,(.box [(ci t.1.1),(ci q2),(.sa 2 t.2.1),(.sa 3 t.3.1)])],[]⟩):cB kI 8 eR L (bL QD) 37 (wF t q0 q1 q2 x3):=km h
def dQ (t:ae) (q0 q1 q2:Int) (m:Nat) (gE:Nat->Nat->O):VS:=⟨[lx,lJ],[QB q0 q1 q2,ZT,kg t.ins,.bt 72 3 t.aa.n gE none,lQ t 2 3 m],[]⟩
theorem Ti (L:LP) (QD:D->Prop) (t:ae) (q0 q1 q2:Int) (m:Nat) (gE:Nat->Nat->O) (h:QD (.a [(ci t.1.1),(ci t.1.2),(.im (.sl 14 m (λi j=>oI (j9 (t.2.2 i) j)))),(.im (.sl 3 t.3.1 (λi j=>oI (gE i j))))])):cB kI 8 eR L (bL QD) 38 (dQ t q0 q1 q2 m gE):=km h
section
def mj {α:Type} (s:Sq α) (x:α):Sq α:=⟨s.n+1,λi=>bif Nat.blt i s.n then s.get i else x⟩
def fw (t:ae) (k:Nat) (x:aj):ae:={ t with ins:=⟨t.ins.n,λi=>bif Nat.beq i k then x else t.ins.get i⟩ }
def rX (t:ae) (k:Nat) (x:ah):ae:={ t with aa:=⟨t.aa.n,λi=>bif Nat.beq i k then x else t.aa.get i⟩ }
def U9 (s:Sq cK) (k:Nat) (x:cK):Sq cK:=⟨s.n,λi=>bif Nat.beq i k then x else s.get i⟩
def xzN (k:Nat):ByteArray:=bif Nat.beq k 0 then ⟨⟨[120]⟩⟩ else bif Nat.beq k 1 then ⟨⟨[122]⟩⟩ else ⟨⟨[]⟩⟩
def yf:Sq Int:=⟨2,λi=>bif Nat.beq i 0 then -1 else 0⟩
def bI (t:ae) (q1:Int):Nat:=(dY q1 (Int.ofNat t.ins.n)).toNat
def bE (t:ae) (q1:Int):Nat:=(dY q1 (Int.ofNat t.aa.n)).toNat
def TQ (t:ae) (k:Nat) (q:Int):ae:=fw t k { t.ins.get k with op:=dY q (Int.ofNat 23) }
def VQ (t:ae) (k:Nat) (q:Int):ae:=fw t k { t.ins.get k with a:=q }
def T7 (t:ae) (k:Nat) (q:Int):ae:=fw t k { t.ins.get k with b:=q }
def SK (t:ae) (k:Nat) (q:Int):ae:=fw t k { t.ins.get k with n:=q }
def UY (t:ae) (k:Nat) (q:Int):ae:=fw t k { t.ins.get k with exit:=IntKind.i64.wrap (dY q (IntKind.i64.wrap ((t.aa.n:Int)+2))-1) }
def TM (t:ae) (k:Nat) (q:Int):ae:=fw t k { t.ins.get k with once := !(t.ins.get k).once }
def Lr (t:ae) (k:Nat) (q:Int):ae:=fw t k { t.ins.get k with args:=mj (t.ins.get k).args q }
def SD (t:ae) (k:Nat) (q:Int):ae:=fw t k { t.ins.get k with names:=mj (t.ins.get k).names (xzN (dY q (Int.ofNat 3)).toNat) }
def LA (t:ae) (k:Nat) (q:Int):ae:=fw t k { t.ins.get k with k:=⟨dY q (Int.ofNat 8),dY q (Int.ofNat 3),⟨⟨[]⟩⟩⟩ }
def V8 (t:ae) (e:Nat) (q:Int):ae:=rX t e { t.aa.get e with back:=q }
def ui (t:ae) (e:Nat) (q:Int):ae:=rX t e { t.aa.get e with frames:=U9 (t.aa.get e).frames 0 { (t.aa.get e).frames.get 0 with vars:=mj ((t.aa.get e).frames.get 0).vars q } }
def yD (t:ae) (e:Nat) (q:Int):ae:=rX t e { t.aa.get e with ax:=mj (t.aa.get e).ax ⟨q,0,zN,yf⟩ }
def UT (t:ae) (q:Int):ae:={ t with ins:=⟨(dY q (Int.ofNat t.ins.n)).toNat,t.ins.get⟩ }
def B0 (t:ae) (q:Int):ae:={ t with place:={ t.place with line:=q } }
def SA (t u:ae):ae:=bif decide ((t.aa.n:Int)>0) then u else t
def bO (t:ae) (q0 q1 q2:Int):ae:=
 bif dY q0 (Int.ofNat 14)==0 then TQ t (bI t q1) q2 else
 bif dY q0 (Int.ofNat 14)==1 then VQ t (bI t q1) q2 else
 bif dY q0 (Int.ofNat 14)==2 then T7 t (bI t q1) q2 else
 bif dY q0 (Int.ofNat 14)==3 then SK t (bI t q1) q2 else
 bif dY q0 (Int.ofNat 14)==4 then UY t (bI t q1) q2 else
 bif dY q0 (Int.ofNat 14)==5 then TM t (bI t q1) q2 else
 bif dY q0 (Int.ofNat 14)==6 then Lr t (bI t q1) q2 else
 bif dY q0 (Int.ofNat 14)==7 then SD t (bI t q1) q2 else
 bif dY q0 (Int.ofNat 14)==8 then LA t (bI t q1) q2 else
 bif dY q0 (Int.ofNat 14)==9 then SA t (V8 t (bE t q1) q2) else
 bif dY q0 (Int.ofNat 14)==10 then SA t (ui t (bE t q1) q2) else
 bif dY q0 (Int.ofNat 14)==11 then SA t (yD t (bE t q1) q2) else
 bif dY q0 (Int.ofNat 14)==12 then UT t q2 else
 bif dY q0 (Int.ofNat 14)==13 then B0 t q2 else t
end
theorem BB {i k:Nat} (h:i≠k):Nat.beq i k=false:=by
 cases hb:Nat.beq i k with
 | false=>rfl
 | true=>exact (h (Nat.eq_of_beq_eq_true hb)).elim
theorem xT {t:ae} {k:Nat} {x:aj} {l:List Fc} (h:IJ (j9 x) l 0):aO (SN t k l) (kg (fw t k x).ins):=
 aO.WR (by show IJ (j9 (bif Nat.beq k k then x else _)) l 0; rw [dq]; exact h) (λi hi oZ j hj=>by
  show oF _ (j9 (bif Nat.beq i k then x else _) j)
  rw [BB oZ]
  exact oF.refl _)
theorem ag9 {t:ae} {k:Nat} {x:ah} {l:List Fc} (h:IJ (iU x) l 0):aO (DX t k l) (rM (rX t k x).aa):=
 aO.WR (by show IJ (iU (bif Nat.beq k k then x else _)) l 0; rw [dq]; exact h) (λi hi oZ j hj=>by
  show oF _ (iU (bif Nat.beq i k then x else _) j)
  rw [BB oZ]
  exact oF.refl _)
theorem Yv (x:aj):∀ j,j<14->cH (oI (j9 x j)) (fT x j)
 | 0,_=>cH.refl _
 | 1,_=>cH.refl _
 | 2,_=>cH.refl _
 | 3,_=>cH.refl _
 | 4,_=>cH.refl _
 | 5,_=>cH.refl _
 | 6,_=>cH.refl _
 | 7,_=>cH.refl _
 | 8,_=>cH.refl _
 | 9,_=>cH.refl _
 | 10,_=>cH.refl _
 | 11,_=>cH.refl _
 | 12,_=>cH.refl _
 | 13,_=>cH.refl _
 | n+14,h=>absurd h (by omega)
theorem H0 (x:cK):∀ j,j<3->cH (oI (du x j)) (dg x j)
 | 0,_=>cH.refl _
 | 1,_=>cH.refl _
 | 2,_=>cH.refl _
 | n+3,h=>absurd h (by omega)
theorem Og (x:cG):∀ j,j<4->cH (oI (o6 x j)) (eX x j)
 | 0,_=>cH.refl _
 | 1,_=>cH.refl _
 | 2,_=>cH.refl _
 | 3,_=>cH.refl _
 | n+4,h=>absurd h (by omega)
theorem Wn (x:ah):∀ j,j<3->cH (oI (iU x j)) (dw x j)
 | 0,_=>cH.sl λi _ j hj=>H0 _ j hj
 | 1,_=>cH.sl λi _ j hj=>Og _ j hj
 | 2,_=>cH.refl _
 | n+3,h=>absurd h (by omega)
theorem jg.im {x y:I} (h:cH x y):jg (.im x) (.im y):=λE av w v q=>h av w v q
theorem nZ (a:Int) (m:Nat) (h0:0<m) (hm:m<=1000000):cM (dY a (Int.ofNat m)) m=true/\0<=dY a (Int.ofNat m)/\(dY a (Int.ofNat m)).toNat<m:=by
 have e1:a.tmod (m:Int)<m:=Int.tmod_lt_of_pos _ (by omega)
 have e2 : -(m:Int)<a.tmod m:=by
  have:=Int.tmod_nonneg (a := -a) (b:=(m:Int))
  by_cases h:0<=a
  .have:=Int.tmod_nonneg (m:Int) h; omega
  .have h1:a.tmod m = -((-a).tmod m):=by rw [Int.neg_tmod,Int.neg_neg]
   have:=Int.tmod_lt_of_pos (-a) (b:=(m:Int)) (by omega)
   omega
 have key:∃ d:Nat,dY a (Int.ofNat m)=(d:Int)/\d<m:=by
  unfold dY
  by_cases h:a.tmod (m:Int)<0
  .have hd:decide (a.tmod (Int.ofNat m)<0)=true:=decide_eq_true h
   rw [hd,cond_true]
   refine ⟨(a.tmod (m:Int)+m).toNat,?_,by omega⟩
   show IntKind.i64.wrap (a.tmod (m:Int)+m)=_
   rw [iV (by omega) (by omega)]
   omega
  .have hd:decide (a.tmod (Int.ofNat m)<0)=false:=decide_eq_false h
   rw [hd,cond_false]
   exact ⟨(a.tmod (m:Int)).toNat,by show a.tmod (m:Int)=_; omega,by omega⟩
 obtain ⟨d,hd,dB⟩:=key
 rw [hd]
 exact ⟨a8 dB,by omega,by simpa using dB⟩
def gX (t:ae):Nat->Nat->O:=λi=>iU (t.aa.get i)
theorem iC (t:ae):∀ i,i<t.aa.n->∀ j,j<3->cH (oI (gX t i j)) (dw (t.aa.get i) j):=λi _ j hj=>Wn _ j hj
theorem Km {s:Sq Int} {q:Int}:∀ i,i<s.n+1->∀ j,j<1->cH (gA s.n (λi=>bA (s.get i)) (flat 1 [I.v (Value.int IntKind.i64 q)]) i j) (bA ((mj s q).get i) j):=by
 intro i hi j hj
 have hj:j=0:=by omega
 subst hj
 show cH (Bool.rec (flat 1 [I.v (Value.int IntKind.i64 q)] (i-s.n) 0) (bA (s.get i) 0) (Nat.blt i s.n)) (bA (bif Nat.blt i s.n then s.get i else q) 0)
 cases hb:Nat.blt i s.n with
 | true=>exact cH.refl _
 | false=>
   have:¬ i<s.n:=λh=>by rw [(by simpa [kD] using h:Nat.blt i s.n=true)] at hb; cases hb
   rw [show i-s.n=0 by omega]
   exact cH.refl _
theorem wY {s:Sq ByteArray} {q:ByteArray}:∀ i,i<s.n+1->∀ j,j<1->cH (gA s.n (λi=>cw (s.get i)) (flat 1 [I.v (Value.string q)]) i j) (cw ((mj s q).get i) j):=by
 intro i hi j hj
 have hj:j=0:=by omega
 subst hj
 show cH (Bool.rec (flat 1 [I.v (Value.string q)] (i-s.n) 0) (cw (s.get i) 0) (Nat.blt i s.n)) (cw (bif Nat.blt i s.n then s.get i else q) 0)
 cases hb:Nat.blt i s.n with
 | true=>exact cH.refl _
 | false=>
   have:¬ i<s.n:=λh=>by rw [(by simpa [kD] using h:Nat.blt i s.n=true)] at hb; cases hb
   rw [show i-s.n=0 by omega]
   exact cH.refl _
theorem az8 {n:Nat} (h:n<3) (h0:Nat.beq n 0=false) (h1:Nat.beq n 1=false) (h2:Nat.beq n 2=false):False:=by
 match n,h,h0,h1,h2 with
 | 0,_,h0,_,_=>cases h0
 | 1,_,_,h1,_=>cases h1
 | 2,_,_,_,h2=>cases h2
 | n+3,h,_,_,_=>omega
theorem aF0 {s:Sq cK} {k:Nat} {x:cK} {l:List Fc} (h:IJ (du x) l 0):aO (.bt 74 3 s.n (λi=>du (s.get i)) (some (k,l))) (zq (U9 s k x)):=
 aO.WR (by show IJ (du (bif Nat.beq k k then x else _)) l 0; rw [dq]; exact h) (λi hi oZ j hj=>by
  show oF _ (du (bif Nat.beq i k then x else _) j)
  rw [BB oZ]
  exact oF.refl _)
theorem XF {n:Int} {m:Nat} (h0:0<=n) (h:n.toNat<m):GU n m=true:=by
 obtain ⟨k,rfl⟩:=Int.eq_ofNat_of_zero_le h0
 show Nat.ble k m=true
 rw [Nat.ble_eq]
 have:k<m:=by simpa using h
 omega
section
def gO (s:Sq cG) (q:Int):Nat->Nat->O:=λi=>bif Nat.blt i s.n then o6 (s.get i) else SE [.im (iI q),.im (iI 0),.im (.sl 1 2 λi=>cw (zN.get i)),yY yf]
def C1 (t:ae) (e:Nat) (q:Int):Nat->Nat->O:=λi=>bif Nat.beq i e then SE [vO (t.aa.get e).frames,.ns 77 4 ((t.aa.get e).ax.n+1) (gO (t.aa.get e).ax q),.im (iI (t.aa.get e).back)] else iU (t.aa.get i)
end
theorem SM (t:ae) (e:Nat) (q:Int):∀ i,i<(yD t e q).aa.n->∀ j,j<3->cH (oI (C1 t e q i j)) (dw ((yD t e q).aa.get i) j):=by
 intro i _ j hj
 show cH (oI (C1 t e q i j)) (dw (bif Nat.beq i e then { t.aa.get e with ax:=mj (t.aa.get e).ax ⟨q,0,zN,yf⟩ } else t.aa.get i) j)
 unfold C1
 cases Nat.beq i e with
 | false=>exact Wn _ j hj
 | true=>
   simp only [cond_true]
   match j,hj with
   | 0,_=>exact cH.sl λi _ j hj=>H0 _ j hj
   | 2,_=>exact cH.refl _
   | 1,_=>
     refine cH.sl λi _ j hj=>?_
     show cH (oI (gO (t.aa.get e).ax q i j)) (eX (bif Nat.blt i (t.aa.get e).ax.n then (t.aa.get e).ax.get i else ⟨q,0,zN,yf⟩) j)
     unfold gO
     cases Nat.blt i (t.aa.get e).ax.n with
     | true=>exact Og _ j hj
     | false=>
       match j,hj with
       | 0,_=>exact cH.refl _
       | 1,_=>exact cH.refl _
       | 2,_=>exact cH.refl _
       | 3,_=>exact cH.refl _
theorem Y7:aO (.row 3 1 2 [ci (-1),ci 0]) (mz yf):=aO.row λi hi j hj=>by
 have hj:j=0:=by omega
 subst hj
 have hi:i<2:=hi
 match i,hi with
 | 0,_=>rfl
 | 1,_=>rfl
theorem an7 {s:Sq cG} {q:Int}:gO s q s.n=SE [.im (iI q),.im (iI 0),.im (.sl 1 2 λi=>cw (zN.get i)),yY yf]:=by
 unfold gO
 have:Nat.blt s.n s.n=false:=by
  cases hb:Nat.blt s.n s.n with
  | false=>rfl
  | true=>simp [kD] at hb
 rw [this]; rfl
theorem Ya {s:Sq cG} {q:Int} {l:List Fc} (hl:l.length=4:=by rfl):aO (.bt 77 4 (s.n+1) (λi=>o6 (s.get i)) (some (s.n,l))) (.bt 77 4 (s.n+1) (gO s q) (some (s.n,l))):=
 ⟨λ_=>trivial,λbase E w e av h=>BU (λx hx=>by simp only [ak] at hx; subst hx; exact ⟨Nat.lt_succ_self _,hl⟩) (λi hi j hj c hc=>by
  unfold fS at hc ⊢
  cases hb:Nat.beq i s.n with
  | true=>simp only [hb] at hc ⊢; exact ⟨c,hc,aW.refl _⟩
  | false=>
    simp only [hb,ak] at hc ⊢
    subst hc
    refine ⟨_,rfl,?_⟩
    have oZ:i≠s.n:=λe=>by rw [e,dq] at hb; cases hb
    unfold gO
    rw [(by simpa [kD] using (by omega:i<s.n):Nat.blt i s.n=true)]
    exact aW.refl _) h⟩
theorem al9 {s:Sq cG} {q:Int}:IJ (gO s q s.n) [.c (ci q),.c (ci 0),.c (.im (.sl 1 2 λi=>cw (zN.get i))),.o (yY yf)] 0:=by
 rw [an7]
 exact ⟨aW.aE _,aW.aE _,aW.aE _,aW.refl _,trivial⟩
theorem af0 {t:ae} {e:Nat} {q:Int}:aO (DX t e [.o (vO (t.aa.get e).frames),.o (.ns 77 4 ((t.aa.get e).ax.n+1) (gO (t.aa.get e).ax q)),.c (ci (t.aa.get e).back)]) (.bt 72 3 t.aa.n (C1 t e q) none):=
 aO.WR (by
  unfold C1
  rw [dq]
  exact ⟨aW.refl _,aW.refl _,aW.aE _,trivial⟩) (λi hi oZ j hj=>by
  unfold C1
  rw [BB oZ]
  exact oF.refl _)
set_option maxHeartbeats 4000000
theorem ep (t:ae) (q0 q1 q2:Int) (m:Nat) (gE:Nat->Nat->O) (hE:∀ i,i<t.aa.n->∀ j,j<3->cH (oI (gE i j)) (dw (t.aa.get i) j)):af 8 0 (bF (a7 { t with ins:=⟨m,t.ins.get⟩ })) (ai 8 38) (dQ t q0 q1 q2 m gE):=by
 refine aR (X:=kI) (stop:=eR) (Ti _ _ t q0 q1 q2 m gE ?_)
 exact Un (.cons (jg.refl _) (.cons (jg.refl _) (.cons (jg.im (cH.sl λi _ j hj=>Yv _ j hj)) (.cons (jg.im (cH.sl hE)) .nil))))
theorem aX {c:Bool} {p:Prop} (k:p) (h:c=true:=by first|assumption|exact dq _|(simpa [kD] using hk)|(simpa [kD] using he)|exact cZ (by omega) (by omega)|exact (nZ _ _ (by omega) (by omega)).1|exact XF (nZ _ _ (by omega) (by omega)).2.1 (nZ _ _ (by omega) (by omega)).2.2|exact a8 (k:=0) (by omega)):nd c p:=aC h k
theorem Wr (t:ae) (q0 q1 q2:Int) (k:Nat) (x3:ag) (hk:k<t.ins.n) (hx:aO x3 (rM t.aa)):af 8 0 (bF (a7 (TQ t k q2))) (ai 8 8) (DZ t q0 q1 q2 k x3):=by
 refine aR (X:=kI) (stop:=eR) (X4 _ _ t q0 q1 q2 k x3 ?_)
 refine ⟨jP _ _ (by omega),?_⟩
 refine aX ?_
 exact af.lf (dQ (TQ t k q2) q0 q1 q2 t.ins.n (gX (TQ t k q2))) (rc (rc (.cons (xT ⟨aW.aE _,aW.aE _,aW.aE _,aW.aE _,aW.aE _,aW.refl _,aW.aE _,aW.aE _,aW.aE _,aW.refl _,aW.aE _,aW.aE _,aW.aE _,aW.aE _,trivial⟩) (.cons (hx) (rc .nil))))) (ep (TQ t k q2) q0 q1 q2 t.ins.n (gX (TQ t k q2)) (iC (TQ t k q2)))
theorem MQ (t:ae) (q0 q1 q2:Int) (k:Nat) (x3:ag) (hk:k<t.ins.n) (hx:aO x3 (rM t.aa)):af 8 0 (bF (a7 (VQ t k q2))) (ai 8 10) (v8 t q0 q1 q2 k x3):=by
 refine aR (X:=kI) (stop:=eR) (TH _ _ t q0 q1 q2 k x3 ?_)
 refine aX ?_
 exact af.lf (dQ (VQ t k q2) q0 q1 q2 t.ins.n (gX (VQ t k q2))) (rc (rc (.cons (xT ⟨aW.aE _,aW.aE _,aW.aE _,aW.aE _,aW.aE _,aW.refl _,aW.aE _,aW.aE _,aW.aE _,aW.refl _,aW.aE _,aW.aE _,aW.aE _,aW.aE _,trivial⟩) (.cons (hx) (rc .nil))))) (ep (VQ t k q2) q0 q1 q2 t.ins.n (gX (VQ t k q2)) (iC (VQ t k q2)))
theorem Qn (t:ae) (q0 q1 q2:Int) (k:Nat) (x3:ag) (hk:k<t.ins.n) (hx:aO x3 (rM t.aa)):af 8 0 (bF (a7 (T7 t k q2))) (ai 8 12) (wN t q0 q1 q2 k x3):=by
 refine aR (X:=kI) (stop:=eR) (UC _ _ t q0 q1 q2 k x3 ?_)
 refine aX ?_
 exact af.lf (dQ (T7 t k q2) q0 q1 q2 t.ins.n (gX (T7 t k q2))) (rc (rc (.cons (xT ⟨aW.aE _,aW.aE _,aW.aE _,aW.aE _,aW.aE _,aW.refl _,aW.aE _,aW.aE _,aW.aE _,aW.refl _,aW.aE _,aW.aE _,aW.aE _,aW.aE _,trivial⟩) (.cons (hx) (rc .nil))))) (ep (T7 t k q2) q0 q1 q2 t.ins.n (gX (T7 t k q2)) (iC (T7 t k q2)))
theorem Nf (t:ae) (q0 q1 q2:Int) (k:Nat) (x3:ag) (hk:k<t.ins.n) (hx:aO x3 (rM t.aa)):af 8 0 (bF (a7 (SK t k q2))) (ai 8 14) (wL t q0 q1 q2 k x3):=by
 refine aR (X:=kI) (stop:=eR) (VU _ _ t q0 q1 q2 k x3 ?_)
 refine aX ?_
 exact af.lf (dQ (SK t k q2) q0 q1 q2 t.ins.n (gX (SK t k q2))) (rc (rc (.cons (xT ⟨aW.aE _,aW.aE _,aW.aE _,aW.aE _,aW.aE _,aW.refl _,aW.aE _,aW.aE _,aW.aE _,aW.refl _,aW.aE _,aW.aE _,aW.aE _,aW.aE _,trivial⟩) (.cons (hx) (rc .nil))))) (ep (SK t k q2) q0 q1 q2 t.ins.n (gX (SK t k q2)) (iC (SK t k q2)))
theorem Qc (t:ae) (q0 q1 q2:Int) (k:Nat) (x3:ag) (hk:k<t.ins.n) (hx:aO x3 (rM t.aa)) (hE:t.aa.n<=1000):af 8 0 (bF (a7 (UY t k q2))) (ai 8 16) (wy t q0 q1 q2 k x3):=by
 refine aR (X:=kI) (stop:=eR) (S6 _ _ t q0 q1 q2 k x3 ?_)
 refine ⟨jP _ _ (by rw [iV (by omega) (by omega)]; omega),?_⟩
 refine aX ?_
 exact af.lf (dQ (UY t k q2) q0 q1 q2 t.ins.n (gX (UY t k q2))) (rc (rc (.cons (xT ⟨aW.aE _,aW.aE _,aW.aE _,aW.aE _,aW.aE _,aW.refl _,aW.aE _,aW.aE _,aW.aE _,aW.refl _,aW.aE _,aW.aE _,aW.aE _,aW.aE _,trivial⟩) (.cons (hx) (rc .nil))))) (ep (UY t k q2) q0 q1 q2 t.ins.n (gX (UY t k q2)) (iC (UY t k q2)))
theorem RP (t:ae) (q0 q1 q2:Int) (k:Nat) (x3:ag) (hk:k<t.ins.n) (hx:aO x3 (rM t.aa)):af 8 0 (bF (a7 (TM t k q2))) (ai 8 18) (wO t q0 q1 q2 k x3):=by
 refine aR (X:=kI) (stop:=eR) (TG _ _ t q0 q1 q2 k x3 ?_)
 refine aX ?_
 refine aX ?_
 refine aX ?_
 exact af.lf (dQ (TM t k q2) q0 q1 q2 t.ins.n (gX (TM t k q2))) (rc (rc (.cons (xT ⟨aW.aE _,aW.aE _,aW.aE _,aW.aE _,aW.aE _,aW.refl _,aW.aE _,aW.aE _,aW.aE _,aW.refl _,aW.aE _,aW.aE _,aW.aE _,aW.aE _,trivial⟩) (.cons (hx) (rc .nil))))) (ep (TM t k q2) q0 q1 q2 t.ins.n (gX (TM t k q2)) (iC (TM t k q2)))
theorem Rw (t:ae) (q0 q1 q2:Int) (k:Nat) (x3:ag) (hk:k<t.ins.n) (hx:aO x3 (rM t.aa)) (hA:(t.ins.get k).args.n<=1000):af 8 0 (bF (a7 (Lr t k q2))) (ai 8 20) (we t q0 q1 q2 k x3):=by
 refine aR (X:=kI) (stop:=eR) (TY _ _ t q0 q1 q2 k x3 ?_)
 refine aX ?_
 refine aX ?_
 refine aX ?_
 refine aX ?_
 refine aX ?_
 refine aX ?_
 refine aX ?_
 refine aX ?_
 refine aX ?_
 refine aX ?_
 refine af.close 2 5 7 rfl rfl rfl rfl rfl rfl ?_
 exact af.lf ⟨[(4,.c (.rt 1 0 0),[]),(5,.c (.rt 4 0 0),[])],[QB q0 q1 q2,ZT,kg (Lr t k q2).ins,.bt 72 3 (Lr t k q2).aa.n (gX (Lr t k q2)) none,lQ (Lr t k q2) 2 3 t.ins.n,.dead,.dead,.dead],[]⟩ (rc (rc (.cons (xT ⟨aW.aE _,aW.aE _,aW.aE _,aW.aE _,aW.aE _,aW.o (oF.ar Km),aW.aE _,aW.aE _,aW.aE _,aW.refl _,aW.aE _,aW.aE _,aW.aE _,aW.aE _,trivial⟩) (.cons (hx) (rc (.cons (aO.dead _) (.cons (aO.dead _) (.cons (aO.dead _) .nil)))))))) (af.rename (s':=dQ (Lr t k q2) q0 q1 q2 t.ins.n (gX (Lr t k q2))) [0,1,2,3,4] rfl (ep (Lr t k q2) q0 q1 q2 t.ins.n (gX (Lr t k q2)) (iC (Lr t k q2))))
theorem NS (t:ae) (q0 q1 q2:Int) (k:Nat) (x3:ag) (hk:k<t.ins.n) (hx:aO x3 (rM t.aa)) (hA:(t.ins.get k).names.n<=1000):af 8 0 (bF (a7 (SD t k q2))) (ai 8 22) (wI t q0 q1 q2 k x3):=by
 refine aR (X:=kI) (stop:=eR) (Tn _ _ t q0 q1 q2 k x3 ?_)
 refine aX ?_
 refine aX ?_
 refine ⟨jP _ _ (by omega),?_⟩
 refine aX ?_
 refine aq (λh0=>?_) (λh0=>?_)
 .refine aX ?_
  refine aX ?_
  refine aX ?_
  refine aX ?_
  refine aX ?_
  refine ⟨jP _ _ (by omega),?_⟩
  refine aX ?_
  refine aq (λh1=>?_) (λh1=>Bool.noConfusion (h0.symm.trans h1))
  refine aX ?_
  refine aX ?_
  refine aX ?_
  rw [show SD t k q2=fw t k { t.ins.get k with names:=mj (t.ins.get k).names ⟨⟨[120]⟩⟩ } from by unfold SD xzN; rw [h0]; rfl]
  refine af.close 2 9 9 rfl rfl rfl rfl rfl rfl ?_
  exact af.lf ⟨[(4,.c (.rt 1 0 0),[]),(5,.c (.rt 4 0 0),[])],[QB q0 q1 q2,ZT,kg (fw t k { t.ins.get k with names:=mj (t.ins.get k).names ⟨⟨[120]⟩⟩ }).ins,.bt 72 3 (fw t k { t.ins.get k with names:=mj (t.ins.get k).names ⟨⟨[120]⟩⟩ }).aa.n (gX (fw t k { t.ins.get k with names:=mj (t.ins.get k).names ⟨⟨[120]⟩⟩ })) none,lQ (fw t k { t.ins.get k with names:=mj (t.ins.get k).names ⟨⟨[120]⟩⟩ }) 2 3 t.ins.n,.dead,.dead,.dead,.dead,.dead],[]⟩ (rc (rc (.cons (xT ⟨aW.aE _,aW.aE _,aW.aE _,aW.aE _,aW.aE _,aW.refl _,aW.aE _,aW.aE _,aW.aE _,aW.o (oF.ar wY),aW.aE _,aW.aE _,aW.aE _,aW.aE _,trivial⟩) (.cons (hx) (rc (.cons (aO.dead _) (.cons (aO.dead _) (.cons (aO.dead _) (.cons (aO.dead _) (.cons (aO.dead _) .nil)))))))))) (af.rename (s':=dQ (fw t k { t.ins.get k with names:=mj (t.ins.get k).names ⟨⟨[120]⟩⟩ }) q0 q1 q2 t.ins.n (gX (fw t k { t.ins.get k with names:=mj (t.ins.get k).names ⟨⟨[120]⟩⟩ }))) [0,1,2,3,4] rfl (ep (fw t k { t.ins.get k with names:=mj (t.ins.get k).names ⟨⟨[120]⟩⟩ }) q0 q1 q2 t.ins.n (gX (fw t k { t.ins.get k with names:=mj (t.ins.get k).names ⟨⟨[120]⟩⟩ })) (iC (fw t k { t.ins.get k with names:=mj (t.ins.get k).names ⟨⟨[120]⟩⟩ }))))
 .refine aq (λh1=>?_) (λh1=>?_)
  .refine aX ?_
   refine aX ?_
   refine aX ?_
   refine aX ?_
   refine aX ?_
   refine ⟨jP _ _ (by omega),?_⟩
   refine aX ?_
   refine aq (λh2=>Bool.noConfusion (h2.symm.trans h0)) (λh2=>?_)
   refine aq (λh3=>?_) (λh3=>Bool.noConfusion (h1.symm.trans h3))
   refine aX ?_
   refine aX ?_
   refine aX ?_
   rw [show SD t k q2=fw t k { t.ins.get k with names:=mj (t.ins.get k).names ⟨⟨[122]⟩⟩ } from by unfold SD xzN; rw [h0,h1]; rfl]
   refine af.close 2 9 9 rfl rfl rfl rfl rfl rfl ?_
   exact af.lf ⟨[(4,.c (.rt 1 0 0),[]),(5,.c (.rt 4 0 0),[])],[QB q0 q1 q2,ZT,kg (fw t k { t.ins.get k with names:=mj (t.ins.get k).names ⟨⟨[122]⟩⟩ }).ins,.bt 72 3 (fw t k { t.ins.get k with names:=mj (t.ins.get k).names ⟨⟨[122]⟩⟩ }).aa.n (gX (fw t k { t.ins.get k with names:=mj (t.ins.get k).names ⟨⟨[122]⟩⟩ })) none,lQ (fw t k { t.ins.get k with names:=mj (t.ins.get k).names ⟨⟨[122]⟩⟩ }) 2 3 t.ins.n,.dead,.dead,.dead,.dead,.dead],[]⟩ (rc (rc (.cons (xT ⟨aW.aE _,aW.aE _,aW.aE _,aW.aE _,aW.aE _,aW.refl _,aW.aE _,aW.aE _,aW.aE _,aW.o (oF.ar wY),aW.aE _,aW.aE _,aW.aE _,aW.aE _,trivial⟩) (.cons (hx) (rc (.cons (aO.dead _) (.cons (aO.dead _) (.cons (aO.dead _) (.cons (aO.dead _) (.cons (aO.dead _) .nil)))))))))) (af.rename (s':=dQ (fw t k { t.ins.get k with names:=mj (t.ins.get k).names ⟨⟨[122]⟩⟩ }) q0 q1 q2 t.ins.n (gX (fw t k { t.ins.get k with names:=mj (t.ins.get k).names ⟨⟨[122]⟩⟩ }))) [0,1,2,3,4] rfl (ep (fw t k { t.ins.get k with names:=mj (t.ins.get k).names ⟨⟨[122]⟩⟩ }) q0 q1 q2 t.ins.n (gX (fw t k { t.ins.get k with names:=mj (t.ins.get k).names ⟨⟨[122]⟩⟩ })) (iC (fw t k { t.ins.get k with names:=mj (t.ins.get k).names ⟨⟨[122]⟩⟩ }))))
  .refine aq (λh2=>?_) (λh2=>?_)
   .refine aX ?_
    refine aX ?_
    refine aX ?_
    refine aX ?_
    refine aX ?_
    refine ⟨jP _ _ (by omega),?_⟩
    refine aX ?_
    refine aq (λh3=>Bool.noConfusion (h3.symm.trans h0)) (λh3=>?_)
    refine aq (λh4=>Bool.noConfusion (h4.symm.trans h1)) (λh4=>?_)
    refine aq (λh5=>?_) (λh5=>Bool.noConfusion (h2.symm.trans h5))
    refine aX ?_
    refine aX ?_
    refine aX ?_
    rw [show SD t k q2=fw t k { t.ins.get k with names:=mj (t.ins.get k).names ⟨⟨[]⟩⟩ } from by unfold SD xzN; rw [h0,h1]; rfl]
    refine af.close 2 9 9 rfl rfl rfl rfl rfl rfl ?_
    exact af.lf ⟨[(4,.c (.rt 1 0 0),[]),(5,.c (.rt 4 0 0),[])],[QB q0 q1 q2,ZT,kg (fw t k { t.ins.get k with names:=mj (t.ins.get k).names ⟨⟨[]⟩⟩ }).ins,.bt 72 3 (fw t k { t.ins.get k with names:=mj (t.ins.get k).names ⟨⟨[]⟩⟩ }).aa.n (gX (fw t k { t.ins.get k with names:=mj (t.ins.get k).names ⟨⟨[]⟩⟩ })) none,lQ (fw t k { t.ins.get k with names:=mj (t.ins.get k).names ⟨⟨[]⟩⟩ }) 2 3 t.ins.n,.dead,.dead,.dead,.dead,.dead],[]⟩ (rc (rc (.cons (xT ⟨aW.aE _,aW.aE _,aW.aE _,aW.aE _,aW.aE _,aW.refl _,aW.aE _,aW.aE _,aW.aE _,aW.o (oF.ar wY),aW.aE _,aW.aE _,aW.aE _,aW.aE _,trivial⟩) (.cons (hx) (rc (.cons (aO.dead _) (.cons (aO.dead _) (.cons (aO.dead _) (.cons (aO.dead _) (.cons (aO.dead _) .nil)))))))))) (af.rename (s':=dQ (fw t k { t.ins.get k with names:=mj (t.ins.get k).names ⟨⟨[]⟩⟩ }) q0 q1 q2 t.ins.n (gX (fw t k { t.ins.get k with names:=mj (t.ins.get k).names ⟨⟨[]⟩⟩ }))) [0,1,2,3,4] rfl (ep (fw t k { t.ins.get k with names:=mj (t.ins.get k).names ⟨⟨[]⟩⟩ }) q0 q1 q2 t.ins.n (gX (fw t k { t.ins.get k with names:=mj (t.ins.get k).names ⟨⟨[]⟩⟩ })) (iC (fw t k { t.ins.get k with names:=mj (t.ins.get k).names ⟨⟨[]⟩⟩ }))))
   .exact az8 (nZ q2 3 (by omega) (by omega)).2.2 (by assumption) (by assumption) (by assumption)
theorem PY (t:ae) (q0 q1 q2:Int) (k:Nat) (x3:ag) (hk:k<t.ins.n) (hx:aO x3 (rM t.aa)):af 8 0 (bF (a7 (LA t k q2))) (ai 8 24) (wC t q0 q1 q2 k x3):=by
 refine aR (X:=kI) (stop:=eR) (UW _ _ t q0 q1 q2 k x3 ?_)
 refine ⟨jP _ _ (by omega),?_⟩
 refine ⟨jP _ _ (by omega),?_⟩
 refine aX ?_
 refine ⟨jP _ _ (by omega),?_⟩
 refine ⟨jP _ _ (by omega),?_⟩
 refine aX ?_
 exact af.lf ⟨[(4,.c (.rt 1 0 0),[]),(5,.c (.rt 4 0 0),[])],[QB q0 q1 q2,ZT,kg (LA t k q2).ins,.bt 72 3 (LA t k q2).aa.n (gX (LA t k q2)) none,lQ (LA t k q2) 2 3 t.ins.n,.dead,.dead],[]⟩ (rc (rc (.cons (xT ⟨aW.aE _,aW.aE _,aW.aE _,aW.aE _,aW.aE _,aW.refl _,aW.aE _,aW.aE _,aW.aE _,aW.refl _,aW.aE _,aW.aE _,aW.aE _,aW.aE _,trivial⟩) (.cons (hx) (rc (.cons (aO.dead _) (.cons (aO.dead _) .nil))))))) (af.rename (s':=dQ (LA t k q2) q0 q1 q2 t.ins.n (gX (LA t k q2))) [0,1,2,3,4] rfl (ep (LA t k q2) q0 q1 q2 t.ins.n (gX (LA t k q2)) (iC (LA t k q2))))
theorem Z4 (t:ae) (q0 q1 q2:Int) (k e:Nat) (he:e<t.aa.n):af 8 0 (bF (a7 (V8 t e q2))) (ai 8 26) (BO t q0 q1 q2 k e):=by
 refine aR (X:=kI) (stop:=eR) (UQ _ _ t q0 q1 q2 k e ?_)
 refine aX ?_
 exact af.lf (dQ (V8 t e q2) q0 q1 q2 t.ins.n (gX (V8 t e q2))) (rc (rc (rc (.cons (ag9 ⟨aW.refl _,aW.refl _,aW.aE _,trivial⟩) (rc .nil))))) (ep (V8 t e q2) q0 q1 q2 t.ins.n (gX (V8 t e q2)) (iC (V8 t e q2)))
theorem Yz (t:ae) (q0 q1 q2:Int) (e:Nat) (he:e<t.aa.n) (h0:0<(t.aa.get e).frames.n) (hv:((t.aa.get e).frames.get 0).vars.n<=1000):af 8 0 (bF (a7 (ui t e q2))) (ai 8 30) (Ci t q0 q1 q2 e):=by
 refine aR (X:=kI) (stop:=eR) (UD _ _ t q0 q1 q2 e ?_)
 refine aX ?_
 refine aX ?_
 refine aX ?_
 refine aX ?_
 refine aX ?_
 refine aX ?_
 refine aX ?_
 refine aX ?_
 refine aX ?_
 refine aX ?_
 refine aX ?_
 refine aX ?_
 refine aX ?_
 refine aX ?_
 refine aX ?_
 refine aX ?_
 refine aX ?_
 refine aX ?_
 refine af.close 5 2 8 rfl rfl rfl rfl rfl rfl ?_
 refine af.lf ⟨[(4,.c (.rt 1 0 0),[]),(5,.c (.rt 4 0 0),[])],[QB q0 q1 q2,ZT,kg t.ins,DX t e [.c (.sa 5 (t.aa.get e).frames.n),.o (FE (t.aa.get e).ax),.c (ci (t.aa.get e).back)],lQ t 2 3 t.ins.n,zq (U9 (t.aa.get e).frames 0 { (t.aa.get e).frames.get 0 with vars:=mj ((t.aa.get e).frames.get 0).vars q2 }),.dead,.dead,.dead],[]⟩ (rc (rc (rc (rc (rc (.cons (aF0 ⟨aW.aE _,aW.aE _,aW.o (oF.ar Km),trivial⟩) (.cons (aO.dead _) (.cons (aO.dead _) (.cons (aO.dead _) .nil))))))))) ?_
 refine af.close 3 0 5 rfl rfl rfl rfl rfl rfl ?_
 exact af.lf ⟨[(4,.c (.rt 1 0 0),[]),(5,.c (.rt 4 0 0),[])],[QB q0 q1 q2,ZT,kg (ui t e q2).ins,.bt 72 3 (ui t e q2).aa.n (gX (ui t e q2)) none,lQ (ui t e q2) 2 3 t.ins.n,.dead,.dead,.dead,.dead],[]⟩ (rc (rc (rc (.cons (ag9 ⟨aW.refl _,aW.refl _,aW.aE _,trivial⟩) (rc (.cons (aO.dead _) (.cons (aO.dead _) (.cons (aO.dead _) (.cons (aO.dead _) .nil))))))))) (af.rename (s':=dQ (ui t e q2) q0 q1 q2 t.ins.n (gX (ui t e q2))) [0,1,2,3,4] rfl (ep (ui t e q2) q0 q1 q2 t.ins.n (gX (ui t e q2)) (iC (ui t e q2))))
theorem YX (t:ae) (q0 q1 q2:Int) (e:Nat) (he:e<t.aa.n) (ho:(t.aa.get e).ax.n<=1000):af 8 0 (bF (a7 (yD t e q2))) (ai 8 33) (BV t q0 q1 q2 e):=by
 refine aR (X:=kI) (stop:=eR) (Ug _ _ t q0 q1 q2 e ?_)
 refine aX ?_
 refine aX ?_
 refine ⟨Ko,?_⟩
 refine aX ?_
 refine aX ?_
 refine aX ?_
 refine aX ?_
 refine aX ?_
 refine ⟨Ko,?_⟩
 refine aX ?_
 refine aX ?_
 refine aX ?_
 refine af.lf ⟨[(4,.c (.rt 1 0 0),[]),(5,.c (.rt 4 0 0),[])],[QB q0 q1 q2,ZT,kg t.ins,DX t e [.o (vO (t.aa.get e).frames),.c (.sa 9 ((t.aa.get e).ax.n+1)),.c (ci (t.aa.get e).back)],lQ t 2 3 t.ins.n,.dead,.dead,mz yf,.dead,.bt 77 4 ((t.aa.get e).ax.n+1) (gO (t.aa.get e).ax q2) (some ((t.aa.get e).ax.n,[.c (ci q2),.c (ci 0),.c (.im (.sl 1 2 λi=>cw (zN.get i))),.c (.sa 7 2)]))],[]⟩ (rc (rc (rc (rc (rc (.cons (aO.dead _) (.cons (aO.dead _) (.cons (Y7) (.cons (aO.dead _) (.cons (Ya) .nil)))))))))) ?_
 refine af.close 9 3 7 rfl rfl rfl rfl rfl rfl ?_
 refine af.lf ⟨[(4,.c (.rt 1 0 0),[]),(5,.c (.rt 4 0 0),[])],[QB q0 q1 q2,ZT,kg t.ins,DX t e [.o (vO (t.aa.get e).frames),.c (.sa 9 ((t.aa.get e).ax.n+1)),.c (ci (t.aa.get e).back)],lQ t 2 3 t.ins.n,.dead,.dead,.dead,.dead,.bt 77 4 ((t.aa.get e).ax.n+1) (gO (t.aa.get e).ax q2) none],[]⟩ (rc (rc (rc (rc (rc (.cons (aO.dead _) (.cons (aO.dead _) (.cons (aO.dead _) (.cons (aO.dead _) (.cons (aO.Il al9) .nil)))))))))) ?_
 refine af.close 3 1 9 rfl rfl rfl rfl rfl rfl ?_
 exact af.lf ⟨[(4,.c (.rt 1 0 0),[]),(5,.c (.rt 4 0 0),[])],[QB q0 q1 q2,ZT,kg (yD t e q2).ins,.bt 72 3 (yD t e q2).aa.n (C1 t e q2) none,lQ (yD t e q2) 2 3 t.ins.n,.dead,.dead,.dead,.dead,.dead],[]⟩ (rc (rc (rc (.cons (af0) (rc (.cons (aO.dead _) (.cons (aO.dead _) (.cons (aO.dead _) (.cons (aO.dead _) (.cons (aO.dead _) .nil)))))))))) (af.rename (s':=dQ (yD t e q2) q0 q1 q2 t.ins.n (C1 t e q2)) [0,1,2,3,4] rfl (ep (yD t e q2) q0 q1 q2 t.ins.n (C1 t e q2) (SM t e q2)))
theorem RI (t:ae) (q0 q1 q2:Int) (x3:ag) (hn:0<t.ins.n) (hN:t.ins.n<=1000) (hx:aO x3 (rM t.aa)):af 8 0 (bF (a7 (UT t q2))) (ai 8 35) (wD t q0 q1 q2 x3):=by
 refine aR (X:=kI) (stop:=eR) (VD _ _ t q0 q1 q2 x3 ?_)
 refine ⟨jP _ _ (by omega),?_⟩
 refine aX ?_
 refine ⟨jP _ _ (by omega),?_⟩
 refine aX ?_
 exact af.lf ⟨[(4,.c (.rt 1 0 0),[]),(5,.c (.rt 4 0 0),[])],[QB q0 q1 q2,ZT,kg (t).ins,.bt 72 3 (t).aa.n (gX (t)) none,lQ (t) 2 3 (dY q2 (Int.ofNat t.ins.n)).toNat,.dead],[]⟩ (rc (rc (rc (.cons (hx) (rc (.cons (aO.dead _) .nil)))))) (af.rename (s':=dQ (t) q0 q1 q2 (dY q2 (Int.ofNat t.ins.n)).toNat (gX (t))) [0,1,2,3,4] rfl (ep (t) q0 q1 q2 (dY q2 (Int.ofNat t.ins.n)).toNat (gX (t)) (iC (t))))
theorem O0 (t:ae) (q0 q1 q2:Int) (x3:ag) (hx:aO x3 (rM t.aa)):af 8 0 (bF (a7 (B0 t q2))) (ai 8 37) (wF t q0 q1 q2 x3):=by
 refine aR (X:=kI) (stop:=eR) (Tq _ _ t q0 q1 q2 x3 ?_)
 exact af.lf (dQ (B0 t q2) q0 q1 q2 t.ins.n (gX (B0 t q2))) (rc (rc (rc (.cons (hx) (rc .nil))))) (ep (B0 t q2) q0 q1 q2 t.ins.n (gX (B0 t q2)) (iC (B0 t q2)))
def D4 (t:ae) (q0 q1 q2:Int) (k:Nat):VS:=⟨[o8,lx,lJ,(6,.c (.rt 2 k 0),[]),(7,.c (.im (.v (.pointer none))),[])],[QB q0 q1 q2,ZT,SN t k (foI (t.ins.get k)),rM t.aa,lQ t 2 3 t.ins.n],[]⟩
abbrev rk (aw aG bk:Int) (bN:ae) (dp:Nat):List ag:=[(e8 aw aG bk),cQ,(YT bN dp),(ti bN),(ey bN)]
theorem Tu (L:LP) (QD:D->Prop) (t:ae) (q0 q1 q2:Int) (k:Nat) (h:(LC 23 [(int q0),(int 14)] [] (Bl q0) []/\br (dY q0 (Int.ofNat 14)==0) (L (ai 8 8) ⟨[dU,ck,cA,(jo k),kj,(fJ q0),(35,((bool true),[]))],(rk q0 q1 q2 t k),[]⟩) (br (dY q0 (Int.ofNat 14)==1) (L (ai 8 10) ⟨[dU,ck,cA,(jo k),kj,(fJ q0),(43,((bool true),[]))],(rk q0 q1 q2 t k),[]⟩) (br (dY q0 (Int.ofNat 14)==2) (L (ai 8 12) ⟨[dU,ck,cA,(jo k),kj,(fJ q0),(50,((bool true),[]))],(rk q0 q1 q2 t k),[]⟩) (br (dY q0 (Int.ofNat 14)==3) (L (ai 8 14) ⟨[dU,ck,cA,(jo k),kj,(fJ q0),(57,((bool true),[]))],(rk q0 q1 q2 t k),[]⟩) (br (dY q0 (Int.ofNat 14)==4) (L (ai 8 16) ⟨[dU,ck,cA,(jo k),kj,(fJ q0),(64,((bool true),[]))],(rk q0 q1 q2 t k),[]⟩) (br (dY q0 (Int.ofNat 14)==5) (L (ai 8 18) ⟨[dU,ck,cA,(jo k),kj,(fJ q0),(77,((bool true),[]))],(rk q0 q1 q2 t k),[]⟩) (br (dY q0 (Int.ofNat 14)==6) (L (ai 8 20) ⟨[dU,ck,cA,(jo k),kj,(fJ q0),(87,((bool true),[]))],(rk q0 q1 q2 t k),[]⟩) (br (dY q0 (Int.ofNat 14)==7) (L (ai 8 22) ⟨[dU,ck,cA,(jo k),kj,(fJ q0),(100,((bool true),[]))],(rk q0 q1 q2 t k),[]⟩) (br (dY q0 (Int.ofNat 14)==8) (L (ai 8 24) ⟨[dU,ck,cA,(jo k),kj,(fJ q0),(117,((bool true),[]))],(rk q0 q1 q2 t k),[]⟩) (br (dY q0 (Int.ofNat 14)==9) (L (ai 8 26) ⟨[dU,ck,cA,kj,(fJ q0),(129,((bool true),[]))],(rk q0 q1 q2 t k),[]⟩) (br (dY q0 (Int.ofNat 14)==10) (L (ai 8 29) ⟨[dU,ck,cA,kj,(fJ q0),(138,((bool true),[]))],(rk q0 q1 q2 t k),[]⟩) (br (dY q0 (Int.ofNat 14)==11) (L (ai 8 32) ⟨[dU,ck,cA,kj,(fJ q0),(159,((bool true),[]))],(rk q0 q1 q2 t k),[]⟩) (br (dY q0 (Int.ofNat 14)==12) (L (ai 8 35) ⟨[dU,ck,cA,(fJ q0),(177,((bool true),[]))],(rk q0 q1 q2 t k),[]⟩) (br (dY q0 (Int.ofNat 14)==13) (L (ai 8 37) ⟨[dU,ck,cA,(189,((bool true),[]))],(rk q0 q1 q2 t k),[]⟩) (L (ai 8 38) ⟨[dU,ck,cA,(189,((bool false),[]))],(rk q0 q1 q2 t k),[]⟩)))))))))))))))):cB kI 8 eR L (bL QD) 6 (D4 t q0 q1 q2 k):=km h
abbrev Ja (aw aG bk:Int) (bN:ae):VS:=⟨[o8,lx,lJ,(7,.c (.im (.v (.pointer none))),[])],[QB aw aG bk,ZT,kg bN.ins,rM bN.aa,lQ bN 2 3 bN.ins.n],[]⟩
def xa (t:ae) (q0 q1 q2:Int)  : VS:=(Ja q0 q1 q2 t)
theorem NA (L:LP) (QD:D->Prop) (t:ae) (q0 q1 q2:Int)  (h:L (ai 8 38) ⟨[dU,ck,cA,kj,(132,((bool false),[]))],[(e8 q0 q1 q2),cQ,(kp t),(ti t),(ey t)],[]⟩):cB kI 8 eR L (bL QD) 26 (xa t q0 q1 q2 ):=km h
def xz (t:ae) (q0 q1 q2:Int)  : VS:=(Ja q0 q1 q2 t)
theorem Ow (L:LP) (QD:D->Prop) (t:ae) (q0 q1 q2:Int)  (h:L (ai 8 38) ⟨[dU,ck,cA,kj,(141,((bool false),[]))],[(e8 q0 q1 q2),cQ,(kp t),(ti t),(ey t)],[]⟩):cB kI 8 eR L (bL QD) 29 (xz t q0 q1 q2 ):=km h
def wX (t:ae) (q0 q1 q2:Int)  : VS:=(Ja q0 q1 q2 t)
theorem Oo (L:LP) (QD:D->Prop) (t:ae) (q0 q1 q2:Int)  (h:L (ai 8 38) ⟨[dU,ck,cA,kj,(162,((bool false),[]))],[(e8 q0 q1 q2),cQ,(kp t),(ti t),(ey t)],[]⟩):cB kI 8 eR L (bL QD) 32 (wX t q0 q1 q2 ):=km h
theorem Xu (t:ae) (q0 q1 q2:Int) (k e:Nat) (he:e<t.aa.n) (h0:0<(t.aa.get e).frames.n) (hv:((t.aa.get e).frames.get 0).vars.n<=1000):af 8 0 (bF (a7 (ui t e q2))) (ai 8 29) (DW t q0 q1 q2 k e):=by
 refine aR (X:=kI) (stop:=eR) (Us _ _ t q0 q1 q2 k e ?_)
 refine af.open 3 0 rfl rfl trivial (af.focus 5 0 rfl h0 (af.open 5 2 rfl rfl trivial ?_))
 exact af.lr (Ci t q0 q1 q2 e) (Yz t q0 q1 q2 e he h0 hv)
theorem Yn (t:ae) (q0 q1 q2:Int) (k e:Nat) (he:e<t.aa.n) (ho:(t.aa.get e).ax.n<=1000):af 8 0 (bF (a7 (yD t e q2))) (ai 8 32) (Ck t q0 q1 q2 k e):=by
 refine aR (X:=kI) (stop:=eR) (Vb _ _ t q0 q1 q2 k e ?_)
 refine af.open 3 1 rfl rfl trivial ?_
 exact af.lr (BV t q0 q1 q2 e) (YX t q0 q1 q2 e he ho)
theorem UU (t:ae) (q0 q1 q2:Int):af 8 0 (bF (a7 t)) (ai 8 26) (xa t q0 q1 q2):=by
 refine aR (X:=kI) (stop:=eR) (NA _ _ t q0 q1 q2 ?_)
 exact af.lr (dQ (t) q0 q1 q2 t.ins.n (gX (t))) (ep (t) q0 q1 q2 t.ins.n (gX (t)) (iC (t)))
theorem VX (t:ae) (q0 q1 q2:Int):af 8 0 (bF (a7 t)) (ai 8 29) (xz t q0 q1 q2):=by
 refine aR (X:=kI) (stop:=eR) (Ow _ _ t q0 q1 q2 ?_)
 exact af.lr (dQ (t) q0 q1 q2 t.ins.n (gX (t))) (ep (t) q0 q1 q2 t.ins.n (gX (t)) (iC (t)))
theorem Vj (t:ae) (q0 q1 q2:Int):af 8 0 (bF (a7 t)) (ai 8 32) (wX t q0 q1 q2):=by
 refine aR (X:=kI) (stop:=eR) (Oo _ _ t q0 q1 q2 ?_)
 exact af.lr (dQ (t) q0 q1 q2 t.ins.n (gX (t))) (ep (t) q0 q1 q2 t.ins.n (gX (t)) (iC (t)))
theorem og {t:ae} {e:Nat}:aO (DX t e (GQ (t.aa.get e))) (rM t.aa):=aO.Il ⟨aW.refl _,aW.refl _,aW.aE _,trivial⟩
theorem ov {t:ae} {k:Nat}:aO (SN t k (foI (t.ins.get k))) (kg t.ins):=aO.Il ⟨aW.aE _,aW.aE _,aW.aE _,aW.aE _,aW.aE _,aW.refl _,aW.aE _,aW.aE _,aW.aE _,aW.refl _,aW.aE _,aW.aE _,aW.aE _,aW.aE _,trivial⟩
theorem ai2 (t:ae) (q0 q1 q2:Int) (hS:bj t) (hn:0<t.ins.n) (hF:∀ e,e<t.aa.n->0<(t.aa.get e).frames.n) (k:Nat) (hk:k<t.ins.n) (pe:k=bI t q1) (e:Nat) (he:e<t.aa.n) (heq:e=bE t q1) (hE:decide ((t.aa.n:Int)>0)=true):af 8 0 (bF (a7 (bO t q0 q1 q2))) (ai 8 6) (GY t q0 q1 q2 k e):=by
 refine aR (X:=kI) (stop:=eR) (ZW _ _ t q0 q1 q2 k e ?_)
 refine ⟨jP _ _ (by omega),?_⟩
 refine aq (λh0=>?_) (λh0=>?_)
 .have q:bO t q0 q1 q2=TQ t k q2:=by (first|rw [pe]|rw [heq]|skip); simp only [bO,h0,cond_true,cond_false]
  rw [q]
  exact af.lr (DZ t q0 q1 q2 k (DX t e (GQ (t.aa.get e)))) (Wr t q0 q1 q2 k _ hk og)
 .refine aq (λh1=>?_) (λh1=>?_)
  .have q:bO t q0 q1 q2=VQ t k q2:=by (first|rw [pe]|rw [heq]|skip); simp only [bO,h0,h1,cond_true,cond_false]
   rw [q]
   exact af.lr (v8 t q0 q1 q2 k (DX t e (GQ (t.aa.get e)))) (MQ t q0 q1 q2 k _ hk og)
  .refine aq (λh2=>?_) (λh2=>?_)
   .have q:bO t q0 q1 q2=T7 t k q2:=by (first|rw [pe]|rw [heq]|skip); simp only [bO,h0,h1,h2,cond_true,cond_false]
    rw [q]
    exact af.lr (wN t q0 q1 q2 k (DX t e (GQ (t.aa.get e)))) (Qn t q0 q1 q2 k _ hk og)
   .refine aq (λh3=>?_) (λh3=>?_)
    .have q:bO t q0 q1 q2=SK t k q2:=by (first|rw [pe]|rw [heq]|skip); simp only [bO,h0,h1,h2,h3,cond_true,cond_false]
     rw [q]
     exact af.lr (wL t q0 q1 q2 k (DX t e (GQ (t.aa.get e)))) (Nf t q0 q1 q2 k _ hk og)
    .refine aq (λh4=>?_) (λh4=>?_)
     .have q:bO t q0 q1 q2=UY t k q2:=by (first|rw [pe]|rw [heq]|skip); simp only [bO,h0,h1,h2,h3,h4,cond_true,cond_false]
      rw [q]
      exact af.lr (wy t q0 q1 q2 k (DX t e (GQ (t.aa.get e)))) (Qc t q0 q1 q2 k _ hk og hS.aa)
     .refine aq (λh5=>?_) (λh5=>?_)
      .have q:bO t q0 q1 q2=TM t k q2:=by (first|rw [pe]|rw [heq]|skip); simp only [bO,h0,h1,h2,h3,h4,h5,cond_true,cond_false]
       rw [q]
       exact af.lr (wO t q0 q1 q2 k (DX t e (GQ (t.aa.get e)))) (RP t q0 q1 q2 k _ hk og)
      .refine aq (λh6=>?_) (λh6=>?_)
       .have q:bO t q0 q1 q2=Lr t k q2:=by (first|rw [pe]|rw [heq]|skip); simp only [bO,h0,h1,h2,h3,h4,h5,h6,cond_true,cond_false]
        rw [q]
        refine af.open 2 5 rfl rfl trivial ?_
        exact af.lr (we t q0 q1 q2 k (DX t e (GQ (t.aa.get e)))) (Rw t q0 q1 q2 k _ hk og (hS.args k hk))
       .refine aq (λh7=>?_) (λh7=>?_)
        .have q:bO t q0 q1 q2=SD t k q2:=by (first|rw [pe]|rw [heq]|skip); simp only [bO,h0,h1,h2,h3,h4,h5,h6,h7,cond_true,cond_false]
         rw [q]
         refine af.open 2 9 rfl rfl trivial ?_
         exact af.lr (wI t q0 q1 q2 k (DX t e (GQ (t.aa.get e)))) (NS t q0 q1 q2 k _ hk og (hS.names k hk))
        .refine aq (λh8=>?_) (λh8=>?_)
         .have q:bO t q0 q1 q2=LA t k q2:=by (first|rw [pe]|rw [heq]|skip); simp only [bO,h0,h1,h2,h3,h4,h5,h6,h7,h8,cond_true,cond_false]
          rw [q]
          exact af.lr (wC t q0 q1 q2 k (DX t e (GQ (t.aa.get e)))) (PY t q0 q1 q2 k _ hk og)
         .refine aq (λh9=>?_) (λh9=>?_)
          .have q:bO t q0 q1 q2=V8 t e q2:=by (first|rw [pe]|rw [heq]|skip); simp only [bO,h0,h1,h2,h3,h4,h5,h6,h7,h8,h9,cond_true,cond_false]; unfold SA; rw [hE]; rfl
           rw [q]
           exact af.lf (BO t q0 q1 q2 k e) (rc (rc (.cons (ov) (rc (rc .nil))))) (Z4 t q0 q1 q2 k e he)
          .refine aq (λqj=>?_) (λqj=>?_)
           .have q:bO t q0 q1 q2=ui t e q2:=by (first|rw [pe]|rw [heq]|skip); simp only [bO,h0,h1,h2,h3,h4,h5,h6,h7,h8,h9,qj,cond_true,cond_false]; unfold SA; rw [hE]; rfl
            rw [q]
            exact af.lf (DW t q0 q1 q2 k e) (rc (rc (.cons (ov) (rc (rc .nil))))) (Xu t q0 q1 q2 k e he (hF _ he) ((hS.ex e he).vars 0 (hF _ he)))
           .refine aq (λCn=>?_) (λCn=>?_)
            .have q:bO t q0 q1 q2=yD t e q2:=by (first|rw [pe]|rw [heq]|skip); simp only [bO,h0,h1,h2,h3,h4,h5,h6,h7,h8,h9,qj,Cn,cond_true,cond_false]; unfold SA; rw [hE]; rfl
             rw [q]
             exact af.lf (Ck t q0 q1 q2 k e) (rc (rc (.cons (ov) (rc (rc .nil))))) (Yn t q0 q1 q2 k e he (hS.ex e he).ax)
            .refine aq (λJE=>?_) (λJE=>?_)
             .have q:bO t q0 q1 q2=UT t q2:=by (first|rw [pe]|rw [heq]|skip); simp only [bO,h0,h1,h2,h3,h4,h5,h6,h7,h8,h9,qj,Cn,JE,cond_true,cond_false]
              rw [q]
              exact af.lf (wD t q0 q1 q2 (DX t e (GQ (t.aa.get e)))) (rc (rc (.cons (ov) (rc (rc .nil))))) (RI t q0 q1 q2 _ hn hS.ins og)
             .refine aq (λSp=>?_) (λSp=>?_)
              .have q:bO t q0 q1 q2=B0 t q2:=by (first|rw [pe]|rw [heq]|skip); simp only [bO,h0,h1,h2,h3,h4,h5,h6,h7,h8,h9,qj,Cn,JE,Sp,cond_true,cond_false]
               rw [q]
               exact af.lf (wF t q0 q1 q2 (DX t e (GQ (t.aa.get e)))) (rc (rc (.cons (ov) (rc (rc .nil))))) (O0 t q0 q1 q2 _ og)
              .have q:bO t q0 q1 q2=t:=by (first|rw [pe]|rw [heq]|skip); simp only [bO,h0,h1,h2,h3,h4,h5,h6,h7,h8,h9,qj,Cn,JE,Sp,cond_true,cond_false]
               rw [q]
               exact af.lf (dQ (t) q0 q1 q2 t.ins.n (gX (t))) (rc (rc (.cons (ov) (.cons (og) (rc .nil))))) (ep (t) q0 q1 q2 t.ins.n (gX (t)) (iC (t)))
theorem ZJ (t:ae) (q0 q1 q2:Int) (hS:bj t) (hn:0<t.ins.n) (hF:∀ e,e<t.aa.n->0<(t.aa.get e).frames.n) (k:Nat) (hk:k<t.ins.n) (pe:k=bI t q1) (hE:decide ((t.aa.n:Int)>0)=false):af 8 0 (bF (a7 (bO t q0 q1 q2))) (ai 8 6) (D4 t q0 q1 q2 k):=by
 refine aR (X:=kI) (stop:=eR) (Tu _ _ t q0 q1 q2 k ?_)
 refine ⟨jP _ _ (by omega),?_⟩
 refine aq (λh0=>?_) (λh0=>?_)
 .have q:bO t q0 q1 q2=TQ t k q2:=by (try rw [pe]); simp only [bO,h0,cond_true,cond_false]
  rw [q]
  exact af.lr (DZ t q0 q1 q2 k (rM t.aa)) (Wr t q0 q1 q2 k _ hk (aO.refl _))
 .refine aq (λh1=>?_) (λh1=>?_)
  .have q:bO t q0 q1 q2=VQ t k q2:=by (try rw [pe]); simp only [bO,h0,h1,cond_true,cond_false]
   rw [q]
   exact af.lr (v8 t q0 q1 q2 k (rM t.aa)) (MQ t q0 q1 q2 k _ hk (aO.refl _))
  .refine aq (λh2=>?_) (λh2=>?_)
   .have q:bO t q0 q1 q2=T7 t k q2:=by (try rw [pe]); simp only [bO,h0,h1,h2,cond_true,cond_false]
    rw [q]
    exact af.lr (wN t q0 q1 q2 k (rM t.aa)) (Qn t q0 q1 q2 k _ hk (aO.refl _))
   .refine aq (λh3=>?_) (λh3=>?_)
    .have q:bO t q0 q1 q2=SK t k q2:=by (try rw [pe]); simp only [bO,h0,h1,h2,h3,cond_true,cond_false]
     rw [q]
     exact af.lr (wL t q0 q1 q2 k (rM t.aa)) (Nf t q0 q1 q2 k _ hk (aO.refl _))
    .refine aq (λh4=>?_) (λh4=>?_)
     .have q:bO t q0 q1 q2=UY t k q2:=by (try rw [pe]); simp only [bO,h0,h1,h2,h3,h4,cond_true,cond_false]
      rw [q]
      exact af.lr (wy t q0 q1 q2 k (rM t.aa)) (Qc t q0 q1 q2 k _ hk (aO.refl _) hS.aa)
     .refine aq (λh5=>?_) (λh5=>?_)
      .have q:bO t q0 q1 q2=TM t k q2:=by (try rw [pe]); simp only [bO,h0,h1,h2,h3,h4,h5,cond_true,cond_false]
       rw [q]
       exact af.lr (wO t q0 q1 q2 k (rM t.aa)) (RP t q0 q1 q2 k _ hk (aO.refl _))
      .refine aq (λh6=>?_) (λh6=>?_)
       .have q:bO t q0 q1 q2=Lr t k q2:=by (try rw [pe]); simp only [bO,h0,h1,h2,h3,h4,h5,h6,cond_true,cond_false]
        rw [q]
        refine af.open 2 5 rfl rfl trivial ?_
        exact af.lr (we t q0 q1 q2 k (rM t.aa)) (Rw t q0 q1 q2 k _ hk (aO.refl _) (hS.args k hk))
       .refine aq (λh7=>?_) (λh7=>?_)
        .have q:bO t q0 q1 q2=SD t k q2:=by (try rw [pe]); simp only [bO,h0,h1,h2,h3,h4,h5,h6,h7,cond_true,cond_false]
         rw [q]
         refine af.open 2 9 rfl rfl trivial ?_
         exact af.lr (wI t q0 q1 q2 k (rM t.aa)) (NS t q0 q1 q2 k _ hk (aO.refl _) (hS.names k hk))
        .refine aq (λh8=>?_) (λh8=>?_)
         .have q:bO t q0 q1 q2=LA t k q2:=by (try rw [pe]); simp only [bO,h0,h1,h2,h3,h4,h5,h6,h7,h8,cond_true,cond_false]
          rw [q]
          exact af.lr (wC t q0 q1 q2 k (rM t.aa)) (PY t q0 q1 q2 k _ hk (aO.refl _))
         .refine aq (λh9=>?_) (λh9=>?_)
          .have q:bO t q0 q1 q2=t:=by (try rw [pe]); simp only [bO,h0,h1,h2,h3,h4,h5,h6,h7,h8,h9,cond_true,cond_false]; unfold SA; rw [hE]; rfl
           rw [q]
           exact af.lf (xa t q0 q1 q2) (rc (rc (.cons (ov) (rc (rc .nil))))) (UU t q0 q1 q2)
          .refine aq (λqj=>?_) (λqj=>?_)
           .have q:bO t q0 q1 q2=t:=by (try rw [pe]); simp only [bO,h0,h1,h2,h3,h4,h5,h6,h7,h8,h9,qj,cond_true,cond_false]; unfold SA; rw [hE]; rfl
            rw [q]
            exact af.lf (xz t q0 q1 q2) (rc (rc (.cons (ov) (rc (rc .nil))))) (VX t q0 q1 q2)
           .refine aq (λCn=>?_) (λCn=>?_)
            .have q:bO t q0 q1 q2=t:=by (try rw [pe]); simp only [bO,h0,h1,h2,h3,h4,h5,h6,h7,h8,h9,qj,Cn,cond_true,cond_false]; unfold SA; rw [hE]; rfl
             rw [q]
             exact af.lf (wX t q0 q1 q2) (rc (rc (.cons (ov) (rc (rc .nil))))) (Vj t q0 q1 q2)
            .refine aq (λJE=>?_) (λJE=>?_)
             .have q:bO t q0 q1 q2=UT t q2:=by (try rw [pe]); simp only [bO,h0,h1,h2,h3,h4,h5,h6,h7,h8,h9,qj,Cn,JE,cond_true,cond_false]
              rw [q]
              exact af.lf (wD t q0 q1 q2 (rM t.aa)) (rc (rc (.cons (ov) (rc (rc .nil))))) (RI t q0 q1 q2 _ hn hS.ins (aO.refl _))
             .refine aq (λSp=>?_) (λSp=>?_)
              .have q:bO t q0 q1 q2=B0 t q2:=by (try rw [pe]); simp only [bO,h0,h1,h2,h3,h4,h5,h6,h7,h8,h9,qj,Cn,JE,Sp,cond_true,cond_false]
               rw [q]
               exact af.lf (wF t q0 q1 q2 (rM t.aa)) (rc (rc (.cons (ov) (rc (rc .nil))))) (O0 t q0 q1 q2 _ (aO.refl _))
              .have q:bO t q0 q1 q2=t:=by (try rw [pe]); simp only [bO,h0,h1,h2,h3,h4,h5,h6,h7,h8,h9,qj,Cn,JE,Sp,cond_true,cond_false]
               rw [q]
               exact af.lf (dQ (t) q0 q1 q2 t.ins.n (gX (t))) (rc (rc (.cons (ov) (rc (rc .nil))))) (ep (t) q0 q1 q2 t.ins.n (gX (t)) (iC (t)))
theorem ar2 (t:ae) (q0 q1 q2:Int) (hS:bj t) (hn:0<t.ins.n) (hF:∀ e,e<t.aa.n->0<(t.aa.get e).frames.n):af 8 0 (bF (a7 (bO t q0 q1 q2))) (ai 8 2) (Qd t q0 q1 q2):=by
 have hN:=hS.ins
 have hM:=hS.aa
 have hk:bI t q1<t.ins.n:=(nZ q1 t.ins.n hn (by omega)).2.2
 refine aR (X:=kI) (stop:=eR) (Xx _ _ t q0 q1 q2 ?_)
 refine ⟨jP _ _ (by omega),aC (nZ q1 t.ins.n hn (by omega)).1 (aq (λh=>?_) (λh=>?_))⟩
 .have hp:0<t.aa.n:=by have:=of_decide_eq_true h; omega
  have he:bE t q1<t.aa.n:=(nZ q1 t.aa.n hp (by omega)).2.2
  refine ⟨jP _ _ (by omega),aC (nZ q1 t.aa.n hp (by omega)).1 ?_⟩
  refine af.focus 3 (bI t q1) rfl hk (af.focus 4 (bE t q1) rfl he ?_)
  exact af.rename [1,2,3,4,5] rfl (af.lr (GY t q0 q1 q2 (bI t q1) (bE t q1)) (ai2 t q0 q1 q2 hS hn hF _ hk rfl _ he rfl h))
 .refine af.focus 3 (bI t q1) rfl hk ?_
  exact af.rename [1,2,3,4,5] rfl (af.lr (D4 t q0 q1 q2 (bI t q1)) (ZJ t q0 q1 q2 hS hn hF _ hk rfl h))
theorem an0 (t:ae) (q0 q1 q2:Int) (hS:bj t) (hn:0<t.ins.n) (hF:∀ e,e<t.aa.n->0<(t.aa.get e).frames.n):LC 8 [a7 t,.a [ci q0,ci q1,ci q2]] [] (a7 (bO t q0 q1 q2)) []:=
 pv (X:=kI) (stop:=eR) aK9 (ay0 _ _ t q0 q1 q2 ⟨bP.jS (ae4 t hS) [] _ rfl rfl,ar2 t q0 q1 q2 hS hn hF⟩)
open Go Go.V
section
def XR:fN:={ F:=vh }
def sw (a b v:Int):Int:=bif v==a then b else v
def pY (m:Nat) (a b:Int) (x:aj):aj:={ x with a:=bif Nat.ble 1 m then sw a b x.a else x.a,b:=bif Nat.ble 2 m then sw a b x.b else x.b,c:=bif Nat.ble 3 m then sw a b x.c else x.c }
def H9 (s:Sq Int) (j:Nat) (v:Int):Sq Int:=⟨s.n,λi=>bif Nat.beq i j then v else s.get i⟩
def oD (a b:Int) (s:Sq Int) (k:Nat):Sq Int:=⟨s.n,λi=>bif Nat.blt i k then sw a b (s.get i) else s.get i⟩
def P6 (s1:Sq Int):fN:={ F:=ext vh [(75,λ_ _=>(.t [],[(0,mz s1)],[]))],S:=zn }
def bx (v:Int):ag:=.box [.im (iI v)]
def wB (n k:Nat) (g:Nat->Nat->O) (x:aj):ag:=.bt 56 14 n g (some (k,iY (bD x) 14 0))
def foV (n k:Nat) (g:Nat->Nat->O) (x:cG):ag:=.bt 77 4 n g (some (k,iY (fE x) 4 0))
end
def oA:Nat->Bool:=cE
theorem AJ:Fn 75:={}
theorem UG (L:LP) (QE:D->List ag->Prop) (n k:Nat) (g:Nat->Nat->O) (x:aj) (a b:Int) (h:QE (.t []) [(.row 122 1 3 [(.rt 3 k 1),(.rt 3 k 2),(.rt 3 k 3)]),(.box [(ci a)]),(.box [(ci b)]),(.bt 56 14 n (g) (.some (k,[(.c (ci x.1)),(.c (ci x.2)),(.c (ci x.3)),(.c (ci x.4)),(.c (ci x.5)),(.o (.ar 3 1 x.6.1 (λi=>bA (x.6.2 i)))),(.c (ci x.7.1)),(.c (ci x.7.2)),(.c (.im (.v (.string x.7.3)))),(.c (.im (.sl 1 x.8.1 (λi=>cw (x.8.2 i))))),(.c (ci x.9.1)),(.c (ci x.9.2)),(.c (ci x.10)),(.c (.im (.v (.bool x.11))))])))]):fx XR 75 oA L QE [.c (.sa 0 0),.c (.rt 1 0 0),.c (.rt 2 0 0)] [.row 122 1 3 [.rt 3 k 1,.rt 3 k 2,.rt 3 k 3],bx a,bx b,wB n k g x]:=km h
theorem O3 {i k:Nat} (h:i≠k):Nat.beq i k=false:=by
 cases hb:Nat.beq i k with
 | false=>rfl
 | true=>exact (h (Nat.eq_of_beq_eq_true hb)).elim
theorem Ua (s:Sq Int) (j:Nat) (v:Int):∀ i,i<s.n->∀ c,c<1->cH (IZ (λi=>bA (s.get i)) j 0 [iI v] i c) (bA ((H9 s j v).get i) c):=by
 intro i _ c hc
 have hc:c=0:=by omega
 subst hc
 show cH (Bool.rec (bA (s.get i) 0) (iI v) (Nat.beq i j&&_)) (bA (bif Nat.beq i j then v else s.get i) 0)
 cases Nat.beq i j with
 | true=>exact cH.refl _
 | false=>exact cH.refl _
theorem M9 (s:Sq Int) (j:Nat) (v:Int) (h:v=s.get j):∀ i,i<s.n->∀ c,c<1->cH (bA (s.get i) c) (bA ((H9 s j v).get i) c):=by
 intro i _ c hc
 show cH (bA (s.get i) c) (bA (bif Nat.beq i j then v else s.get i) c)
 cases hb:Nat.beq i j with
 | true=>
   have:=Nat.eq_of_beq_eq_true hb
   subst this
   rw [h]
   exact cH.refl _
 | false=>exact cH.refl _
theorem nW {a b v:Int} (h:(v==a)=true):sw a b v=b:=by unfold sw; rw [h]; rfl
theorem nJ {a b v:Int} (h:(v==a)=false):sw a b v=v:=by unfold sw; rw [h]; rfl
theorem Qq (n k:Nat) (g:Nat->Nat->O) (x:aj) (a b:Int) (hk:k<n):LC 75 [.c (.sa 0 0),.c (.rt 1 0 0),.c (.rt 2 0 0)] [.row 122 1 3 [.rt 3 k 1,.rt 3 k 2,.rt 3 k 3],bx a,bx b,wB n k g x] (.t []) [.row 122 1 3 [.rt 3 k 1,.rt 3 k 2,.rt 3 k 3],bx a,bx b,wB n k g (pY 0 a b x)]:=by
 refine cV AJ (aQ (by kernel_rfl)) (dc (X:=XR) (stop:=oA) (UG _ _ n k g x a b ?_))
 have e:pY 0 a b x=⟨x.op,x.a,x.b,x.c,x.n,x.args,x.k,x.names,x.place,x.exit,x.once⟩:=by show (⟨x.op,x.a,x.b,x.c,x.n,x.args,x.k,x.names,x.place,x.exit,x.once⟩:aj)=_; rfl
 exact ⟨[0,1,2,3],.t [],_,_,rfl,(rc (rc (rc (.cons (by rw [e]; exact aO.refl _) .nil)))),⟨4,aQ rfl,aQ rfl,rfl,rfl,bh.refl _,⟨.inl (.inl rfl),⟨.inl (.inl rfl),⟨.inl (.inl rfl),⟨.inr rfl,trivial⟩⟩⟩⟩⟩⟩
theorem SP (L:LP) (QE:D->List ag->Prop) (n k:Nat) (g:Nat->Nat->O) (x:aj) (a b:Int) (h:nd (k.blt n) (nd (k.beq k) (br (x.2==a) (nd (k.beq k) (QE (.t []) [(.row 122 1 3 [(.rt 3 k 1),(.rt 3 k 2),(.rt 3 k 3)]),(.box [(ci a)]),(.box [(ci b)]),(.bt 56 14 n (g) (.some (k,[(.c (ci x.1)),(.c (ci b)),(.c (ci x.3)),(.c (ci x.4)),(.c (ci x.5)),(.o (.ar 3 1 x.6.1 (λi=>bA (x.6.2 i)))),(.c (ci x.7.1)),(.c (ci x.7.2)),(.c (.im (.v (.string x.7.3)))),(.c (.im (.sl 1 x.8.1 (λi=>cw (x.8.2 i))))),(.c (ci x.9.1)),(.c (ci x.9.2)),(.c (ci x.10)),(.c (.im (.v (.bool x.11))))])))])) (QE (.t []) [(.row 122 1 3 [(.rt 3 k 1),(.rt 3 k 2),(.rt 3 k 3)]),(.box [(ci a)]),(.box [(ci b)]),(.bt 56 14 n (g) (.some (k,[(.c (ci x.1)),(.c (ci x.2)),(.c (ci x.3)),(.c (ci x.4)),(.c (ci x.5)),(.o (.ar 3 1 x.6.1 (λi=>bA (x.6.2 i)))),(.c (ci x.7.1)),(.c (ci x.7.2)),(.c (.im (.v (.string x.7.3)))),(.c (.im (.sl 1 x.8.1 (λi=>cw (x.8.2 i))))),(.c (ci x.9.1)),(.c (ci x.9.2)),(.c (ci x.10)),(.c (.im (.v (.bool x.11))))])))])))):fx XR 75 oA L QE [.c (.sa 0 1),.c (.rt 1 0 0),.c (.rt 2 0 0)] [.row 122 1 3 [.rt 3 k 1,.rt 3 k 2,.rt 3 k 3],bx a,bx b,wB n k g x]:=km h
theorem cf {c:Bool} {p:Prop} (k:p) (h:c=true:=by first|exact dP hk|exact dq _):nd c p:=aC h k
theorem Q9 (n k:Nat) (g:Nat->Nat->O) (x:aj) (a b:Int) (hk:k<n):LC 75 [.c (.sa 0 1),.c (.rt 1 0 0),.c (.rt 2 0 0)] [.row 122 1 3 [.rt 3 k 1,.rt 3 k 2,.rt 3 k 3],bx a,bx b,wB n k g x] (.t []) [.row 122 1 3 [.rt 3 k 1,.rt 3 k 2,.rt 3 k 3],bx a,bx b,wB n k g (pY 1 a b x)]:=by
 refine cV AJ (aQ (by kernel_rfl)) (dc (X:=XR) (stop:=oA) (SP _ _ n k g x a b ?_))
 refine cf ?_
 refine cf ?_
 refine aq (λh0=>?_) (λh0=>?_)
 .refine cf ?_
  have e:pY 1 a b x=⟨x.op,b,x.b,x.c,x.n,x.args,x.k,x.names,x.place,x.exit,x.once⟩:=by show (⟨x.op,sw a b x.a,x.b,x.c,x.n,x.args,x.k,x.names,x.place,x.exit,x.once⟩:aj)=_; rw [nW (show (x.a==a)=true from h0)]; try rfl
  exact ⟨[0,1,2,3],.t [],_,_,rfl,(rc (rc (rc (.cons (by rw [e]; exact aO.refl _) .nil)))),⟨4,aQ rfl,aQ rfl,rfl,rfl,bh.refl _,⟨.inl (.inl rfl),⟨.inl (.inl rfl),⟨.inl (.inl rfl),⟨.inr rfl,trivial⟩⟩⟩⟩⟩⟩
 .have e:pY 1 a b x=⟨x.op,x.a,x.b,x.c,x.n,x.args,x.k,x.names,x.place,x.exit,x.once⟩:=by show (⟨x.op,sw a b x.a,x.b,x.c,x.n,x.args,x.k,x.names,x.place,x.exit,x.once⟩:aj)=_; rw [nJ (show (x.a==a)=false from h0)]; try rfl
  exact ⟨[0,1,2,3],.t [],_,_,rfl,(rc (rc (rc (.cons (by rw [e]; exact aO.refl _) .nil)))),⟨4,aQ rfl,aQ rfl,rfl,rfl,bh.refl _,⟨.inl (.inl rfl),⟨.inl (.inl rfl),⟨.inl (.inl rfl),⟨.inr rfl,trivial⟩⟩⟩⟩⟩⟩
theorem UN (L:LP) (QE:D->List ag->Prop) (n k:Nat) (g:Nat->Nat->O) (x:aj) (a b:Int) (h:nd (k.blt n) (nd (k.beq k) (br (x.2==a) (nd (k.beq k) (nd (k.blt n) (nd (k.beq k) (br (x.3==a) (nd (k.beq k) (QE (.t []) [(.row 122 1 3 [(.rt 3 k 1),(.rt 3 k 2),(.rt 3 k 3)]),(.box [(ci a)]),(.box [(ci b)]),(.bt 56 14 n (g) (.some (k,[(.c (ci x.1)),(.c (ci b)),(.c (ci b)),(.c (ci x.4)),(.c (ci x.5)),(.o (.ar 3 1 x.6.1 (λi=>bA (x.6.2 i)))),(.c (ci x.7.1)),(.c (ci x.7.2)),(.c (.im (.v (.string x.7.3)))),(.c (.im (.sl 1 x.8.1 (λi=>cw (x.8.2 i))))),(.c (ci x.9.1)),(.c (ci x.9.2)),(.c (ci x.10)),(.c (.im (.v (.bool x.11))))])))])) (QE (.t []) [(.row 122 1 3 [(.rt 3 k 1),(.rt 3 k 2),(.rt 3 k 3)]),(.box [(ci a)]),(.box [(ci b)]),(.bt 56 14 n (g) (.some (k,[(.c (ci x.1)),(.c (ci b)),(.c (ci x.3)),(.c (ci x.4)),(.c (ci x.5)),(.o (.ar 3 1 x.6.1 (λi=>bA (x.6.2 i)))),(.c (ci x.7.1)),(.c (ci x.7.2)),(.c (.im (.v (.string x.7.3)))),(.c (.im (.sl 1 x.8.1 (λi=>cw (x.8.2 i))))),(.c (ci x.9.1)),(.c (ci x.9.2)),(.c (ci x.10)),(.c (.im (.v (.bool x.11))))])))]))))) (nd (k.blt n) (nd (k.beq k) (br (x.3==a) (nd (k.beq k) (QE (.t []) [(.row 122 1 3 [(.rt 3 k 1),(.rt 3 k 2),(.rt 3 k 3)]),(.box [(ci a)]),(.box [(ci b)]),(.bt 56 14 n (g) (.some (k,[(.c (ci x.1)),(.c (ci x.2)),(.c (ci b)),(.c (ci x.4)),(.c (ci x.5)),(.o (.ar 3 1 x.6.1 (λi=>bA (x.6.2 i)))),(.c (ci x.7.1)),(.c (ci x.7.2)),(.c (.im (.v (.string x.7.3)))),(.c (.im (.sl 1 x.8.1 (λi=>cw (x.8.2 i))))),(.c (ci x.9.1)),(.c (ci x.9.2)),(.c (ci x.10)),(.c (.im (.v (.bool x.11))))])))])) (QE (.t []) [(.row 122 1 3 [(.rt 3 k 1),(.rt 3 k 2),(.rt 3 k 3)]),(.box [(ci a)]),(.box [(ci b)]),(.bt 56 14 n (g) (.some (k,[(.c (ci x.1)),(.c (ci x.2)),(.c (ci x.3)),(.c (ci x.4)),(.c (ci x.5)),(.o (.ar 3 1 x.6.1 (λi=>bA (x.6.2 i)))),(.c (ci x.7.1)),(.c (ci x.7.2)),(.c (.im (.v (.string x.7.3)))),(.c (.im (.sl 1 x.8.1 (λi=>cw (x.8.2 i))))),(.c (ci x.9.1)),(.c (ci x.9.2)),(.c (ci x.10)),(.c (.im (.v (.bool x.11))))])))]))))))):fx XR 75 oA L QE [.c (.sa 0 2),.c (.rt 1 0 0),.c (.rt 2 0 0)] [.row 122 1 3 [.rt 3 k 1,.rt 3 k 2,.rt 3 k 3],bx a,bx b,wB n k g x]:=km h
theorem O8 (n k:Nat) (g:Nat->Nat->O) (x:aj) (a b:Int) (hk:k<n):LC 75 [.c (.sa 0 2),.c (.rt 1 0 0),.c (.rt 2 0 0)] [.row 122 1 3 [.rt 3 k 1,.rt 3 k 2,.rt 3 k 3],bx a,bx b,wB n k g x] (.t []) [.row 122 1 3 [.rt 3 k 1,.rt 3 k 2,.rt 3 k 3],bx a,bx b,wB n k g (pY 2 a b x)]:=by
 refine cV AJ (aQ (by kernel_rfl)) (dc (X:=XR) (stop:=oA) (UN _ _ n k g x a b ?_))
 refine cf ?_
 refine cf ?_
 refine aq (λh0=>?_) (λh0=>?_)
 .refine cf ?_
  refine cf ?_
  refine cf ?_
  refine aq (λh1=>?_) (λh1=>?_)
  .refine cf ?_
   have e:pY 2 a b x=⟨x.op,b,b,x.c,x.n,x.args,x.k,x.names,x.place,x.exit,x.once⟩:=by show (⟨x.op,sw a b x.a,sw a b x.b,x.c,x.n,x.args,x.k,x.names,x.place,x.exit,x.once⟩:aj)=_; rw [nW (show (x.a==a)=true from h0),nW (show (x.b==a)=true from h1)]; try rfl
   exact ⟨[0,1,2,3],.t [],_,_,rfl,(rc (rc (rc (.cons (by rw [e]; exact aO.refl _) .nil)))),⟨4,aQ rfl,aQ rfl,rfl,rfl,bh.refl _,⟨.inl (.inl rfl),⟨.inl (.inl rfl),⟨.inl (.inl rfl),⟨.inr rfl,trivial⟩⟩⟩⟩⟩⟩
  .have e:pY 2 a b x=⟨x.op,b,x.b,x.c,x.n,x.args,x.k,x.names,x.place,x.exit,x.once⟩:=by show (⟨x.op,sw a b x.a,sw a b x.b,x.c,x.n,x.args,x.k,x.names,x.place,x.exit,x.once⟩:aj)=_; rw [nW (show (x.a==a)=true from h0),nJ (show (x.b==a)=false from h1)]; try rfl
   exact ⟨[0,1,2,3],.t [],_,_,rfl,(rc (rc (rc (.cons (by rw [e]; exact aO.refl _) .nil)))),⟨4,aQ rfl,aQ rfl,rfl,rfl,bh.refl _,⟨.inl (.inl rfl),⟨.inl (.inl rfl),⟨.inl (.inl rfl),⟨.inr rfl,trivial⟩⟩⟩⟩⟩⟩
 .refine cf ?_
  refine cf ?_
  refine aq (λh1=>?_) (λh1=>?_)
  .refine cf ?_
   have e:pY 2 a b x=⟨x.op,x.a,b,x.c,x.n,x.args,x.k,x.names,x.place,x.exit,x.once⟩:=by show (⟨x.op,sw a b x.a,sw a b x.b,x.c,x.n,x.args,x.k,x.names,x.place,x.exit,x.once⟩:aj)=_; rw [nJ (show (x.a==a)=false from h0),nW (show (x.b==a)=true from h1)]; try rfl
   exact ⟨[0,1,2,3],.t [],_,_,rfl,(rc (rc (rc (.cons (by rw [e]; exact aO.refl _) .nil)))),⟨4,aQ rfl,aQ rfl,rfl,rfl,bh.refl _,⟨.inl (.inl rfl),⟨.inl (.inl rfl),⟨.inl (.inl rfl),⟨.inr rfl,trivial⟩⟩⟩⟩⟩⟩
  .have e:pY 2 a b x=⟨x.op,x.a,x.b,x.c,x.n,x.args,x.k,x.names,x.place,x.exit,x.once⟩:=by show (⟨x.op,sw a b x.a,sw a b x.b,x.c,x.n,x.args,x.k,x.names,x.place,x.exit,x.once⟩:aj)=_; rw [nJ (show (x.a==a)=false from h0),nJ (show (x.b==a)=false from h1)]; try rfl
   exact ⟨[0,1,2,3],.t [],_,_,rfl,(rc (rc (rc (.cons (by rw [e]; exact aO.refl _) .nil)))),⟨4,aQ rfl,aQ rfl,rfl,rfl,bh.refl _,⟨.inl (.inl rfl),⟨.inl (.inl rfl),⟨.inl (.inl rfl),⟨.inr rfl,trivial⟩⟩⟩⟩⟩⟩
theorem Tt (L:LP) (QE:D->List ag->Prop) (n k:Nat) (g:Nat->Nat->O) (x:aj) (a b:Int) (h:nd (k.blt n) (nd (k.beq k) (br (x.2==a) (nd (k.beq k) (nd (k.blt n) (nd (k.beq k) (br (x.3==a) (nd (k.beq k) (nd (k.blt n) (nd (k.beq k) (br (x.4==a) (nd (k.beq k) (QE (.t []) [(.row 122 1 3 [(.rt 3 k 1),(.rt 3 k 2),(.rt 3 k 3)]),(.box [(ci a)]),(.box [(ci b)]),(.bt 56 14 n (g) (.some (k,[(.c (ci x.1)),(.c (ci b)),(.c (ci b)),(.c (ci b)),(.c (ci x.5)),(.o (.ar 3 1 x.6.1 (λi=>bA (x.6.2 i)))),(.c (ci x.7.1)),(.c (ci x.7.2)),(.c (.im (.v (.string x.7.3)))),(.c (.im (.sl 1 x.8.1 (λi=>cw (x.8.2 i))))),(.c (ci x.9.1)),(.c (ci x.9.2)),(.c (ci x.10)),(.c (.im (.v (.bool x.11))))])))])) (QE (.t []) [(.row 122 1 3 [(.rt 3 k 1),(.rt 3 k 2),(.rt 3 k 3)]),(.box [(ci a)]),(.box [(ci b)]),(.bt 56 14 n (g) (.some (k,[(.c (ci x.1)),(.c (ci b)),(.c (ci b)),(.c (ci x.4)),(.c (ci x.5)),(.o (.ar 3 1 x.6.1 (λi=>bA (x.6.2 i)))),(.c (ci x.7.1)),(.c (ci x.7.2)),(.c (.im (.v (.string x.7.3)))),(.c (.im (.sl 1 x.8.1 (λi=>cw (x.8.2 i))))),(.c (ci x.9.1)),(.c (ci x.9.2)),(.c (ci x.10)),(.c (.im (.v (.bool x.11))))])))]))))) (nd (k.blt n) (nd (k.beq k) (br (x.4==a) (nd (k.beq k) (QE (.t []) [(.row 122 1 3 [(.rt 3 k 1),(.rt 3 k 2),(.rt 3 k 3)]),(.box [(ci a)]),(.box [(ci b)]),(.bt 56 14 n (g) (.some (k,[(.c (ci x.1)),(.c (ci b)),(.c (ci x.3)),(.c (ci b)),(.c (ci x.5)),(.o (.ar 3 1 x.6.1 (λi=>bA (x.6.2 i)))),(.c (ci x.7.1)),(.c (ci x.7.2)),(.c (.im (.v (.string x.7.3)))),(.c (.im (.sl 1 x.8.1 (λi=>cw (x.8.2 i))))),(.c (ci x.9.1)),(.c (ci x.9.2)),(.c (ci x.10)),(.c (.im (.v (.bool x.11))))])))])) (QE (.t []) [(.row 122 1 3 [(.rt 3 k 1),(.rt 3 k 2),(.rt 3 k 3)]),(.box [(ci a)]),(.box [(ci b)]),(.bt 56 14 n (g) (.some (k,[(.c (ci x.1)),(.c (ci b)),(.c (ci x.3)),(.c (ci x.4)),(.c (ci x.5)),(.o (.ar 3 1 x.6.1 (λi=>bA (x.6.2 i)))),(.c (ci x.7.1)),(.c (ci x.7.2)),(.c (.im (.v (.string x.7.3)))),(.c (.im (.sl 1 x.8.1 (λi=>cw (x.8.2 i))))),(.c (ci x.9.1)),(.c (ci x.9.2)),(.c (ci x.10)),(.c (.im (.v (.bool x.11))))])))])))))))) (nd (k.blt n) (nd (k.beq k) (br (x.3==a) (nd (k.beq k) (nd (k.blt n) (nd (k.beq k) (br (x.4==a) (nd (k.beq k) (QE (.t []) [(.row 122 1 3 [(.rt 3 k 1),(.rt 3 k 2),(.rt 3 k 3)]),(.box [(ci a)]),(.box [(ci b)]),(.bt 56 14 n (g) (.some (k,[(.c (ci x.1)),(.c (ci x.2)),(.c (ci b)),(.c (ci b)),(.c (ci x.5)),(.o (.ar 3 1 x.6.1 (λi=>bA (x.6.2 i)))),(.c (ci x.7.1)),(.c (ci x.7.2)),(.c (.im (.v (.string x.7.3)))),(.c (.im (.sl 1 x.8.1 (λi=>cw (x.8.2 i))))),(.c (ci x.9.1)),(.c (ci x.9.2)),(.c (ci x.10)),(.c (.im (.v (.bool x.11))))])))])) (QE (.t []) [(.row 122 1 3 [(.rt 3 k 1),(.rt 3 k 2),(.rt 3 k 3)]),(.box [(ci a)]),(.box [(ci b)]),(.bt 56 14 n (g) (.some (k,[(.c (ci x.1)),(.c (ci x.2)),(.c (ci b)),(.c (ci x.4)),(.c (ci x.5)),(.o (.ar 3 1 x.6.1 (λi=>bA (x.6.2 i)))),(.c (ci x.7.1)),(.c (ci x.7.2)),(.c (.im (.v (.string x.7.3)))),(.c (.im (.sl 1 x.8.1 (λi=>cw (x.8.2 i))))),(.c (ci x.9.1)),(.c (ci x.9.2)),(.c (ci x.10)),(.c (.im (.v (.bool x.11))))])))]))))) (nd (k.blt n) (nd (k.beq k) (br (x.4==a) (nd (k.beq k) (QE (.t []) [(.row 122 1 3 [(.rt 3 k 1),(.rt 3 k 2),(.rt 3 k 3)]),(.box [(ci a)]),(.box [(ci b)]),(.bt 56 14 n (g) (.some (k,[(.c (ci x.1)),(.c (ci x.2)),(.c (ci x.3)),(.c (ci b)),(.c (ci x.5)),(.o (.ar 3 1 x.6.1 (λi=>bA (x.6.2 i)))),(.c (ci x.7.1)),(.c (ci x.7.2)),(.c (.im (.v (.string x.7.3)))),(.c (.im (.sl 1 x.8.1 (λi=>cw (x.8.2 i))))),(.c (ci x.9.1)),(.c (ci x.9.2)),(.c (ci x.10)),(.c (.im (.v (.bool x.11))))])))])) (QE (.t []) [(.row 122 1 3 [(.rt 3 k 1),(.rt 3 k 2),(.rt 3 k 3)]),(.box [(ci a)]),(.box [(ci b)]),(.bt 56 14 n (g) (.some (k,[(.c (ci x.1)),(.c (ci x.2)),(.c (ci x.3)),(.c (ci x.4)),(.c (ci x.5)),(.o (.ar 3 1 x.6.1 (λi=>bA (x.6.2 i)))),(.c (ci x.7.1)),(.c (ci x.7.2)),(.c (.im (.v (.string x.7.3)))),(.c (.im (.sl 1 x.8.1 (λi=>cw (x.8.2 i))))),(.c (ci x.9.1)),(.c (ci x.9.2)),(.c (ci x.10)),(.c (.im (.v (.bool x.11))))])))])))))))))):fx XR 75 oA L QE [.c (.sa 0 3),.c (.rt 1 0 0),.c (.rt 2 0 0)] [.row 122 1 3 [.rt 3 k 1,.rt 3 k 2,.rt 3 k 3],bx a,bx b,wB n k g x]:=km h
theorem Ph (n k:Nat) (g:Nat->Nat->O) (x:aj) (a b:Int) (hk:k<n):LC 75 [.c (.sa 0 3),.c (.rt 1 0 0),.c (.rt 2 0 0)] [.row 122 1 3 [.rt 3 k 1,.rt 3 k 2,.rt 3 k 3],bx a,bx b,wB n k g x] (.t []) [.row 122 1 3 [.rt 3 k 1,.rt 3 k 2,.rt 3 k 3],bx a,bx b,wB n k g (pY 3 a b x)]:=by
 refine cV AJ (aQ (by kernel_rfl)) (dc (X:=XR) (stop:=oA) (Tt _ _ n k g x a b ?_))
 refine cf ?_
 refine cf ?_
 refine aq (λh0=>?_) (λh0=>?_)
 .refine cf ?_
  refine cf ?_
  refine cf ?_
  refine aq (λh1=>?_) (λh1=>?_)
  .refine cf ?_
   refine cf ?_
   refine cf ?_
   refine aq (λh2=>?_) (λh2=>?_)
   .refine cf ?_
    have e:pY 3 a b x=⟨x.op,b,b,b,x.n,x.args,x.k,x.names,x.place,x.exit,x.once⟩:=by show (⟨x.op,sw a b x.a,sw a b x.b,sw a b x.c,x.n,x.args,x.k,x.names,x.place,x.exit,x.once⟩:aj)=_; rw [nW (show (x.a==a)=true from h0),nW (show (x.b==a)=true from h1),nW (show (x.c==a)=true from h2)]; try rfl
    exact ⟨[0,1,2,3],.t [],_,_,rfl,(rc (rc (rc (.cons (by rw [e]; exact aO.refl _) .nil)))),⟨4,aQ rfl,aQ rfl,rfl,rfl,bh.refl _,⟨.inl (.inl rfl),⟨.inl (.inl rfl),⟨.inl (.inl rfl),⟨.inr rfl,trivial⟩⟩⟩⟩⟩⟩
   .have e:pY 3 a b x=⟨x.op,b,b,x.c,x.n,x.args,x.k,x.names,x.place,x.exit,x.once⟩:=by show (⟨x.op,sw a b x.a,sw a b x.b,sw a b x.c,x.n,x.args,x.k,x.names,x.place,x.exit,x.once⟩:aj)=_; rw [nW (show (x.a==a)=true from h0),nW (show (x.b==a)=true from h1),nJ (show (x.c==a)=false from h2)]; try rfl
    exact ⟨[0,1,2,3],.t [],_,_,rfl,(rc (rc (rc (.cons (by rw [e]; exact aO.refl _) .nil)))),⟨4,aQ rfl,aQ rfl,rfl,rfl,bh.refl _,⟨.inl (.inl rfl),⟨.inl (.inl rfl),⟨.inl (.inl rfl),⟨.inr rfl,trivial⟩⟩⟩⟩⟩⟩
  .refine cf ?_
   refine cf ?_
   refine aq (λh2=>?_) (λh2=>?_)
   .refine cf ?_
    have e:pY 3 a b x=⟨x.op,b,x.b,b,x.n,x.args,x.k,x.names,x.place,x.exit,x.once⟩:=by show (⟨x.op,sw a b x.a,sw a b x.b,sw a b x.c,x.n,x.args,x.k,x.names,x.place,x.exit,x.once⟩:aj)=_; rw [nW (show (x.a==a)=true from h0),nJ (show (x.b==a)=false from h1),nW (show (x.c==a)=true from h2)]; try rfl
    exact ⟨[0,1,2,3],.t [],_,_,rfl,(rc (rc (rc (.cons (by rw [e]; exact aO.refl _) .nil)))),⟨4,aQ rfl,aQ rfl,rfl,rfl,bh.refl _,⟨.inl (.inl rfl),⟨.inl (.inl rfl),⟨.inl (.inl rfl),⟨.inr rfl,trivial⟩⟩⟩⟩⟩⟩
   .have e:pY 3 a b x=⟨x.op,b,x.b,x.c,x.n,x.args,x.k,x.names,x.place,x.exit,x.once⟩:=by show (⟨x.op,sw a b x.a,sw a b x.b,sw a b x.c,x.n,x.args,x.k,x.names,x.place,x.exit,x.once⟩:aj)=_; rw [nW (show (x.a==a)=true from h0),nJ (show (x.b==a)=false from h1),nJ (show (x.c==a)=false from h2)]; try rfl
    exact ⟨[0,1,2,3],.t [],_,_,rfl,(rc (rc (rc (.cons (by rw [e]; exact aO.refl _) .nil)))),⟨4,aQ rfl,aQ rfl,rfl,rfl,bh.refl _,⟨.inl (.inl rfl),⟨.inl (.inl rfl),⟨.inl (.inl rfl),⟨.inr rfl,trivial⟩⟩⟩⟩⟩⟩
 .refine cf ?_
  refine cf ?_
  refine aq (λh1=>?_) (λh1=>?_)
  .refine cf ?_
   refine cf ?_
   refine cf ?_
   refine aq (λh2=>?_) (λh2=>?_)
   .refine cf ?_
    have e:pY 3 a b x=⟨x.op,x.a,b,b,x.n,x.args,x.k,x.names,x.place,x.exit,x.once⟩:=by show (⟨x.op,sw a b x.a,sw a b x.b,sw a b x.c,x.n,x.args,x.k,x.names,x.place,x.exit,x.once⟩:aj)=_; rw [nJ (show (x.a==a)=false from h0),nW (show (x.b==a)=true from h1),nW (show (x.c==a)=true from h2)]; try rfl
    exact ⟨[0,1,2,3],.t [],_,_,rfl,(rc (rc (rc (.cons (by rw [e]; exact aO.refl _) .nil)))),⟨4,aQ rfl,aQ rfl,rfl,rfl,bh.refl _,⟨.inl (.inl rfl),⟨.inl (.inl rfl),⟨.inl (.inl rfl),⟨.inr rfl,trivial⟩⟩⟩⟩⟩⟩
   .have e:pY 3 a b x=⟨x.op,x.a,b,x.c,x.n,x.args,x.k,x.names,x.place,x.exit,x.once⟩:=by show (⟨x.op,sw a b x.a,sw a b x.b,sw a b x.c,x.n,x.args,x.k,x.names,x.place,x.exit,x.once⟩:aj)=_; rw [nJ (show (x.a==a)=false from h0),nW (show (x.b==a)=true from h1),nJ (show (x.c==a)=false from h2)]; try rfl
    exact ⟨[0,1,2,3],.t [],_,_,rfl,(rc (rc (rc (.cons (by rw [e]; exact aO.refl _) .nil)))),⟨4,aQ rfl,aQ rfl,rfl,rfl,bh.refl _,⟨.inl (.inl rfl),⟨.inl (.inl rfl),⟨.inl (.inl rfl),⟨.inr rfl,trivial⟩⟩⟩⟩⟩⟩
  .refine cf ?_
   refine cf ?_
   refine aq (λh2=>?_) (λh2=>?_)
   .refine cf ?_
    have e:pY 3 a b x=⟨x.op,x.a,x.b,b,x.n,x.args,x.k,x.names,x.place,x.exit,x.once⟩:=by show (⟨x.op,sw a b x.a,sw a b x.b,sw a b x.c,x.n,x.args,x.k,x.names,x.place,x.exit,x.once⟩:aj)=_; rw [nJ (show (x.a==a)=false from h0),nJ (show (x.b==a)=false from h1),nW (show (x.c==a)=true from h2)]; try rfl
    exact ⟨[0,1,2,3],.t [],_,_,rfl,(rc (rc (rc (.cons (by rw [e]; exact aO.refl _) .nil)))),⟨4,aQ rfl,aQ rfl,rfl,rfl,bh.refl _,⟨.inl (.inl rfl),⟨.inl (.inl rfl),⟨.inl (.inl rfl),⟨.inr rfl,trivial⟩⟩⟩⟩⟩⟩
   .have e:pY 3 a b x=⟨x.op,x.a,x.b,x.c,x.n,x.args,x.k,x.names,x.place,x.exit,x.once⟩:=by show (⟨x.op,sw a b x.a,sw a b x.b,sw a b x.c,x.n,x.args,x.k,x.names,x.place,x.exit,x.once⟩:aj)=_; rw [nJ (show (x.a==a)=false from h0),nJ (show (x.b==a)=false from h1),nJ (show (x.c==a)=false from h2)]; try rfl
    exact ⟨[0,1,2,3],.t [],_,_,rfl,(rc (rc (rc (.cons (by rw [e]; exact aO.refl _) .nil)))),⟨4,aQ rfl,aQ rfl,rfl,rfl,bh.refl _,⟨.inl (.inl rfl),⟨.inl (.inl rfl),⟨.inl (.inl rfl),⟨.inr rfl,trivial⟩⟩⟩⟩⟩⟩
theorem ZD (L:LP) (QE:D->List ag->Prop) (s:Sq Int) (j:Nat) (a b:Int) (h:nd (j.blt s.1) (br (s.2 j==a) (nd (j.blt s.1) (QE (.t []) [(.row 122 1 1 [(.rt 3 j 0)]),(.box [(ci a)]),(.box [(ci b)]),(.arr 3 1 s.1 (IZ (λi=>bA (s.2 i)) j 0 [iI b]))])) (QE (.t []) [(.row 122 1 1 [(.rt 3 j 0)]),(.box [(ci a)]),(.box [(ci b)]),(.arr 3 1 s.1 (λi=>bA (s.2 i)))]))):fx XR 75 oA L QE [.c (.sa 0 1),.c (.rt 1 0 0),.c (.rt 2 0 0)] [.row 122 1 1 [.rt 3 j 0],bx a,bx b,mz s]:=km h
theorem V1 (s:Sq Int) (j:Nat) (a b:Int) (hj:j<s.n):LC 75 [.c (.sa 0 1),.c (.rt 1 0 0),.c (.rt 2 0 0)] [.row 122 1 1 [.rt 3 j 0],bx a,bx b,mz s] (.t []) [.row 122 1 1 [.rt 3 j 0],bx a,bx b,mz (H9 s j (sw a b (s.get j)))]:=by
 refine cV AJ (aQ (by kernel_rfl)) (dc (X:=XR) (stop:=oA) (ZD _ _ s j a b ?_))
 refine aC (by exact dP hj) ?_
 refine aq (λh0=>?_) (λh0=>?_)
 .refine aC (by exact dP hj) ?_
  exact ⟨[0,1,2,3],.t [],_,_,rfl,(rc (rc (rc (.cons (by rw [nW h0]; exact aO.arr (Ua s j b)) .nil)))),⟨4,aQ rfl,aQ rfl,rfl,rfl,bh.refl _,⟨.inl (.inl rfl),⟨.inl (.inl rfl),⟨.inl (.inl rfl),⟨.inr rfl,trivial⟩⟩⟩⟩⟩⟩
 .exact ⟨[0,1,2,3],.t [],_,_,rfl,(rc (rc (rc (.cons (aO.arr (M9 s j _ (nJ h0))) .nil)))),⟨4,aQ rfl,aQ rfl,rfl,rfl,bh.refl _,⟨.inl (.inl rfl),⟨.inl (.inl rfl),⟨.inl (.inl rfl),⟨.inr rfl,trivial⟩⟩⟩⟩⟩⟩
theorem YO (L:LP) (QE:D->List ag->Prop) (n k:Nat) (g:Nat->Nat->O) (x:cG) (a b:Int) (h:nd (k.blt n) (nd (k.beq k) (br (x.1==a) (nd (k.beq k) (QE (.t []) [(.row 122 1 1 [(.rt 3 k 0)]),(.box [(ci a)]),(.box [(ci b)]),(.bt 77 4 n (g) (.some (k,[(.c (ci b)),(.c (ci x.2)),(.c (.im (.sl 1 x.3.1 (λi=>cw (x.3.2 i))))),(.o (.ar 3 1 x.4.1 (λi=>bA (x.4.2 i))))])))])) (QE (.t []) [(.row 122 1 1 [(.rt 3 k 0)]),(.box [(ci a)]),(.box [(ci b)]),(.bt 77 4 n (g) (.some (k,[(.c (ci x.1)),(.c (ci x.2)),(.c (.im (.sl 1 x.3.1 (λi=>cw (x.3.2 i))))),(.o (.ar 3 1 x.4.1 (λi=>bA (x.4.2 i))))])))])))):fx XR 75 oA L QE [.c (.sa 0 1),.c (.rt 1 0 0),.c (.rt 2 0 0)] [.row 122 1 1 [.rt 3 k 0],bx a,bx b,foV n k g x]:=km h
theorem SW (n k:Nat) (g:Nat->Nat->O) (x:cG) (a b:Int) (hk:k<n):LC 75 [.c (.sa 0 1),.c (.rt 1 0 0),.c (.rt 2 0 0)] [.row 122 1 1 [.rt 3 k 0],bx a,bx b,foV n k g x] (.t []) [.row 122 1 1 [.rt 3 k 0],bx a,bx b,foV n k g { x with value:=sw a b x.value }]:=by
 refine cV AJ (aQ (by kernel_rfl)) (dc (X:=XR) (stop:=oA) (YO _ _ n k g x a b ?_))
 refine cf ?_
 refine cf ?_
 refine aq (λh0=>?_) (λh0=>?_)
 .refine cf ?_
  have e:({ x with value:=sw a b x.value }:cG)=⟨b,x.cls,x.names,x.items⟩:=by show (⟨sw a b x.value,x.cls,x.names,x.items⟩:cG)=_; rw [nW (show (x.value==a)=true from h0)]
  exact ⟨[0,1,2,3],.t [],_,_,rfl,(rc (rc (rc (.cons (by rw [e]; exact aO.refl _) .nil)))),⟨4,aQ rfl,aQ rfl,rfl,rfl,bh.refl _,⟨.inl (.inl rfl),⟨.inl (.inl rfl),⟨.inl (.inl rfl),⟨.inr rfl,trivial⟩⟩⟩⟩⟩⟩
 .have e:({ x with value:=sw a b x.value }:cG)=⟨x.value,x.cls,x.names,x.items⟩:=by show (⟨sw a b x.value,x.cls,x.names,x.items⟩:cG)=_; rw [nJ (show (x.value==a)=false from h0)]
  exact ⟨[0,1,2,3],.t [],_,_,rfl,(rc (rc (rc (.cons (by rw [e]; exact aO.refl _) .nil)))),⟨4,aQ rfl,aQ rfl,rfl,rfl,bh.refl _,⟨.inl (.inl rfl),⟨.inl (.inl rfl),⟨.inl (.inl rfl),⟨.inr rfl,trivial⟩⟩⟩⟩⟩⟩
def EW:Nat->Bool:=λi=>Nat.beq i 1
theorem an9:Fn 76:={}
theorem ao1 (L:LP) (QE:D->List ag->Prop) (s s1:Sq Int) (a b:Int) (h:L (ai 76 1) ⟨[(0,((.c (.sa 0 s.1)),[])),(1,((.c (.rt 1 0 0)),[])),(5,((qz s),[])),(6,((int 0),[]))],[(iN s),(.box [(.dM 75 [2,3])]),(.box [(ci a)]),(.box [(ci b)])],[]⟩):fx (P6 s1) 76 EW L QE [.c (.sa 0 s.n),.c (.rt 1 0 0)] [mz s,.box [.dM 75 [2,3]],bx a,bx b]:=km h
def vX (s s1:Sq Int) (a b:Int) (k:Nat):VS:=⟨[(0,(.c (.sa 0 s.1)),[]),(1,(.c (.rt 1 0 0)),[]),(5,(qz s),[]),(6,int k,[])],[(iN s),(.box [(.dM 75 [2,3])]),(.box [(ci a)]),(.box [(ci b)])],[]⟩
abbrev GL (aw:Sq Int) (aG bk:Int) (bN:Nat):List ag:=[(iN aw),(.box [(.dM 75 [2,3])]),(.box [(ci aG)]),(.box [(ci bk)]),(.row 122 1 1 [(.rt 0 bN 0)]),.dead]
theorem KN (L:LP) (QE:D->List ag->Prop) (s s1:Sq Int) (a b:Int) (k:Nat) (h:br (decide ((↑k:Int)<(↑s.1:Int))) (nd (cM (↑k:Int) s.1) ((LC 75 [(.c (.sa 4 1)),(.c (.rt 2 0 0)),(.c (.rt 3 0 0))] (GL s a b k) (.t []) (GL s1 a b k)/\nd (cM (↑k:Int) s.1) ((LC 75 [(.c (.sa 4 1)),(.c (.rt 2 0 0)),(.c (.rt 3 0 0))] (GL s a b k) (.t []) (GL s1 a b k)/\L (ai 76 1) ⟨[(0,((.c (.sa 0 s.1)),[])),(1,((.c (.rt 1 0 0)),[])),(5,((qz s),[])),(6,((int (IntKind.i64.wrap ((↑k:Int)+1))),[]))],(GL s1 a b k),[]⟩))))) (QE (.t []) [(.arr 3 1 s.1 (λi=>bA (s.2 i))),(.box [(.dM 75 [2,3])]),(.box [(ci a)]),(.box [(ci b)])])):cB (P6 s1) 76 EW L QE 1 (vX s s1 a b k):=km h
theorem Qw (a b:Int) (s:Sq Int) (k:Nat):∀ i,i<s.n->∀ c,c<1->cH (bA ((H9 (oD a b s k) k (sw a b ((oD a b s k).get k))).get i) c) (bA ((oD a b s (k+1)).get i) c):=by
 intro i _ c _
 show cH (bA (bif Nat.beq i k then sw a b (bif Nat.blt k k then sw a b (s.get k) else s.get k) else bif Nat.blt i k then sw a b (s.get i) else s.get i) c) (bA (bif Nat.blt i (k+1) then sw a b (s.get i) else s.get i) c)
 by_cases h:i=k
 .subst h
  rw [dq,dP (Nat.lt_succ_self i),show Nat.blt i i=false from by cases hb:Nat.blt i i with|false=>rfl|true=>simp at hb]
  exact cH.refl _
 .rw [O3 h,show Nat.blt i (k+1)=Nat.blt i k from by rw [eB,kD,kD]; omega]
  exact cH.refl _
theorem at3 (a b:Int) (s:Sq Int) (hs:s.n<=1000):∀ k,k<=s.n->af 76 4 (Go.V.b8 [mz s,.box [.dM 75 [2,3]],bx a,bx b] (.t []) [mz (oD a b s s.n),.box [.dM 75 [2,3]],bx a,bx b]) (ai 76 1) (vX (oD a b s k) (oD a b s k) a b k):=by
 refine aU (λk hk ih=>?_) ?_
 .have hc:LC 75 [.c (.sa 4 1),.c (.rt 2 0 0),.c (.rt 3 0 0)] [mz (oD a b s k),.box [.dM 75 [2,3]],bx a,bx b,.row 122 1 1 [.rt 0 k 0],.dead] (.t []) [mz (H9 (oD a b s k) k (sw a b ((oD a b s k).get k))),.box [.dM 75 [2,3]],bx a,bx b,.row 122 1 1 [.rt 0 k 0],.dead]:=
   bP.jS (V1 (oD a b s k) k a b hk) [4,2,3,0] _ rfl ⟨rfl,aQ rfl,rfl,aQ rfl,rfl,aQ rfl,rfl,aQ rfl,rfl⟩
  refine aF (X:=P6 (H9 (oD a b s k) k (sw a b ((oD a b s k).get k)))) (stop:=EW) (KN _ _ (oD a b s k) (H9 (oD a b s k) k (sw a b ((oD a b s k).get k))) a b k ?_)
  refine aq (λh=>?_) (λh=>(dec_lt h hk).elim)
  refine aC (a8 hk) ⟨hc,aC (a8 hk) ⟨hc,?_⟩⟩
  rw [dr (show k<(oD a b s k).1 from hk) (by show s.n<=maxLen; unfold maxLen; omega)]
  exact af.rename [0,1,2,3] rfl (af.lf (vX (oD a b s (k+1)) (oD a b s (k+1)) a b (k+1)) (.cons (aO.arr (Qw a b s k)) (rc (rc (rc .nil)))) ih)
 .refine aF (X:=P6 (oD a b s s.n)) (stop:=EW) (KN _ _ (oD a b s s.n) (oD a b s s.n) a b _ ?_)
  refine aq (λh=>bS h) (λh=>?_)
  exact ⟨[0,1,2,3],.t [],_,_,rfl,(rc (rc (rc (rc .nil)))),⟨4,aQ rfl,aQ rfl,rfl,rfl,bh.refl _,⟨.inr rfl,⟨.inl (.inl rfl),⟨.inl (.inl rfl),⟨.inl (.inl rfl),trivial⟩⟩⟩⟩⟩⟩
theorem H7 (a b:Int) (s:Sq Int) (hs:s.n<=1000):LC 76 [.c (.sa 0 s.n),.c (.rt 1 0 0)] [mz s,.box [.dM 75 [2,3]],bx a,bx b] (.t []) [mz (oD a b s s.n),.box [.dM 75 [2,3]],bx a,bx b]:=by
 refine cV an9 (aQ (by kernel_rfl)) (dc (X:=P6 s) (stop:=EW) (ao1 _ _ s s a b ?_))
 exact af.lf (vX (oD a b s 0) (oD a b s 0) a b 0) (.cons (aO.arr λi _ c _=>cH.refl _) (rc (rc (rc .nil)))) (at3 a b s hs 0 (bu _))
end
end Go.Proofs.Ytgbbdaegmfjahaa
