/- Loops: what is to be shown. -/
import Derived.Test.YtapefhcmohbmaaaP6
set_option linter.unusedVariables false
set_option linter.unusedSimpArgs false
set_option maxRecDepth 1000000
namespace Go.Proofs.Ytapefhcmohbmaaa
open Go Go.V
noncomputable section
section
variable (l:Sq Int) (sn:Sq ak->ak->Sq ak) (sx:Sq ai->ai->Sq ai)
def ao2 (ds:List D) (rs:List ae):Out:=match ds with
 | [.c (.rt q _ _)]=>match aR rs q with
   | some (.box [.rt m a b,c,d,.sa i n,.sa j ne,.im (.v (.int .i64 fu)),.im (.v (.int .i64 pa))])=>match aR rs m,aR rs i,aR rs j with
     | some (.box [y,.im (.v (.int .i64 p))]),some (.arr _ _ k get),some (.arr _ _ ke ge)=>
       (int (gj l p.toNat ⟨k,λt=>jA (get t)⟩ pa.toNat).1,[(m,.box [y,.im (iI (eZ l p.toNat ⟨k,λt=>jA (get t)⟩ fu pa.toNat).2)]),(q,.box [.rt m a b,c,d,.sa (rs.length+1) (sn ⟨k,λt=>jA (get t)⟩ (iE l p.toNat ⟨k,λt=>jA (get t)⟩ pa.toNat ne)).n,.sa rs.length (sx ⟨ke,λt=>oB (ge t)⟩ (eZ l p.toNat ⟨k,λt=>jA (get t)⟩ fu pa.toNat).1).n,.im (iI fu),.im (iI pa)]),(i,.dead),(j,.dead)],
        [lB (sx ⟨ke,λt=>oB (ge t)⟩ (eZ l p.toNat ⟨k,λt=>jA (get t)⟩ fu pa.toNat).1),cX (sn ⟨k,λt=>jA (get t)⟩ (iE l p.toNat ⟨k,λt=>jA (get t)⟩ pa.toNat ne))])
     | _,_,_=>tn
   | _=>tn
 | _=>tn
def ax8 (f:FuncId) (ds:List D) (rs:List ae):Out:=match f with
 | 23=>ao2 l sn sx ds rs
 | f=>F67 l sn sx f ds rs
def ml:gr:={ F:=ax8 l sn sx,W:=W67 l,S:=yH }
end
structure jL where
 p:Nat
 ins:Sq ak
 ex:Sq ai
section
section
variable (d:Nat) (l:Sq Int) (fuel:Int) (x:ak) (c:Int) (param:Nat) (s:jL)
def S9 (n:Int):iG:=bif Nat.beq d 0 then ⟨3,IntKind.i64.wrap (n-2),⟨⟨[]⟩⟩⟩ else bif Nat.beq d 1 then ⟨1,0,⟨⟨[]⟩⟩⟩ else bif Nat.beq d 2 then ⟨2,1,⟨⟨[]⟩⟩⟩ else ⟨4,0,⟨⟨[115]⟩⟩⟩
def QU:Int:=bif Nat.beq d 0 then 10 else 11
def QQ (x:ak) (p:Nat) (s:jL):jL:=⟨(lv l p s.ins fuel param).2,bD s.ins { x with exit:=(s.ex.n:Int) },cf s.ex (lv l p s.ins fuel param).1⟩
def YH:jL:=⟨(nx l s.p 2).2,bD s.ins (cr 10 c 0 0 (nx l s.p 2).1 (-1)),s.ex⟩
def k34 (c:Int) (s:jL):jL:=YH l c ⟨(nx l (nx l s.p (param:Int)).2 2).2,bD s.ins (cr 11 c (nx l s.p (param:Int)).1 0 (nx l (nx l s.p (param:Int)).2 2).1 (-1)),s.ex⟩
def k33:jL:=k34 l param (s.ins.n:Int) ⟨s.p,bD s.ins { cr 16 0 0 0 0 (-1) with names:=KK },s.ex⟩
def k27:jL:=⟨(nx l (vl l s.p s.ins).2 2).2,bD s.ins (cr 11 c (vl l s.p s.ins).1 0 (nx l (vl l s.p s.ins).2 2).1 (-1)),s.ex⟩
def U5:jL:=bif (nx l s.p 2).1==0 then ⟨(nx l s.p 2).2,bD s.ins (cr 12 x.a x.b 0 0 (-1)),s.ex⟩ else ⟨(vl l (nx l s.p 2).2 s.ins).2,bD s.ins (cr 13 x.a x.b (vl l (nx l s.p 2).2 s.ins).1 0 (-1)),s.ex⟩
def k47:jL:=⟨s.p,bD s.ins (cr 14 x.a 0 0 0 (-1)),s.ex⟩
def k52:jL:=⟨(nx l s.p 3).2,bD s.ins { cr 19 x.a 0 0 0 (-1) with place:=⟨0,(nx l s.p 3).1⟩ },s.ex⟩
def k18 (c:Int) (s:jL):jL:=QQ l fuel param (cr 5 c 0 0 (nx l s.p 2).1 0) (nx l s.p 2).2 s
def k3:jL:=⟨(nx l (nx l s.p 7).2 4).2,bD s.ins { cr 2 0 0 0 0 (-1) with k:=S9 (nx l (nx l s.p 7).2 4).1.toNat (nx l s.p 7).1 },s.ex⟩
def ab (p:Nat) (ins:Sq ak):Int×Int×Nat:=((vl l p ins).1,(vl l (vl l p ins).2 ins).1,(vl l (vl l p ins).2 ins).2)
def k7:jL:=QQ l fuel param (cr 4 (ab l (nx l s.p 10).2 s.ins).1 (ab l (nx l s.p 10).2 s.ins).2.1 0 (IntKind.i64.wrap (5+(nx l s.p 10).1)) 0) (ab l (nx l s.p 10).2 s.ins).2.2 s
def Y9:jL:=QQ l fuel param (cr 3 (vl l (nx l s.p 2).2 s.ins).1 0 0 (IntKind.i64.wrap (3+(nx l s.p 2).1)) 0) (vl l (nx l s.p 2).2 s.ins).2 s
def VJ:jL:=k18 l fuel param (s.ins.n:Int) (QQ l fuel param (cr 4 (ab l (nx l s.p 2).2 s.ins).1 (ab l (nx l s.p 2).2 s.ins).2.1 0 (QU (nx l s.p 2).1.toNat) 0) (ab l (nx l s.p 2).2 s.ins).2.2 s)
def ksh:jL:=⟨(eZ l s.p s.ins fuel param).2,bD s.ins (iE l s.p s.ins param s.ex.n),cf s.ex (eZ l s.p s.ins fuel param).1⟩
def Xl:jL:=YH l (gj l s.p s.ins param).1 (ksh l fuel param s)
def k26:jL:=k27 l (gj l s.p s.ins param).1 (ksh l fuel param s)
def VP:jL:=k33 l param (QQ l fuel param (cr 15 0 0 0 32 0) s.p s)
def Zy:jL:=U5 l (cr 9 (ab l s.p s.ins).1 (ab l s.p s.ins).2.1 0 0 (s.ex.n:Int)) (QQ l fuel param (cr 9 (ab l s.p s.ins).1 (ab l s.p s.ins).2.1 0 0 0) (ab l s.p s.ins).2.2 s)
def YK:jL:=k47 (cr 8 (vl l s.p s.ins).1 0 0 0 (s.ex.n:Int)) (QQ l fuel param (cr 8 (vl l s.p s.ins).1 0 0 0 0) (vl l s.p s.ins).2 s)
def k49:jL:=k52 l (cr 6 (vl l s.p s.ins).1 0 0 (IntKind.i64.wrap (1+(nx l (vl l s.p s.ins).2 4).1)) (s.ex.n:Int)) (QQ l fuel param (cr 6 (vl l s.p s.ins).1 0 0 (IntKind.i64.wrap (1+(nx l (vl l s.p s.ins).2 4).1)) 0) (nx l (vl l s.p s.ins).2 4).2 s)
def cE:jL:=
 bif (nx l s.p 14).1==0 then k3 l ⟨(nx l s.p 14).2,s.ins,s.ex⟩
 else bif (nx l s.p 14).1==1 then k7 l fuel param ⟨(nx l s.p 14).2,s.ins,s.ex⟩
 else bif (nx l s.p 14).1==2 then k7 l fuel param ⟨(nx l s.p 14).2,s.ins,s.ex⟩
 else bif (nx l s.p 14).1==3 then k7 l fuel param ⟨(nx l s.p 14).2,s.ins,s.ex⟩
 else bif (nx l s.p 14).1==4 then Y9 l fuel param ⟨(nx l s.p 14).2,s.ins,s.ex⟩
 else bif (nx l s.p 14).1==5 then VJ l fuel param ⟨(nx l s.p 14).2,s.ins,s.ex⟩
 else bif (nx l s.p 14).1==6 then Xl l fuel param ⟨(nx l s.p 14).2,s.ins,s.ex⟩
 else bif (nx l s.p 14).1==7 then Xl l fuel param ⟨(nx l s.p 14).2,s.ins,s.ex⟩
 else bif (nx l s.p 14).1==8 then k26 l fuel param ⟨(nx l s.p 14).2,s.ins,s.ex⟩
 else bif (nx l s.p 14).1==9 then VP l fuel param ⟨(nx l s.p 14).2,s.ins,s.ex⟩
 else bif (nx l s.p 14).1==10 then VP l fuel param ⟨(nx l s.p 14).2,s.ins,s.ex⟩
 else bif (nx l s.p 14).1==11 then Zy l fuel param ⟨(nx l s.p 14).2,s.ins,s.ex⟩
 else bif (nx l s.p 14).1==12 then YK l fuel param ⟨(nx l s.p 14).2,s.ins,s.ex⟩
 else k49 l fuel param ⟨(nx l s.p 14).2,s.ins,s.ex⟩
def zW (s0:jL) (fuel:Int) (param:Nat) (o:jL):D->List ae->Prop:=cd [aE l s0.p,aU 0 2 s0.ins.n 3 s0.ex.n fuel param,cX s0.ins,lB s0.ex] (.t []) [aE l o.p,aU 0 5 o.ins.n 4 o.ex.n fuel param,.dead,.dead,lB o.ex,cX o.ins]
end
end
section
variable {l:Sq Int} {p:Nat}
theorem RK (h0:Nat.beq (nx l p 4).1.toNat 0=false) (h1:Nat.beq (nx l p 4).1.toNat 1=false) (h2:Nat.beq (nx l p 4).1.toNat 2=false) (h3:Nat.beq (nx l p 4).1.toNat 3=false):False:=by
 obtain ⟨d,hd,eG⟩:=iu (l:=l) (p:=p) (n:=4) (by omega) (by omega)
 rw [hd] at h0 h1 h2 h3
 have g:∀ k,Nat.beq (d:Int).toNat k=false->d≠k:=λk hk e=>by
  simp_all
 grind
theorem Sm (h0:Nat.beq (nx l p 2).1.toNat 0=false) (h1:Nat.beq (nx l p 2).1.toNat 1=false):False:=by
 obtain ⟨d,hd,eG⟩:=iu (l:=l) (p:=p) (n:=2) (by omega) (by omega)
 rw [hd] at h0 h1
 have g:∀ k,Nat.beq (d:Int).toNat k=false->d≠k:=λk hk e=>by
  simp_all
 grind
theorem Ug (n:Nat) (h1:1<=n) (h2:n<=1000):dm (nx l p (n:Int)).1 n=true:=by
 obtain ⟨d,hd,eG⟩:=iu (l:=l) (p:=p) (n:=(n:Int)) (by omega) (by omega)
 rw [hd]
 exact aP (by omega)
end
def fg:Nat->Bool:=λi=>Nat.beq i 3||Nat.beq i 7||Nat.beq i 11||Nat.beq i 15||Nat.beq i 18||Nat.beq i 23||Nat.beq i 24||Nat.beq i 26||Nat.beq i 27||Nat.beq i 30||Nat.beq i 33||Nat.beq i 34||Nat.beq i 35||Nat.beq i 37||Nat.beq i 40||Nat.beq i 44||Nat.beq i 47||Nat.beq i 49||Nat.beq i 52
theorem au9:Fn 14:={}
abbrev dw:gn:=(2,((.c (.rt 0 0 0)),[]))
section
variable (aj:Sq Int) (L:LP) (s0:jL) (aA:Nat) (QE:D->List ae->Prop) (sn:Sq ak->ak->Sq ak) (aB:Sq ak) (sx:Sq ai->ai->Sq ai) (l:Sq Int) (aT:Sq ai) (p:Nat) (ins:Sq ak) (aa:Sq ai) (fuel:Int) (param:Nat) (c:Int) (x:ak)
abbrev kA:gn:=(20,((int ((nx aj aA 14).1)),[]))
abbrev kO (bp:Int) (bP:Nat):List ae:=[(aE aj ((nx aj aA 14).2)),(cH aB aT bp bP),(bq aB),(bK aT)]
abbrev HK:aL:=[dG,dw,(kA aj aA),(38,((bool true),[]))]
theorem av5 (h:(WC 11 [(.c (.rt 0 0 0)),(int 14)] (mw l p ins aa fuel param) (int ((nx l p 14).1)) 0 (aE l ((nx l p 14).2))/\br ((nx l p 14).1==0) (L (ah 14 3) ⟨[dG,dw,(kA l p),(21,((bool true),[]))],(kO l p ins aa fuel param),[]⟩) (br ((nx l p 14).1==1) (L (ah 14 7) ⟨(HK l p),(kO l p ins aa fuel param),[]⟩) (br ((nx l p 14).1==2) (L (ah 14 7) ⟨(HK l p),(kO l p ins aa fuel param),[]⟩) (br ((nx l p 14).1==3) (L (ah 14 7) ⟨(HK l p),(kO l p ins aa fuel param),[]⟩) (br ((nx l p 14).1==4) (L (ah 14 11) ⟨[dG,dw,(kA l p),(56,((bool true),[]))],(kO l p ins aa fuel param),[]⟩) (br ((nx l p 14).1==5) (L (ah 14 15) ⟨[dG,dw,(kA l p),(70,((bool true),[]))],(kO l p ins aa fuel param),[]⟩) (br ((nx l p 14).1==6) (L (ah 14 23) ⟨[dG,dw,(kA l p),(98,((bool true),[]))],(kO l p ins aa fuel param),[]⟩) (br ((nx l p 14).1==7) (L (ah 14 23) ⟨[dG,dw,(kA l p),(98,((bool true),[]))],(kO l p ins aa fuel param),[]⟩) (br ((nx l p 14).1==8) (L (ah 14 26) ⟨[dG,dw,(kA l p),(109,((bool true),[]))],(kO l p ins aa fuel param),[]⟩) (br ((nx l p 14).1==9) (L (ah 14 30) ⟨[dG,dw,(kA l p),(121,((bool true),[]))],(kO l p ins aa fuel param),[]⟩) (br ((nx l p 14).1==10) (L (ah 14 30) ⟨[dG,dw,(kA l p),(121,((bool true),[]))],(kO l p ins aa fuel param),[]⟩) (br ((nx l p 14).1==11) (L (ah 14 37) ⟨[dG,dw,(kA l p),(153,((bool true),[]))],(kO l p ins aa fuel param),[]⟩) (br ((nx l p 14).1==12) (L (ah 14 44) ⟨[dG,dw,(kA l p),(185,((bool true),[]))],(kO l p ins aa fuel param),[]⟩) (br ((nx l p 14).1==13) (L (ah 14 49) ⟨[dG,dw,(201,((bool true),[]))],(kO l p ins aa fuel param),[]⟩) (QE (.t []) [(aE l ((nx l p 14).2)),(aU 0 2 ins.1 3 aa.1 fuel (↑param:Int)),(.arr 40 14 ins.1 (λi=>bQ (ins.2 i))),(.arr 68 3 aa.1 (λi=>bG (aa.2 i)))])))))))))))))))):fG (ml l sn sx) 14 fg L QE [.c (.rt 1 0 0)] [aE l p,aU 0 2 ins.n 3 aa.n fuel param,cX ins,lB aa]:=km h
abbrev kD:gn:=(0,.c (.rt 1 0 0),[])
abbrev iO:gn:=(2,.c (.rt 0 0 0),[])
def Ho (sn:Sq ak->ak->Sq ak) (sx:Sq ai->ai->Sq ai) (l:Sq Int) (p:Nat) (ins:Sq ak) (aa:Sq ai) (fuel:Int) (param:Nat)  : VS:=⟨[kD,iO],[aE l p,aU 0 2 ins.n 4 aa.n fuel param,cX ins,.dead,lB aa],[]⟩
abbrev pe:C:=.im (.v (.string ({ data := #[115] })))
abbrev nQ:ae:=aE aj ((nx aj (nx aj aA 7).2 4).2)
theorem V1  (h:(WC 11 [(.c (.rt 0 0 0)),(int 7)] [(aE l p),(aU 0 2 ins.1 4 aa.1 fuel (↑param:Int)),(bq ins),.dead,(bK aa)] (int ((nx l p 7).1)) 0 (aE l ((nx l p 7).2))/\(WC 11 [(.c (.rt 0 0 0)),(int 4)] [(aE l ((nx l p 7).2)),(aU 0 2 ins.1 4 aa.1 fuel (↑param:Int)),(bq ins),.dead,(bK aa),(.row 37 3 4 [(ci 3),(ci (IntKind.i64.wrap ((nx l p 7).1-2))),eR,(ci 1),(ci 0),eR,(ci 2),(ci 1),eR,(ci 4),(ci 0),pe])] (int ((nx l (nx l p 7).2 4).1)) 0 (aE l ((nx l (nx l p 7).2 4).2))/\nd (dm (nx l (nx l p 7).2 4).1 4) (br ((nx l (nx l p 7).2 4).1.toNat.beq 0) ((LC 12 [(.c (.rt 1 0 0)),(.a [(ci 2),(ci 0),(ci 0),(ci 0),(ci 0),dO,(ci 3),(ci (IntKind.i64.wrap ((nx l p 7).1-2))),eR,dO,(ci 0),(ci 0),(ci (-1)),dn])] [(nQ l p),(aU 0 2 ins.1 4 aa.1 fuel (↑param:Int)),(bq ins),.dead,(bK aa),(.row 37 3 4 [(ci 3),(ci (IntKind.i64.wrap ((nx l p 7).1-2))),eR,(ci 1),(ci 0),eR,(ci 2),(ci 1),eR,(ci 4),(ci 0),pe])] (ei ins) [(nQ l p),(aU 0 6 ((sn ins { op:=Int.ofNat 2,a:=Int.ofNat 0,b:=Int.ofNat 0,c:=Int.ofNat 0,n:=Int.ofNat 0,args:={ n:=0,get:=λx=>Int.ofNat 0 },k:={ kind:=Int.ofNat 3,n:=bX (I.v (Value.int IntKind.i64 (IntKind.i64.wrap ((nx l p 7).1-2)))),s:={ data:={ toList:=[] } } },names:={ n:=0,get:=λx=>{ data:={ toList:=[] } } },place:={ fn:=Int.ofNat 0,line:=Int.ofNat 0 },exit:=Int.negSucc 0,once:=false }).1) 4 aa.1 fuel (↑param:Int)),.dead,.dead,(bK aa),(.row 37 3 4 [(ci 3),(ci (IntKind.i64.wrap ((nx l p 7).1-2))),eR,(ci 1),(ci 0),eR,(ci 2),(ci 1),eR,(ci 4),(ci 0),pe]),(.arr 40 14 ((sn ins { op:=Int.ofNat 2,a:=Int.ofNat 0,b:=Int.ofNat 0,c:=Int.ofNat 0,n:=Int.ofNat 0,args:={ n:=0,get:=λx=>Int.ofNat 0 },k:={ kind:=Int.ofNat 3,n:=bX (I.v (Value.int IntKind.i64 (IntKind.i64.wrap ((nx l p 7).1-2)))),s:={ data:={ toList:=[] } } },names:={ n:=0,get:=λx=>{ data:={ toList:=[] } } },place:={ fn:=Int.ofNat 0,line:=Int.ofNat 0 },exit:=Int.negSucc 0,once:=false }).1) (λi=>bQ ((sn ins { op:=Int.ofNat 2,a:=Int.ofNat 0,b:=Int.ofNat 0,c:=Int.ofNat 0,n:=Int.ofNat 0,args:={ n:=0,get:=λx=>Int.ofNat 0 },k:={ kind:=Int.ofNat 3,n:=bX (I.v (Value.int IntKind.i64 (IntKind.i64.wrap ((nx l p 7).1-2)))),s:={ data:={ toList:=[] } } },names:={ n:=0,get:=λx=>{ data:={ toList:=[] } } },place:={ fn:=Int.ofNat 0,line:=Int.ofNat 0 },exit:=Int.negSucc 0,once:=false }).2 i)))]/\QE (.t []) [(aE l ((nx l (nx l p 7).2 4).2)),(aU 0 6 ((sn ins { op:=Int.ofNat 2,a:=Int.ofNat 0,b:=Int.ofNat 0,c:=Int.ofNat 0,n:=Int.ofNat 0,args:={ n:=0,get:=λx=>Int.ofNat 0 },k:={ kind:=Int.ofNat 3,n:=bX (I.v (Value.int IntKind.i64 (IntKind.i64.wrap ((nx l p 7).1-2)))),s:={ data:={ toList:=[] } } },names:={ n:=0,get:=λx=>{ data:={ toList:=[] } } },place:={ fn:=Int.ofNat 0,line:=Int.ofNat 0 },exit:=Int.negSucc 0,once:=false }).1) 4 aa.1 fuel (↑param:Int)),.dead,.dead,(.arr 68 3 aa.1 (λi=>bG (aa.2 i))),(.row 37 3 4 [(ci 3),(ci (IntKind.i64.wrap ((nx l p 7).1-2))),(.im (.v (.string ⟨⟨[]⟩⟩))),(ci 1),(ci 0),(.im (.v (.string ⟨⟨[]⟩⟩))),(ci 2),(ci 1),(.im (.v (.string ⟨⟨[]⟩⟩))),(ci 4),(ci 0),(.im (.v (.string ({ data := #[115] }))))]),(.arr 40 14 ((sn ins { op:=Int.ofNat 2,a:=Int.ofNat 0,b:=Int.ofNat 0,c:=Int.ofNat 0,n:=Int.ofNat 0,args:={ n:=0,get:=λx=>Int.ofNat 0 },k:={ kind:=Int.ofNat 3,n:=bX (I.v (Value.int IntKind.i64 (IntKind.i64.wrap ((nx l p 7).1-2)))),s:={ data:={ toList:=[] } } },names:={ n:=0,get:=λx=>{ data:={ toList:=[] } } },place:={ fn:=Int.ofNat 0,line:=Int.ofNat 0 },exit:=Int.negSucc 0,once:=false }).1) (λi=>bQ ((sn ins { op:=Int.ofNat 2,a:=Int.ofNat 0,b:=Int.ofNat 0,c:=Int.ofNat 0,n:=Int.ofNat 0,args:={ n:=0,get:=λx=>Int.ofNat 0 },k:={ kind:=Int.ofNat 3,n:=bX (I.v (Value.int IntKind.i64 (IntKind.i64.wrap ((nx l p 7).1-2)))),s:={ data:={ toList:=[] } } },names:={ n:=0,get:=λx=>{ data:={ toList:=[] } } },place:={ fn:=Int.ofNat 0,line:=Int.ofNat 0 },exit:=Int.negSucc 0,once:=false }).2 i)))])) (br ((nx l (nx l p 7).2 4).1.toNat.beq 1) ((LC 12 [(.c (.rt 1 0 0)),(.a [(ci 2),(ci 0),(ci 0),(ci 0),(ci 0),dO,(ci 1),(ci 0),eR,dO,(ci 0),(ci 0),(ci (-1)),dn])] [(nQ l p),(aU 0 2 ins.1 4 aa.1 fuel (↑param:Int)),(bq ins),.dead,(bK aa),(.row 37 3 4 [(ci 3),(ci (IntKind.i64.wrap ((nx l p 7).1-2))),eR,(ci 1),(ci 0),eR,(ci 2),(ci 1),eR,(ci 4),(ci 0),pe])] (ei ins) [(nQ l p),(aU 0 6 ((sn ins { op:=Int.ofNat 2,a:=Int.ofNat 0,b:=Int.ofNat 0,c:=Int.ofNat 0,n:=Int.ofNat 0,args:={ n:=0,get:=λx=>Int.ofNat 0 },k:={ kind:=Int.ofNat 1,n:=Int.ofNat 0,s:={ data:={ toList:=[] } } },names:={ n:=0,get:=λx=>{ data:={ toList:=[] } } },place:={ fn:=Int.ofNat 0,line:=Int.ofNat 0 },exit:=Int.negSucc 0,once:=false }).1) 4 aa.1 fuel (↑param:Int)),.dead,.dead,(bK aa),(.row 37 3 4 [(ci 3),(ci (IntKind.i64.wrap ((nx l p 7).1-2))),eR,(ci 1),(ci 0),eR,(ci 2),(ci 1),eR,(ci 4),(ci 0),pe]),(.arr 40 14 ((sn ins { op:=Int.ofNat 2,a:=Int.ofNat 0,b:=Int.ofNat 0,c:=Int.ofNat 0,n:=Int.ofNat 0,args:={ n:=0,get:=λx=>Int.ofNat 0 },k:={ kind:=Int.ofNat 1,n:=Int.ofNat 0,s:={ data:={ toList:=[] } } },names:={ n:=0,get:=λx=>{ data:={ toList:=[] } } },place:={ fn:=Int.ofNat 0,line:=Int.ofNat 0 },exit:=Int.negSucc 0,once:=false }).1) (λi=>bQ ((sn ins { op:=Int.ofNat 2,a:=Int.ofNat 0,b:=Int.ofNat 0,c:=Int.ofNat 0,n:=Int.ofNat 0,args:={ n:=0,get:=λx=>Int.ofNat 0 },k:={ kind:=Int.ofNat 1,n:=Int.ofNat 0,s:={ data:={ toList:=[] } } },names:={ n:=0,get:=λx=>{ data:={ toList:=[] } } },place:={ fn:=Int.ofNat 0,line:=Int.ofNat 0 },exit:=Int.negSucc 0,once:=false }).2 i)))]/\QE (.t []) [(aE l ((nx l (nx l p 7).2 4).2)),(aU 0 6 ((sn ins { op:=Int.ofNat 2,a:=Int.ofNat 0,b:=Int.ofNat 0,c:=Int.ofNat 0,n:=Int.ofNat 0,args:={ n:=0,get:=λx=>Int.ofNat 0 },k:={ kind:=Int.ofNat 1,n:=Int.ofNat 0,s:={ data:={ toList:=[] } } },names:={ n:=0,get:=λx=>{ data:={ toList:=[] } } },place:={ fn:=Int.ofNat 0,line:=Int.ofNat 0 },exit:=Int.negSucc 0,once:=false }).1) 4 aa.1 fuel (↑param:Int)),.dead,.dead,(.arr 68 3 aa.1 (λi=>bG (aa.2 i))),(.row 37 3 4 [(ci 3),(ci (IntKind.i64.wrap ((nx l p 7).1-2))),(.im (.v (.string ⟨⟨[]⟩⟩))),(ci 1),(ci 0),(.im (.v (.string ⟨⟨[]⟩⟩))),(ci 2),(ci 1),(.im (.v (.string ⟨⟨[]⟩⟩))),(ci 4),(ci 0),(.im (.v (.string ({ data := #[115] }))))]),(.arr 40 14 ((sn ins { op:=Int.ofNat 2,a:=Int.ofNat 0,b:=Int.ofNat 0,c:=Int.ofNat 0,n:=Int.ofNat 0,args:={ n:=0,get:=λx=>Int.ofNat 0 },k:={ kind:=Int.ofNat 1,n:=Int.ofNat 0,s:={ data:={ toList:=[] } } },names:={ n:=0,get:=λx=>{ data:={ toList:=[] } } },place:={ fn:=Int.ofNat 0,line:=Int.ofNat 0 },exit:=Int.negSucc 0,once:=false }).1) (λi=>bQ ((sn ins { op:=Int.ofNat 2,a:=Int.ofNat 0,b:=Int.ofNat 0,c:=Int.ofNat 0,n:=Int.ofNat 0,args:={ n:=0,get:=λx=>Int.ofNat 0 },k:={ kind:=Int.ofNat 1,n:=Int.ofNat 0,s:={ data:={ toList:=[] } } },names:={ n:=0,get:=λx=>{ data:={ toList:=[] } } },place:={ fn:=Int.ofNat 0,line:=Int.ofNat 0 },exit:=Int.negSucc 0,once:=false }).2 i)))])) (br ((nx l (nx l p 7).2 4).1.toNat.beq 2) ((LC 12 [(.c (.rt 1 0 0)),(.a [(ci 2),(ci 0),(ci 0),(ci 0),(ci 0),dO,(ci 2),(ci 1),eR,dO,(ci 0),(ci 0),(ci (-1)),dn])] [(nQ l p),(aU 0 2 ins.1 4 aa.1 fuel (↑param:Int)),(bq ins),.dead,(bK aa),(.row 37 3 4 [(ci 3),(ci (IntKind.i64.wrap ((nx l p 7).1-2))),eR,(ci 1),(ci 0),eR,(ci 2),(ci 1),eR,(ci 4),(ci 0),pe])] (ei ins) [(nQ l p),(aU 0 6 ((sn ins { op:=Int.ofNat 2,a:=Int.ofNat 0,b:=Int.ofNat 0,c:=Int.ofNat 0,n:=Int.ofNat 0,args:={ n:=0,get:=λx=>Int.ofNat 0 },k:={ kind:=Int.ofNat 2,n:=Int.ofNat 1,s:={ data:={ toList:=[] } } },names:={ n:=0,get:=λx=>{ data:={ toList:=[] } } },place:={ fn:=Int.ofNat 0,line:=Int.ofNat 0 },exit:=Int.negSucc 0,once:=false }).1) 4 aa.1 fuel (↑param:Int)),.dead,.dead,(bK aa),(.row 37 3 4 [(ci 3),(ci (IntKind.i64.wrap ((nx l p 7).1-2))),eR,(ci 1),(ci 0),eR,(ci 2),(ci 1),eR,(ci 4),(ci 0),pe]),(.arr 40 14 ((sn ins { op:=Int.ofNat 2,a:=Int.ofNat 0,b:=Int.ofNat 0,c:=Int.ofNat 0,n:=Int.ofNat 0,args:={ n:=0,get:=λx=>Int.ofNat 0 },k:={ kind:=Int.ofNat 2,n:=Int.ofNat 1,s:={ data:={ toList:=[] } } },names:={ n:=0,get:=λx=>{ data:={ toList:=[] } } },place:={ fn:=Int.ofNat 0,line:=Int.ofNat 0 },exit:=Int.negSucc 0,once:=false }).1) (λi=>bQ ((sn ins { op:=Int.ofNat 2,a:=Int.ofNat 0,b:=Int.ofNat 0,c:=Int.ofNat 0,n:=Int.ofNat 0,args:={ n:=0,get:=λx=>Int.ofNat 0 },k:={ kind:=Int.ofNat 2,n:=Int.ofNat 1,s:={ data:={ toList:=[] } } },names:={ n:=0,get:=λx=>{ data:={ toList:=[] } } },place:={ fn:=Int.ofNat 0,line:=Int.ofNat 0 },exit:=Int.negSucc 0,once:=false }).2 i)))]/\QE (.t []) [(aE l ((nx l (nx l p 7).2 4).2)),(aU 0 6 ((sn ins { op:=Int.ofNat 2,a:=Int.ofNat 0,b:=Int.ofNat 0,c:=Int.ofNat 0,n:=Int.ofNat 0,args:={ n:=0,get:=λx=>Int.ofNat 0 },k:={ kind:=Int.ofNat 2,n:=Int.ofNat 1,s:={ data:={ toList:=[] } } },names:={ n:=0,get:=λx=>{ data:={ toList:=[] } } },place:={ fn:=Int.ofNat 0,line:=Int.ofNat 0 },exit:=Int.negSucc 0,once:=false }).1) 4 aa.1 fuel (↑param:Int)),.dead,.dead,(.arr 68 3 aa.1 (λi=>bG (aa.2 i))),(.row 37 3 4 [(ci 3),(ci (IntKind.i64.wrap ((nx l p 7).1-2))),(.im (.v (.string ⟨⟨[]⟩⟩))),(ci 1),(ci 0),(.im (.v (.string ⟨⟨[]⟩⟩))),(ci 2),(ci 1),(.im (.v (.string ⟨⟨[]⟩⟩))),(ci 4),(ci 0),(.im (.v (.string ({ data := #[115] }))))]),(.arr 40 14 ((sn ins { op:=Int.ofNat 2,a:=Int.ofNat 0,b:=Int.ofNat 0,c:=Int.ofNat 0,n:=Int.ofNat 0,args:={ n:=0,get:=λx=>Int.ofNat 0 },k:={ kind:=Int.ofNat 2,n:=Int.ofNat 1,s:={ data:={ toList:=[] } } },names:={ n:=0,get:=λx=>{ data:={ toList:=[] } } },place:={ fn:=Int.ofNat 0,line:=Int.ofNat 0 },exit:=Int.negSucc 0,once:=false }).1) (λi=>bQ ((sn ins { op:=Int.ofNat 2,a:=Int.ofNat 0,b:=Int.ofNat 0,c:=Int.ofNat 0,n:=Int.ofNat 0,args:={ n:=0,get:=λx=>Int.ofNat 0 },k:={ kind:=Int.ofNat 2,n:=Int.ofNat 1,s:={ data:={ toList:=[] } } },names:={ n:=0,get:=λx=>{ data:={ toList:=[] } } },place:={ fn:=Int.ofNat 0,line:=Int.ofNat 0 },exit:=Int.negSucc 0,once:=false }).2 i)))])) (br ((nx l (nx l p 7).2 4).1.toNat.beq 3) ((LC 12 [(.c (.rt 1 0 0)),(.a [(ci 2),(ci 0),(ci 0),(ci 0),(ci 0),dO,(ci 4),(ci 0),pe,dO,(ci 0),(ci 0),(ci (-1)),dn])] [(nQ l p),(aU 0 2 ins.1 4 aa.1 fuel (↑param:Int)),(bq ins),.dead,(bK aa),(.row 37 3 4 [(ci 3),(ci (IntKind.i64.wrap ((nx l p 7).1-2))),eR,(ci 1),(ci 0),eR,(ci 2),(ci 1),eR,(ci 4),(ci 0),pe])] (ei ins) [(nQ l p),(aU 0 6 ((sn ins { op:=Int.ofNat 2,a:=Int.ofNat 0,b:=Int.ofNat 0,c:=Int.ofNat 0,n:=Int.ofNat 0,args:={ n:=0,get:=λx=>Int.ofNat 0 },k:={ kind:=Int.ofNat 4,n:=Int.ofNat 0,s:={ data := #[115] } },names:={ n:=0,get:=λx=>{ data:={ toList:=[] } } },place:={ fn:=Int.ofNat 0,line:=Int.ofNat 0 },exit:=Int.negSucc 0,once:=false }).1) 4 aa.1 fuel (↑param:Int)),.dead,.dead,(bK aa),(.row 37 3 4 [(ci 3),(ci (IntKind.i64.wrap ((nx l p 7).1-2))),eR,(ci 1),(ci 0),eR,(ci 2),(ci 1),eR,(ci 4),(ci 0),pe]),(.arr 40 14 ((sn ins { op:=Int.ofNat 2,a:=Int.ofNat 0,b:=Int.ofNat 0,c:=Int.ofNat 0,n:=Int.ofNat 0,args:={ n:=0,get:=λx=>Int.ofNat 0 },k:={ kind:=Int.ofNat 4,n:=Int.ofNat 0,s:={ data := #[115] } },names:={ n:=0,get:=λx=>{ data:={ toList:=[] } } },place:={ fn:=Int.ofNat 0,line:=Int.ofNat 0 },exit:=Int.negSucc 0,once:=false }).1) (λi=>bQ ((sn ins { op:=Int.ofNat 2,a:=Int.ofNat 0,b:=Int.ofNat 0,c:=Int.ofNat 0,n:=Int.ofNat 0,args:={ n:=0,get:=λx=>Int.ofNat 0 },k:={ kind:=Int.ofNat 4,n:=Int.ofNat 0,s:={ data := #[115] } },names:={ n:=0,get:=λx=>{ data:={ toList:=[] } } },place:={ fn:=Int.ofNat 0,line:=Int.ofNat 0 },exit:=Int.negSucc 0,once:=false }).2 i)))]/\QE (.t []) [(aE l ((nx l (nx l p 7).2 4).2)),(aU 0 6 ((sn ins { op:=Int.ofNat 2,a:=Int.ofNat 0,b:=Int.ofNat 0,c:=Int.ofNat 0,n:=Int.ofNat 0,args:={ n:=0,get:=λx=>Int.ofNat 0 },k:={ kind:=Int.ofNat 4,n:=Int.ofNat 0,s:={ data := #[115] } },names:={ n:=0,get:=λx=>{ data:={ toList:=[] } } },place:={ fn:=Int.ofNat 0,line:=Int.ofNat 0 },exit:=Int.negSucc 0,once:=false }).1) 4 aa.1 fuel (↑param:Int)),.dead,.dead,(.arr 68 3 aa.1 (λi=>bG (aa.2 i))),(.row 37 3 4 [(ci 3),(ci (IntKind.i64.wrap ((nx l p 7).1-2))),(.im (.v (.string ⟨⟨[]⟩⟩))),(ci 1),(ci 0),(.im (.v (.string ⟨⟨[]⟩⟩))),(ci 2),(ci 1),(.im (.v (.string ⟨⟨[]⟩⟩))),(ci 4),(ci 0),(.im (.v (.string ({ data := #[115] }))))]),(.arr 40 14 ((sn ins { op:=Int.ofNat 2,a:=Int.ofNat 0,b:=Int.ofNat 0,c:=Int.ofNat 0,n:=Int.ofNat 0,args:={ n:=0,get:=λx=>Int.ofNat 0 },k:={ kind:=Int.ofNat 4,n:=Int.ofNat 0,s:={ data := #[115] } },names:={ n:=0,get:=λx=>{ data:={ toList:=[] } } },place:={ fn:=Int.ofNat 0,line:=Int.ofNat 0 },exit:=Int.negSucc 0,once:=false }).1) (λi=>bQ ((sn ins { op:=Int.ofNat 2,a:=Int.ofNat 0,b:=Int.ofNat 0,c:=Int.ofNat 0,n:=Int.ofNat 0,args:={ n:=0,get:=λx=>Int.ofNat 0 },k:={ kind:=Int.ofNat 4,n:=Int.ofNat 0,s:={ data := #[115] } },names:={ n:=0,get:=λx=>{ data:={ toList:=[] } } },place:={ fn:=Int.ofNat 0,line:=Int.ofNat 0 },exit:=Int.negSucc 0,once:=false }).2 i)))])) (False)))))))):cW (ml l sn sx) 14 fg L QE 3 (Ho sn sx l p ins aa fuel param ):=km h
abbrev sm (bp:Int) (bP:Nat):VS:=⟨[kD,iO],[aE aj aA,aU 0 2 aB.n 3 aT.n bp bP,cX aB,lB aT],[]⟩
def xZ (sn:Sq ak->ak->Sq ak) (sx:Sq ai->ai->Sq ai) (l:Sq Int) (p:Nat) (ins:Sq ak) (aa:Sq ai) (fuel:Int) (param:Nat)  : VS:=(sm l p ins aa fuel param)
abbrev Fq (aj:Sq ai->ai->Sq ai) (aA:Sq ai) (aB:Sq Int) (aT:Nat) (bp:Sq ak) (bP:Int) (bU:Nat):ae:=.arr 68 3 ((aj aA (lv aB (vl aB (vl aB (nx aB aT 10).2 bp).2 bp).2 bp bP bU).1).1) (λi=>bG ((aj aA (lv aB (vl aB (vl aB (nx aB aT 10).2 bp).2 bp).2 bp bP bU).1).2 i))
theorem VY (h:(WC 11 [(.c (.rt 0 0 0)),(int 10)] (mw l p ins aa fuel param) (int ((nx l p 10).1)) 0 (aE l ((nx l p 10).2))/\(WC 15 dY [(aE l ((nx l p 10).2)),(cH ins aa fuel param),(bq ins),(bK aa)] (int ((vl l (nx l p 10).2 ins).1)) 0 (aE l ((vl l (nx l p 10).2 ins).2))/\(WC 15 dY [(aE l ((vl l (nx l p 10).2 ins).2)),(cH ins aa fuel param),(bq ins),(bK aa)] (int ((vl l (vl l (nx l p 10).2 ins).2 ins).1)) 0 (aE l ((vl l (vl l (nx l p 10).2 ins).2 ins).2))/\(LC 13 dY [(aE l ((vl l (vl l (nx l p 10).2 ins).2 ins).2)),(cH ins aa fuel param),(bq ins),(bK aa),(.box (fF 4 (vl l (nx l p 10).2 ins).1 (vl l (vl l (nx l p 10).2 ins).2 ins).1 0 (bX (I.v (Value.int IntKind.i64 (IntKind.i64.wrap (5+(nx l p 10).1))))) 0))] (jF aa) [(aE l ((lv l (vl l (vl l (nx l p 10).2 ins).2 ins).2 ins fuel param).2)),(aU 0 2 ins.1 5 ((sx aa (lv l (vl l (vl l (nx l p 10).2 ins).2 ins).2 ins fuel param).1).1) fuel (↑param:Int)),(bq ins),.dead,(.box (fF 4 (vl l (nx l p 10).2 ins).1 (vl l (vl l (nx l p 10).2 ins).2 ins).1 0 (bX (I.v (Value.int IntKind.i64 (IntKind.i64.wrap (5+(nx l p 10).1))))) 0)),(Fq sx aa l p ins fuel param)]/\(LC 12 [(.c (.rt 1 0 0)),(.a (fF 4 (vl l (nx l p 10).2 ins).1 (vl l (vl l (nx l p 10).2 ins).2 ins).1 0 (bX (I.v (Value.int IntKind.i64 (IntKind.i64.wrap (5+(nx l p 10).1))))) (Int.ofNat aa.1)))] [(aE l ((lv l (vl l (vl l (nx l p 10).2 ins).2 ins).2 ins fuel param).2)),(aU 0 2 ins.1 5 ((sx aa (lv l (vl l (vl l (nx l p 10).2 ins).2 ins).2 ins fuel param).1).1) fuel (↑param:Int)),(bq ins),.dead,(.box (fF 4 (vl l (nx l p 10).2 ins).1 (vl l (vl l (nx l p 10).2 ins).2 ins).1 0 (bX (I.v (Value.int IntKind.i64 (IntKind.i64.wrap (5+(nx l p 10).1))))) (Int.ofNat aa.1))),(Fq sx aa l p ins fuel param)] (ei ins) [(aE l ((lv l (vl l (vl l (nx l p 10).2 ins).2 ins).2 ins fuel param).2)),(aU 0 6 ((sn ins (cr 4 (vl l (nx l p 10).2 ins).1 (vl l (vl l (nx l p 10).2 ins).2 ins).1 0 (bX (I.v (Value.int IntKind.i64 (IntKind.i64.wrap (5+(nx l p 10).1))))) (Int.ofNat aa.1))).1) 5 ((sx aa (lv l (vl l (vl l (nx l p 10).2 ins).2 ins).2 ins fuel param).1).1) fuel (↑param:Int)),.dead,.dead,(.box (fF 4 (vl l (nx l p 10).2 ins).1 (vl l (vl l (nx l p 10).2 ins).2 ins).1 0 (bX (I.v (Value.int IntKind.i64 (IntKind.i64.wrap (5+(nx l p 10).1))))) (Int.ofNat aa.1))),(Fq sx aa l p ins fuel param),(.arr 40 14 ((sn ins (cr 4 (vl l (nx l p 10).2 ins).1 (vl l (vl l (nx l p 10).2 ins).2 ins).1 0 (bX (I.v (Value.int IntKind.i64 (IntKind.i64.wrap (5+(nx l p 10).1))))) (Int.ofNat aa.1))).1) (λi=>bQ ((sn ins (cr 4 (vl l (nx l p 10).2 ins).1 (vl l (vl l (nx l p 10).2 ins).2 ins).1 0 (bX (I.v (Value.int IntKind.i64 (IntKind.i64.wrap (5+(nx l p 10).1))))) (Int.ofNat aa.1))).2 i)))]/\QE (.t []) [(aE l ((lv l (vl l (vl l (nx l p 10).2 ins).2 ins).2 ins fuel param).2)),(aU 0 6 ((sn ins (cr 4 (vl l (nx l p 10).2 ins).1 (vl l (vl l (nx l p 10).2 ins).2 ins).1 0 (bX (I.v (Value.int IntKind.i64 (IntKind.i64.wrap (5+(nx l p 10).1))))) (Int.ofNat aa.1))).1) 5 ((sx aa (lv l (vl l (vl l (nx l p 10).2 ins).2 ins).2 ins fuel param).1).1) fuel (↑param:Int)),.dead,.dead,(.box (fF 4 (vl l (nx l p 10).2 ins).1 (vl l (vl l (nx l p 10).2 ins).2 ins).1 0 (bX (I.v (Value.int IntKind.i64 (IntKind.i64.wrap (5+(nx l p 10).1))))) (Int.ofNat aa.1))),(.arr 68 3 ((sx aa (lv l (vl l (vl l (nx l p 10).2 ins).2 ins).2 ins fuel param).1).1) (λi=>bG ((sx aa (lv l (vl l (vl l (nx l p 10).2 ins).2 ins).2 ins fuel param).1).2 i))),(.arr 40 14 ((sn ins (cr 4 (vl l (nx l p 10).2 ins).1 (vl l (vl l (nx l p 10).2 ins).2 ins).1 0 (bX (I.v (Value.int IntKind.i64 (IntKind.i64.wrap (5+(nx l p 10).1))))) (Int.ofNat aa.1))).1) (λi=>bQ ((sn ins (cr 4 (vl l (nx l p 10).2 ins).1 (vl l (vl l (nx l p 10).2 ins).2 ins).1 0 (bX (I.v (Value.int IntKind.i64 (IntKind.i64.wrap (5+(nx l p 10).1))))) (Int.ofNat aa.1))).2 i)))])))))):cW (ml l sn sx) 14 fg L QE 7 (xZ sn sx l p ins aa fuel param ):=km h
def AW (sn:Sq ak->ak->Sq ak) (sx:Sq ai->ai->Sq ai) (l:Sq Int) (p:Nat) (ins:Sq ak) (aa:Sq ai) (fuel:Int) (param:Nat)  : VS:=(sm l p ins aa fuel param)
abbrev nI:D:=int ((vl aj (nx aj aA 2).2 aB).1)
abbrev nH:ae:=aE aj ((vl aj (nx aj aA 2).2 aB).2)
abbrev Gx (aj:Sq ai->ai->Sq ai) (aA:Sq ai) (aB:Sq Int) (aT:Nat) (bp:Sq ak) (bP:Int) (bU:Nat):ae:=.arr 68 3 ((aj aA (lv aB (vl aB (nx aB aT 2).2 bp).2 bp bP bU).1).1) (λi=>bG ((aj aA (lv aB (vl aB (nx aB aT 2).2 bp).2 bp bP bU).1).2 i))
theorem Ta (h:(WC 11 ln (mw l p ins aa fuel param) (nU l p) 0 (aE l ((nx l p 2).2))/\(WC 15 dY [(gy l p),(cH ins aa fuel param),(bq ins),(bK aa)] (nI l p ins) 0 (aE l ((vl l (nx l p 2).2 ins).2))/\(LC 13 dY [(nH l p ins),(cH ins aa fuel param),(bq ins),(bK aa),(.box (fF 3 (vl l (nx l p 2).2 ins).1 0 0 (bX (I.v (Value.int IntKind.i64 (IntKind.i64.wrap (3+(nx l p 2).1))))) 0))] (jF aa) [(aE l ((lv l (vl l (nx l p 2).2 ins).2 ins fuel param).2)),(aU 0 2 ins.1 5 ((sx aa (lv l (vl l (nx l p 2).2 ins).2 ins fuel param).1).1) fuel (↑param:Int)),(bq ins),.dead,(.box (fF 3 (vl l (nx l p 2).2 ins).1 0 0 (bX (I.v (Value.int IntKind.i64 (IntKind.i64.wrap (3+(nx l p 2).1))))) 0)),(Gx sx aa l p ins fuel param)]/\(LC 12 [(.c (.rt 1 0 0)),(.a (fF 3 (vl l (nx l p 2).2 ins).1 0 0 (bX (I.v (Value.int IntKind.i64 (IntKind.i64.wrap (3+(nx l p 2).1))))) (Int.ofNat aa.1)))] [(aE l ((lv l (vl l (nx l p 2).2 ins).2 ins fuel param).2)),(aU 0 2 ins.1 5 ((sx aa (lv l (vl l (nx l p 2).2 ins).2 ins fuel param).1).1) fuel (↑param:Int)),(bq ins),.dead,(.box (fF 3 (vl l (nx l p 2).2 ins).1 0 0 (bX (I.v (Value.int IntKind.i64 (IntKind.i64.wrap (3+(nx l p 2).1))))) (Int.ofNat aa.1))),(Gx sx aa l p ins fuel param)] (ei ins) [(aE l ((lv l (vl l (nx l p 2).2 ins).2 ins fuel param).2)),(aU 0 6 ((sn ins (cr 3 (vl l (nx l p 2).2 ins).1 0 0 (bX (I.v (Value.int IntKind.i64 (IntKind.i64.wrap (3+(nx l p 2).1))))) (Int.ofNat aa.1))).1) 5 ((sx aa (lv l (vl l (nx l p 2).2 ins).2 ins fuel param).1).1) fuel (↑param:Int)),.dead,.dead,(.box (fF 3 (vl l (nx l p 2).2 ins).1 0 0 (bX (I.v (Value.int IntKind.i64 (IntKind.i64.wrap (3+(nx l p 2).1))))) (Int.ofNat aa.1))),(Gx sx aa l p ins fuel param),(.arr 40 14 ((sn ins (cr 3 (vl l (nx l p 2).2 ins).1 0 0 (bX (I.v (Value.int IntKind.i64 (IntKind.i64.wrap (3+(nx l p 2).1))))) (Int.ofNat aa.1))).1) (λi=>bQ ((sn ins (cr 3 (vl l (nx l p 2).2 ins).1 0 0 (bX (I.v (Value.int IntKind.i64 (IntKind.i64.wrap (3+(nx l p 2).1))))) (Int.ofNat aa.1))).2 i)))]/\QE (.t []) [(aE l ((lv l (vl l (nx l p 2).2 ins).2 ins fuel param).2)),(aU 0 6 ((sn ins (cr 3 (vl l (nx l p 2).2 ins).1 0 0 (bX (I.v (Value.int IntKind.i64 (IntKind.i64.wrap (3+(nx l p 2).1))))) (Int.ofNat aa.1))).1) 5 ((sx aa (lv l (vl l (nx l p 2).2 ins).2 ins fuel param).1).1) fuel (↑param:Int)),.dead,.dead,(.box (fF 3 (vl l (nx l p 2).2 ins).1 0 0 (bX (I.v (Value.int IntKind.i64 (IntKind.i64.wrap (3+(nx l p 2).1))))) (Int.ofNat aa.1))),(.arr 68 3 ((sx aa (lv l (vl l (nx l p 2).2 ins).2 ins fuel param).1).1) (λi=>bG ((sx aa (lv l (vl l (nx l p 2).2 ins).2 ins fuel param).1).2 i))),(.arr 40 14 ((sn ins (cr 3 (vl l (nx l p 2).2 ins).1 0 0 (bX (I.v (Value.int IntKind.i64 (IntKind.i64.wrap (3+(nx l p 2).1))))) (Int.ofNat aa.1))).1) (λi=>bQ ((sn ins (cr 3 (vl l (nx l p 2).2 ins).1 0 0 (bX (I.v (Value.int IntKind.i64 (IntKind.i64.wrap (3+(nx l p 2).1))))) (Int.ofNat aa.1))).2 i)))]))))):cW (ml l sn sx) 14 fg L QE 11 (AW sn sx l p ins aa fuel param ):=km h
def Cy (sn:Sq ak->ak->Sq ak) (sx:Sq ai->ai->Sq ai) (l:Sq Int) (p:Nat) (ins:Sq ak) (aa:Sq ai) (fuel:Int) (param:Nat)  : VS:=(sm l p ins aa fuel param)
abbrev nV:ae:=.row 3 1 2 [(ci 10),(ci 11)]
abbrev Pw:ae:=.box (fF 4 (vl aj (nx aj aA 2).2 aB).1 (vl aj (vl aj (nx aj aA 2).2 aB).2 aB).1 0 10 0)
abbrev tF (aT:Int) (bp:Nat):ae:=aE aj ((lv aj (vl aj (vl aj (nx aj aA 2).2 aB).2 aB).2 aB aT bp).2)
abbrev Be (aj:Sq ak) (aA:Sq ai->ai->Sq ai) (aB:Sq ai) (aT:Sq Int) (bp:Nat) (bP:Int) (bU:Nat):ae:=aU 0 2 aj.1 9 ((aA aB (lv aT (vl aT (vl aT (nx aT bp 2).2 aj).2 aj).2 aj bP bU).1).1) bP (↑bU:Int)
abbrev zj (aj:Sq ai->ai->Sq ai) (aA:Sq ai) (aB:Sq Int) (aT:Nat) (bp:Sq ak) (bP:Int) (bU:Nat):ae:=.arr 68 3 ((aj aA (lv aB (vl aB (vl aB (nx aB aT 2).2 bp).2 bp).2 bp bP bU).1).1) (λi=>bG ((aj aA (lv aB (vl aB (vl aB (nx aB aT 2).2 bp).2 bp).2 bp bP bU).1).2 i))
abbrev Hu:List C:=fF 4 (vl aj (nx aj aA 2).2 aB).1 (vl aj (vl aj (nx aj aA 2).2 aB).2 aB).1 0 10 (Int.ofNat aT.1)
abbrev O8:ae:=.box (fF 4 (vl aj (nx aj aA 2).2 aB).1 (vl aj (vl aj (nx aj aA 2).2 aB).2 aB).1 0 11 0)
abbrev Hk:List C:=fF 4 (vl aj (nx aj aA 2).2 aB).1 (vl aj (vl aj (nx aj aA 2).2 aB).2 aB).1 0 11 (Int.ofNat aT.1)
abbrev Z2 (bp:Int) (bP:Nat) (bU:Sq ai->ai->Sq ai) (jN:Sq ak->ak->Sq ak) (yh:LP):Prop:=(WC 15 dY [(gy aj aA),(cH aB aT bp bP),(bq aB),(bK aT),nV,.dead,.dead,.dead,.dead] (nI aj aA aB) 0 (aE aj ((vl aj (nx aj aA 2).2 aB).2))/\(WC 15 dY [(nH aj aA aB),(cH aB aT bp bP),(bq aB),(bK aT),nV,.dead,.dead,.dead,.dead] (int ((vl aj (vl aj (nx aj aA 2).2 aB).2 aB).1)) 0 (aE aj ((vl aj (vl aj (nx aj aA 2).2 aB).2 aB).2))/\(WC 11 ln [(aE aj aA),(cH aB aT bp bP),(bq aB),(bK aT),.dead,.dead,.dead,.dead,.dead] (nU aj aA) 0 (aE aj ((nx aj aA 2).2))/\nd (dm (nx aj aA 2).1 2) (br ((nx aj aA 2).1.toNat.beq 0) ((WC 15 dY [(gy aj aA),(cH aB aT bp bP),(bq aB),(bK aT),.dead,.dead,.dead,.dead,.dead] (nI aj aA aB) 0 (aE aj ((vl aj (nx aj aA 2).2 aB).2))/\(WC 15 dY [(nH aj aA aB),(cH aB aT bp bP),(bq aB),(bK aT),.dead,.dead,.dead,.dead,.dead] (int ((vl aj (vl aj (nx aj aA 2).2 aB).2 aB).1)) 0 (aE aj ((vl aj (vl aj (nx aj aA 2).2 aB).2 aB).2))/\(LC 13 dY [(aE aj ((vl aj (vl aj (nx aj aA 2).2 aB).2 aB).2)),(cH aB aT bp bP),(bq aB),(bK aT),nV,.dead,.dead,.dead,(Pw aj aA aB)] (jF aT) [(tF aj aA aB bp bP),(Be aB bU aT aj aA bp bP),(bq aB),.dead,nV,.dead,.dead,.dead,(Pw aj aA aB),(zj bU aT aj aA aB bp bP)]/\(LC 12 [(.c (.rt 1 0 0)),(.a (Hu aj aA aB aT))] [(tF aj aA aB bp bP),(Be aB bU aT aj aA bp bP),(bq aB),.dead,nV,.dead,.dead,.dead,(.box (Hu aj aA aB aT)),(zj bU aT aj aA aB bp bP)] (ei aB) [(tF aj aA aB bp bP),(aU 0 10 ((jN aB (cr 4 (vl aj (nx aj aA 2).2 aB).1 (vl aj (vl aj (nx aj aA 2).2 aB).2 aB).1 0 10 (Int.ofNat aT.1))).1) 9 ((bU aT (lv aj (vl aj (vl aj (nx aj aA 2).2 aB).2 aB).2 aB bp bP).1).1) bp (↑bP:Int)),.dead,.dead,nV,.dead,.dead,.dead,(.box (Hu aj aA aB aT)),(zj bU aT aj aA aB bp bP),(.arr 40 14 ((jN aB (cr 4 (vl aj (nx aj aA 2).2 aB).1 (vl aj (vl aj (nx aj aA 2).2 aB).2 aB).1 0 10 (Int.ofNat aT.1))).1) (λi=>bQ ((jN aB (cr 4 (vl aj (nx aj aA 2).2 aB).1 (vl aj (vl aj (nx aj aA 2).2 aB).2 aB).1 0 10 (Int.ofNat aT.1))).2 i)))]/\yh (ah 14 18) ⟨[(0,((.c (.rt 1 0 0)),[])),(2,((.c (.rt 0 0 0)),[])),(6,((int (↑aB.1:Int)),[]))],[(aE aj ((lv aj (vl aj (vl aj (nx aj aA 2).2 aB).2 aB).2 aB bp bP).2)),(aU 0 10 ((jN aB (cr 4 (vl aj (nx aj aA 2).2 aB).1 (vl aj (vl aj (nx aj aA 2).2 aB).2 aB).1 0 10 (Int.ofNat aT.1))).1) 9 ((bU aT (lv aj (vl aj (vl aj (nx aj aA 2).2 aB).2 aB).2 aB bp bP).1).1) bp (↑bP:Int)),.dead,.dead,(.row 3 1 2 [(ci 10),(ci 11)]),.dead,.dead,.dead,(.box (fF 4 (vl aj (nx aj aA 2).2 aB).1 (vl aj (vl aj (nx aj aA 2).2 aB).2 aB).1 0 10 (Int.ofNat aT.1))),(.arr 68 3 ((bU aT (lv aj (vl aj (vl aj (nx aj aA 2).2 aB).2 aB).2 aB bp bP).1).1) (λi=>bG ((bU aT (lv aj (vl aj (vl aj (nx aj aA 2).2 aB).2 aB).2 aB bp bP).1).2 i))),(.arr 40 14 ((jN aB (cr 4 (vl aj (nx aj aA 2).2 aB).1 (vl aj (vl aj (nx aj aA 2).2 aB).2 aB).1 0 10 (Int.ofNat aT.1))).1) (λi=>bQ ((jN aB (cr 4 (vl aj (nx aj aA 2).2 aB).1 (vl aj (vl aj (nx aj aA 2).2 aB).2 aB).1 0 10 (Int.ofNat aT.1))).2 i)))],[]⟩))))) (br ((nx aj aA 2).1.toNat.beq 1) ((WC 15 dY [(gy aj aA),(cH aB aT bp bP),(bq aB),(bK aT),.dead,.dead,.dead,.dead,.dead] (nI aj aA aB) 0 (aE aj ((vl aj (nx aj aA 2).2 aB).2))/\(WC 15 dY [(nH aj aA aB),(cH aB aT bp bP),(bq aB),(bK aT),.dead,.dead,.dead,.dead,.dead] (int ((vl aj (vl aj (nx aj aA 2).2 aB).2 aB).1)) 0 (aE aj ((vl aj (vl aj (nx aj aA 2).2 aB).2 aB).2))/\(LC 13 dY [(aE aj ((vl aj (vl aj (nx aj aA 2).2 aB).2 aB).2)),(cH aB aT bp bP),(bq aB),(bK aT),nV,.dead,.dead,.dead,(O8 aj aA aB)] (jF aT) [(tF aj aA aB bp bP),(Be aB bU aT aj aA bp bP),(bq aB),.dead,nV,.dead,.dead,.dead,(O8 aj aA aB),(zj bU aT aj aA aB bp bP)]/\(LC 12 [(.c (.rt 1 0 0)),(.a (Hk aj aA aB aT))] [(tF aj aA aB bp bP),(Be aB bU aT aj aA bp bP),(bq aB),.dead,nV,.dead,.dead,.dead,(.box (Hk aj aA aB aT)),(zj bU aT aj aA aB bp bP)] (ei aB) [(tF aj aA aB bp bP),(aU 0 10 ((jN aB (cr 4 (vl aj (nx aj aA 2).2 aB).1 (vl aj (vl aj (nx aj aA 2).2 aB).2 aB).1 0 11 (Int.ofNat aT.1))).1) 9 ((bU aT (lv aj (vl aj (vl aj (nx aj aA 2).2 aB).2 aB).2 aB bp bP).1).1) bp (↑bP:Int)),.dead,.dead,nV,.dead,.dead,.dead,(.box (Hk aj aA aB aT)),(zj bU aT aj aA aB bp bP),(.arr 40 14 ((jN aB (cr 4 (vl aj (nx aj aA 2).2 aB).1 (vl aj (vl aj (nx aj aA 2).2 aB).2 aB).1 0 11 (Int.ofNat aT.1))).1) (λi=>bQ ((jN aB (cr 4 (vl aj (nx aj aA 2).2 aB).1 (vl aj (vl aj (nx aj aA 2).2 aB).2 aB).1 0 11 (Int.ofNat aT.1))).2 i)))]/\yh (ah 14 18) ⟨[(0,((.c (.rt 1 0 0)),[])),(2,((.c (.rt 0 0 0)),[])),(6,((int (↑aB.1:Int)),[]))],[(aE aj ((lv aj (vl aj (vl aj (nx aj aA 2).2 aB).2 aB).2 aB bp bP).2)),(aU 0 10 ((jN aB (cr 4 (vl aj (nx aj aA 2).2 aB).1 (vl aj (vl aj (nx aj aA 2).2 aB).2 aB).1 0 11 (Int.ofNat aT.1))).1) 9 ((bU aT (lv aj (vl aj (vl aj (nx aj aA 2).2 aB).2 aB).2 aB bp bP).1).1) bp (↑bP:Int)),.dead,.dead,(.row 3 1 2 [(ci 10),(ci 11)]),.dead,.dead,.dead,(.box (fF 4 (vl aj (nx aj aA 2).2 aB).1 (vl aj (vl aj (nx aj aA 2).2 aB).2 aB).1 0 11 (Int.ofNat aT.1))),(.arr 68 3 ((bU aT (lv aj (vl aj (vl aj (nx aj aA 2).2 aB).2 aB).2 aB bp bP).1).1) (λi=>bG ((bU aT (lv aj (vl aj (vl aj (nx aj aA 2).2 aB).2 aB).2 aB bp bP).1).2 i))),(.arr 40 14 ((jN aB (cr 4 (vl aj (nx aj aA 2).2 aB).1 (vl aj (vl aj (nx aj aA 2).2 aB).2 aB).1 0 11 (Int.ofNat aT.1))).1) (λi=>bQ ((jN aB (cr 4 (vl aj (nx aj aA 2).2 aB).1 (vl aj (vl aj (nx aj aA 2).2 aB).2 aB).1 0 11 (Int.ofNat aT.1))).2 i)))],[]⟩))))) (False))))))
theorem TB (h:(WC 11 ln [(aE l p),(cH ins aa fuel param),(bq ins),(bK aa),nV,.dead,.dead,.dead,.dead] (nU l p) 0 (aE l ((nx l p 2).2))/\nd (dm (nx l p 2).1 2) (br ((nx l p 2).1.toNat.beq 0) (Z2 l p ins aa fuel param sx sn L) (br ((nx l p 2).1.toNat.beq 1) (Z2 l p ins aa fuel param sx sn L) (False))))):cW (ml l sn sx) 14 fg L QE 15 (Cy sn sx l p ins aa fuel param ):=km h
abbrev tO (bp:Int) (bP:Nat):List ae:=[aE aj aA,aU 0 5 aB.n 4 aT.n bp bP,.dead,.dead,lB aT,cX aB]
def vm (sn:Sq ak->ak->Sq ak) (sx:Sq ai->ai->Sq ai) (l:Sq Int) (p:Nat) (ins:Sq ak) (aa:Sq ai) (fuel:Int) (param:Nat) (c:Int):VS:=⟨[kD,iO,(6,int c,[])],(tO l p ins aa fuel param),[]⟩
abbrev iT (aj:Sq ak) (aA:Sq ai) (aB:Int) (aT:Nat):ae:=aU 0 5 aj.1 4 aA.1 aB (↑aT:Int)
abbrev xm (bp:Int) (bP:Nat):List ae:=[(aE aj aA),(iT aB aT bp bP),.dead,.dead,(bK aT),(bq aB)]
abbrev HX (aj:Sq ai->ai->Sq ai) (aA:Sq ai) (aB:Sq Int) (aT:Nat) (bp:Sq ak) (bP:Int) (bU:Nat):ae:=.arr 68 3 ((aj aA (lv aB (nx aB aT 2).2 bp bP bU).1).1) (λi=>bG ((aj aA (lv aB (nx aB aT 2).2 bp bP bU).1).2 i))
theorem Sy (h:(WC 11 ln (xm l p ins aa fuel param) (nU l p) 0 (aE l ((nx l p 2).2))/\(LC 13 dY [(gy l p),(iT ins aa fuel param),.dead,.dead,(bK aa),(bq ins),(.box (fF 5 c 0 0 (nx l p 2).1 0))] (jF aa) [(aE l ((lv l (nx l p 2).2 ins fuel param).2)),(aU 0 5 ins.1 7 ((sx aa (lv l (nx l p 2).2 ins fuel param).1).1) fuel (↑param:Int)),.dead,.dead,.dead,(bq ins),(.box (fF 5 c 0 0 (nx l p 2).1 0)),(HX sx aa l p ins fuel param)]/\(LC 12 [(.c (.rt 1 0 0)),(.a (fF 5 c 0 0 (nx l p 2).1 (Int.ofNat aa.1)))] [(aE l ((lv l (nx l p 2).2 ins fuel param).2)),(aU 0 5 ins.1 7 ((sx aa (lv l (nx l p 2).2 ins fuel param).1).1) fuel (↑param:Int)),.dead,.dead,.dead,(bq ins),(.box (fF 5 c 0 0 (nx l p 2).1 (Int.ofNat aa.1))),(HX sx aa l p ins fuel param)] (ei ins) [(aE l ((lv l (nx l p 2).2 ins fuel param).2)),(aU 0 8 ((sn ins (cr 5 c 0 0 (nx l p 2).1 (Int.ofNat aa.1))).1) 7 ((sx aa (lv l (nx l p 2).2 ins fuel param).1).1) fuel (↑param:Int)),.dead,.dead,.dead,.dead,(.box (fF 5 c 0 0 (nx l p 2).1 (Int.ofNat aa.1))),(HX sx aa l p ins fuel param),(.arr 40 14 ((sn ins (cr 5 c 0 0 (nx l p 2).1 (Int.ofNat aa.1))).1) (λi=>bQ ((sn ins (cr 5 c 0 0 (nx l p 2).1 (Int.ofNat aa.1))).2 i)))]/\QE (.t []) [(aE l ((lv l (nx l p 2).2 ins fuel param).2)),(aU 0 8 ((sn ins (cr 5 c 0 0 (nx l p 2).1 (Int.ofNat aa.1))).1) 7 ((sx aa (lv l (nx l p 2).2 ins fuel param).1).1) fuel (↑param:Int)),.dead,.dead,.dead,.dead,(.box (fF 5 c 0 0 (nx l p 2).1 (Int.ofNat aa.1))),(.arr 68 3 ((sx aa (lv l (nx l p 2).2 ins fuel param).1).1) (λi=>bG ((sx aa (lv l (nx l p 2).2 ins fuel param).1).2 i))),(.arr 40 14 ((sn ins (cr 5 c 0 0 (nx l p 2).1 (Int.ofNat aa.1))).1) (λi=>bQ ((sn ins (cr 5 c 0 0 (nx l p 2).1 (Int.ofNat aa.1))).2 i)))])))):cW (ml l sn sx) 14 fg L QE 18 (vm sn sx l p ins aa fuel param c):=km h
def vA (sn:Sq ak->ak->Sq ak) (sx:Sq ai->ai->Sq ai) (l:Sq Int) (p:Nat) (ins:Sq ak) (aa:Sq ai) (fuel:Int) (param:Nat)  : VS:=(sm l p ins aa fuel param)
abbrev IP (aT:Int) (bp:Nat) (bP:Sq ak->ak->Sq ak) (bU:Sq ai) (jN:Sq ai->ai->Sq ai):List ae:=[(aE aj ((eZ aj aA aB aT bp).2)),(aU 0 5 ((bP aB (iE aj aA aB bp bU.1)).1) 4 ((jN bU (eZ aj aA aB aT bp).1).1) aT (↑bp:Int)),.dead,.dead,(.arr 68 3 ((jN bU (eZ aj aA aB aT bp).1).1) (λi=>bG ((jN bU (eZ aj aA aB aT bp).1).2 i))),(.arr 40 14 ((bP aB (iE aj aA aB bp bU.1)).1) (λi=>bQ ((bP aB (iE aj aA aB bp bU.1)).2 i)))]
theorem Tt (h:(LC 23 dY (mw l p ins aa fuel param) (int ((gj l p ins param).1)) (IP l p ins fuel param sn aa sx)/\L (ah 14 24) ⟨[dG,dw,(8,((int ((gj l p ins param).1)),[]))],(IP l p ins fuel param sn aa sx),[]⟩)):cW (ml l sn sx) 14 fg L QE 23 (vA sn sx l p ins aa fuel param ):=km h
def Cc (sn:Sq ak->ak->Sq ak) (sx:Sq ai->ai->Sq ai) (l:Sq Int) (p:Nat) (ins:Sq ak) (aa:Sq ai) (fuel:Int) (param:Nat) (c:Int):VS:=⟨[kD,iO,(8,int c,[])],(tO l p ins aa fuel param),[]⟩
abbrev Va (bp:Int) (bP:Nat) (bU:Int) (jN:Sq ak->ak->Sq ak) (yh:D->List ae->Prop):Prop:=WC 11 ln (xm aj aA aB aT bp bP) (nU aj aA) 0 (aE aj ((nx aj aA 2).2))/\(LC 12 [(.c (.rt 1 0 0)),(.a (fF 10 bU 0 0 (nx aj aA 2).1 (-1)))] [(gy aj aA),(iT aB aT bp bP),.dead,.dead,(bK aT),(bq aB)] (ei aB) [(gy aj aA),(aU 0 6 ((jN aB (cr 10 bU 0 0 (nx aj aA 2).1 (-1))).1) 4 aT.1 bp (↑bP:Int)),.dead,.dead,(bK aT),.dead,(.arr 40 14 ((jN aB (cr 10 bU 0 0 (nx aj aA 2).1 (-1))).1) (λi=>bQ ((jN aB (cr 10 bU 0 0 (nx aj aA 2).1 (-1))).2 i)))]/\yh (.t []) [(aE aj ((nx aj aA 2).2)),(aU 0 6 ((jN aB (cr 10 bU 0 0 (nx aj aA 2).1 (-1))).1) 4 aT.1 bp (↑bP:Int)),.dead,.dead,(.arr 68 3 aT.1 (λi=>bG (aT.2 i))),.dead,(.arr 40 14 ((jN aB (cr 10 bU 0 0 (nx aj aA 2).1 (-1))).1) (λi=>bQ ((jN aB (cr 10 bU 0 0 (nx aj aA 2).1 (-1))).2 i)))])
theorem RM (h:(Va l p ins aa fuel param c sn QE)):cW (ml l sn sx) 14 fg L QE 24 (Cc sn sx l p ins aa fuel param c):=km h
def A9 (sn:Sq ak->ak->Sq ak) (sx:Sq ai->ai->Sq ai) (l:Sq Int) (p:Nat) (ins:Sq ak) (aa:Sq ai) (fuel:Int) (param:Nat)  : VS:=(sm l p ins aa fuel param)
theorem Tg (h:(LC 23 dY (mw l p ins aa fuel param) (int ((gj l p ins param).1)) (IP l p ins fuel param sn aa sx)/\L (ah 14 27) ⟨[dG,dw,(9,((int ((gj l p ins param).1)),[]))],(IP l p ins fuel param sn aa sx),[]⟩)):cW (ml l sn sx) 14 fg L QE 26 (A9 sn sx l p ins aa fuel param ):=km h
def BR (sn:Sq ak->ak->Sq ak) (sx:Sq ai->ai->Sq ai) (l:Sq Int) (p:Nat) (ins:Sq ak) (aa:Sq ai) (fuel:Int) (param:Nat) (c:Int):VS:=⟨[kD,iO,(9,int c,[])],(tO l p ins aa fuel param),[]⟩
theorem Rp (h:(WC 15 dY (xm l p ins aa fuel param) (int ((vl l p ins).1)) 0 (aE l ((vl l p ins).2))/\(WC 11 ln [(aE l ((vl l p ins).2)),(iT ins aa fuel param),.dead,.dead,(bK aa),(bq ins)] (int ((nx l (vl l p ins).2 2).1)) 0 (aE l ((nx l (vl l p ins).2 2).2))/\(LC 12 [(.c (.rt 1 0 0)),(.a (fF 11 c (vl l p ins).1 0 (nx l (vl l p ins).2 2).1 (-1)))] [(vS l p ins),(iT ins aa fuel param),.dead,.dead,(bK aa),(bq ins)] (ei ins) [(vS l p ins),(aU 0 6 ((sn ins (cr 11 c (vl l p ins).1 0 (nx l (vl l p ins).2 2).1 (-1))).1) 4 aa.1 fuel (↑param:Int)),.dead,.dead,(bK aa),.dead,(.arr 40 14 ((sn ins (cr 11 c (vl l p ins).1 0 (nx l (vl l p ins).2 2).1 (-1))).1) (λi=>bQ ((sn ins (cr 11 c (vl l p ins).1 0 (nx l (vl l p ins).2 2).1 (-1))).2 i)))]/\QE (.t []) [(aE l ((nx l (vl l p ins).2 2).2)),(aU 0 6 ((sn ins (cr 11 c (vl l p ins).1 0 (nx l (vl l p ins).2 2).1 (-1))).1) 4 aa.1 fuel (↑param:Int)),.dead,.dead,(.arr 68 3 aa.1 (λi=>bG (aa.2 i))),.dead,(.arr 40 14 ((sn ins (cr 11 c (vl l p ins).1 0 (nx l (vl l p ins).2 2).1 (-1))).1) (λi=>bQ ((sn ins (cr 11 c (vl l p ins).1 0 (nx l (vl l p ins).2 2).1 (-1))).2 i)))])))):cW (ml l sn sx) 14 fg L QE 27 (BR sn sx l p ins aa fuel param c):=km h
def uW (sn:Sq ak->ak->Sq ak) (sx:Sq ai->ai->Sq ai) (l:Sq Int) (p:Nat) (ins:Sq ak) (aa:Sq ai) (fuel:Int) (param:Nat)  : VS:=(sm l p ins aa fuel param)
abbrev Nw (aT:Int) (bp:Nat) (bP:Sq ak->ak->Sq ak) (bU:Sq ai) (jN:Sq ai->ai->Sq ai):List ae:=[(aE aj ((lv aj aA aB aT bp).2)),(aU 0 6 ((bP aB (cr 15 0 0 0 32 (Int.ofNat bU.1))).1) 5 ((jN bU (lv aj aA aB aT bp).1).1) aT (↑bp:Int)),.dead,.dead,(.box (fF 15 0 0 0 32 (Int.ofNat bU.1))),(zc jN bU aj aA aB aT bp),(.arr 40 14 ((bP aB (cr 15 0 0 0 32 (Int.ofNat bU.1))).1) (λi=>bQ ((bP aB (cr 15 0 0 0 32 (Int.ofNat bU.1))).2 i)))]
theorem R0 (h:(LC 13 dY [(aE l p),(cH ins aa fuel param),(bq ins),(bK aa),(.box (fF 15 0 0 0 32 0))] (jF aa) [(aE l ((lv l p ins fuel param).2)),(aU 0 2 ins.1 5 ((sx aa (lv l p ins fuel param).1).1) fuel (↑param:Int)),(bq ins),.dead,(.box (fF 15 0 0 0 32 0)),(zc sx aa l p ins fuel param)]/\(LC 12 [(.c (.rt 1 0 0)),(.a (fF 15 0 0 0 32 (Int.ofNat aa.1)))] [(aE l ((lv l p ins fuel param).2)),(aU 0 2 ins.1 5 ((sx aa (lv l p ins fuel param).1).1) fuel (↑param:Int)),(bq ins),.dead,(.box (fF 15 0 0 0 32 (Int.ofNat aa.1))),(zc sx aa l p ins fuel param)] (ei ins) (Nw l p ins fuel param sn aa sx)/\L (ah 14 33) ⟨[dG,dw],(Nw l p ins fuel param sn aa sx),[]⟩))):cW (ml l sn sx) 14 fg L QE 30 (uW sn sx l p ins aa fuel param ):=km h
def B7 (sn:Sq ak->ak->Sq ak) (sx:Sq ai->ai->Sq ai) (l:Sq Int) (p:Nat) (ins:Sq ak) (aa:Sq ai) (fuel:Int) (param:Nat)  : VS:=⟨[kD,iO],(tO l p ins aa fuel param),[]⟩
abbrev T7 (aB:Sq ak->ak->Sq ak) (aT:Sq ak) (bp:Sq ai) (bP:Int) (bU:Nat):List ae:=[(aE aj aA),(aU 0 6 ((aB aT { op:=Int.ofNat 16,a:=Int.ofNat 0,b:=Int.ofNat 0,c:=Int.ofNat 0,n:=Int.ofNat 0,args:={ n:=0,get:=λx=>Int.ofNat 0 },k:={ kind:=Int.ofNat 0,n:=Int.ofNat 0,s:={ data:={ toList:=[] } } },names:={ n:=2,get:=λi=>rS (dF (KK.get i)) },place:={ fn:=Int.ofNat 0,line:=Int.ofNat 0 },exit:=Int.negSucc 0,once:=false }).1) 4 bp.1 bP (↑bU:Int)),.dead,.dead,(bK bp),.dead,(.arr 40 14 ((aB aT { op:=Int.ofNat 16,a:=Int.ofNat 0,b:=Int.ofNat 0,c:=Int.ofNat 0,n:=Int.ofNat 0,args:={ n:=0,get:=λx=>Int.ofNat 0 },k:={ kind:=Int.ofNat 0,n:=Int.ofNat 0,s:={ data:={ toList:=[] } } },names:={ n:=2,get:=λi=>rS (dF (KK.get i)) },place:={ fn:=Int.ofNat 0,line:=Int.ofNat 0 },exit:=Int.negSucc 0,once:=false }).1) (λi=>bQ ((aB aT { op:=Int.ofNat 16,a:=Int.ofNat 0,b:=Int.ofNat 0,c:=Int.ofNat 0,n:=Int.ofNat 0,args:={ n:=0,get:=λx=>Int.ofNat 0 },k:={ kind:=Int.ofNat 0,n:=Int.ofNat 0,s:={ data:={ toList:=[] } } },names:={ n:=2,get:=λi=>rS (dF (KK.get i)) },place:={ fn:=Int.ofNat 0,line:=Int.ofNat 0 },exit:=Int.negSucc 0,once:=false }).2 i)))]
theorem RT (h:(LC 24 [] [] (.c wa) []/\(LC 12 [(.c (.rt 1 0 0)),(.a [(ci 16),(ci 0),(ci 0),(ci 0),(ci 0),dO,(ci 0),(ci 0),eR,wa,(ci 0),(ci 0),(ci (-1)),dn])] (xm l p ins aa fuel param) (ei ins) (T7 l p sn ins aa fuel param)/\L (ah 14 34) ⟨[dG,dw,(11,((ei ins),[]))],(T7 l p sn ins aa fuel param),[]⟩))):cW (ml l sn sx) 14 fg L QE 33 (B7 sn sx l p ins aa fuel param ):=km h
def BQ (sn:Sq ak->ak->Sq ak) (sx:Sq ai->ai->Sq ai) (l:Sq Int) (p:Nat) (ins:Sq ak) (aa:Sq ai) (fuel:Int) (param:Nat) (c:Int):VS:=⟨[kD,iO,(11,int c,[])],(tO l p ins aa fuel param),[]⟩
abbrev UX (aB:Nat) (aT:Sq ak->ak->Sq ak) (bp:Sq ak) (bP:Int) (bU:Sq ai) (jN:Int):List ae:=[(aE aj ((nx aj (nx aj aA (↑aB:Int)).2 2).2)),(aU 0 6 ((aT bp (cr 11 bP (nx aj aA (↑aB:Int)).1 0 (nx aj (nx aj aA (↑aB:Int)).2 2).1 (-1))).1) 4 bU.1 jN (↑aB:Int)),.dead,.dead,(bK bU),.dead,(.arr 40 14 ((aT bp (cr 11 bP (nx aj aA (↑aB:Int)).1 0 (nx aj (nx aj aA (↑aB:Int)).2 2).1 (-1))).1) (λi=>bQ ((aT bp (cr 11 bP (nx aj aA (↑aB:Int)).1 0 (nx aj (nx aj aA (↑aB:Int)).2 2).1 (-1))).2 i)))]
theorem S8 (h:(WC 11 [(.c (.rt 0 0 0)),(gS param)] (xm l p ins aa fuel param) (int ((nx l p (↑param:Int)).1)) 0 (aE l ((nx l p (↑param:Int)).2))/\(WC 11 ln [(aE l ((nx l p (↑param:Int)).2)),(iT ins aa fuel param),.dead,.dead,(bK aa),(bq ins)] (int ((nx l (nx l p (↑param:Int)).2 2).1)) 0 (aE l ((nx l (nx l p (↑param:Int)).2 2).2))/\(LC 12 [(.c (.rt 1 0 0)),(.a (fF 11 c (nx l p (↑param:Int)).1 0 (nx l (nx l p (↑param:Int)).2 2).1 (-1)))] [(aE l ((nx l (nx l p (↑param:Int)).2 2).2)),(iT ins aa fuel param),.dead,.dead,(bK aa),(bq ins)] (ei ins) (UX l p param sn ins c aa fuel)/\L (ah 14 35) ⟨[dG,dw,(11,((int c),[]))],(UX l p param sn ins c aa fuel),[]⟩)))):cW (ml l sn sx) 14 fg L QE 34 (BQ sn sx l p ins aa fuel param c):=km h
def A3 (sn:Sq ak->ak->Sq ak) (sx:Sq ai->ai->Sq ai) (l:Sq Int) (p:Nat) (ins:Sq ak) (aa:Sq ai) (fuel:Int) (param:Nat) (c:Int):VS:=⟨[kD,iO,(11,int c,[])],(tO l p ins aa fuel param),[]⟩
theorem Tf (h:(Va l p ins aa fuel param c sn QE)):cW (ml l sn sx) 14 fg L QE 35 (A3 sn sx l p ins aa fuel param c):=km h
def CH (sn:Sq ak->ak->Sq ak) (sx:Sq ai->ai->Sq ai) (l:Sq Int) (p:Nat) (ins:Sq ak) (aa:Sq ai) (fuel:Int) (param:Nat)  : VS:=(sm l p ins aa fuel param)
abbrev Gd (aj:Sq ai->ai->Sq ai) (aA:Sq ai) (aB:Sq Int) (aT:Nat) (bp:Sq ak) (bP:Int) (bU:Nat):ae:=.arr 68 3 ((aj aA (lv aB (vl aB (vl aB aT bp).2 bp).2 bp bP bU).1).1) (λi=>bG ((aj aA (lv aB (vl aB (vl aB aT bp).2 bp).2 bp bP bU).1).2 i))
abbrev G3:List C:=fF 9 (vl aj aA aB).1 (vl aj (vl aj aA aB).2 aB).1 0 0 (Int.ofNat aT.1)
abbrev Ut (aT:Int) (bp:Nat) (bP:Sq ak->ak->Sq ak) (bU:Sq ai) (jN:Sq ai->ai->Sq ai):List ae:=[(aE aj ((lv aj (vl aj (vl aj aA aB).2 aB).2 aB aT bp).2)),(aU 0 6 ((bP aB (cr 9 (vl aj aA aB).1 (vl aj (vl aj aA aB).2 aB).1 0 0 (Int.ofNat bU.1))).1) 5 ((jN bU (lv aj (vl aj (vl aj aA aB).2 aB).2 aB aT bp).1).1) aT (↑bp:Int)),.dead,.dead,(.box (G3 aj aA aB bU)),(Gd jN bU aj aA aB aT bp),(.arr 40 14 ((bP aB (cr 9 (vl aj aA aB).1 (vl aj (vl aj aA aB).2 aB).1 0 0 (Int.ofNat bU.1))).1) (λi=>bQ ((bP aB (cr 9 (vl aj aA aB).1 (vl aj (vl aj aA aB).2 aB).1 0 0 (Int.ofNat bU.1))).2 i)))]
theorem TG (h:(WC 15 dY (mw l p ins aa fuel param) (int ((vl l p ins).1)) 0 (aE l ((vl l p ins).2))/\(WC 15 dY [(aE l ((vl l p ins).2)),(cH ins aa fuel param),(bq ins),(bK aa)] (int ((vl l (vl l p ins).2 ins).1)) 0 (aE l ((vl l (vl l p ins).2 ins).2))/\(LC 13 dY [(aE l ((vl l (vl l p ins).2 ins).2)),(cH ins aa fuel param),(bq ins),(bK aa),(.box (fF 9 (vl l p ins).1 (vl l (vl l p ins).2 ins).1 0 0 0))] (jF aa) [(aE l ((lv l (vl l (vl l p ins).2 ins).2 ins fuel param).2)),(aU 0 2 ins.1 5 ((sx aa (lv l (vl l (vl l p ins).2 ins).2 ins fuel param).1).1) fuel (↑param:Int)),(bq ins),.dead,(.box (fF 9 (vl l p ins).1 (vl l (vl l p ins).2 ins).1 0 0 0)),(Gd sx aa l p ins fuel param)]/\(LC 12 [(.c (.rt 1 0 0)),(.a (G3 l p ins aa))] [(aE l ((lv l (vl l (vl l p ins).2 ins).2 ins fuel param).2)),(aU 0 2 ins.1 5 ((sx aa (lv l (vl l (vl l p ins).2 ins).2 ins fuel param).1).1) fuel (↑param:Int)),(bq ins),.dead,(.box (G3 l p ins aa)),(Gd sx aa l p ins fuel param)] (ei ins) (Ut l p ins fuel param sn aa sx)/\L (ah 14 40) ⟨[dG,dw,(12,((.c (.rt 4 0 0)),[]))],(Ut l p ins fuel param sn aa sx),[]⟩))))):cW (ml l sn sx) 14 fg L QE 37 (CH sn sx l p ins aa fuel param ):=km h
def Cd (sn:Sq ak->ak->Sq ak) (sx:Sq ai->ai->Sq ai) (l:Sq Int) (p:Nat) (ins:Sq ak) (aa:Sq ai) (fuel:Int) (param:Nat) (x:ak):VS:=⟨[kD,iO,(12,.c (.rt 6 0 0),[])],[aE l p,aU 0 5 ins.n 4 aa.n fuel param,.dead,.dead,lB aa,cX ins,.box (lift (b8 x))],[]⟩
abbrev NY (aT:Sq ak->ak->Sq ak) (bp:ak) (bP:Sq ai) (bU:Int) (jN:Nat):List ae:=[(nH aj aA aB),(aU 0 9 ((aT aB (cr 13 bp.2 bp.3 (vl aj (nx aj aA 2).2 aB).1 0 (-1))).1) 4 bP.1 bU (↑jN:Int)),.dead,.dead,(bK bP),.dead,(dM bp),.dead,.dead,(.arr 40 14 ((aT aB (cr 13 bp.2 bp.3 (vl aj (nx aj aA 2).2 aB).1 0 (-1))).1) (λi=>bQ ((aT aB (cr 13 bp.2 bp.3 (vl aj (nx aj aA 2).2 aB).1 0 (-1))).2 i)))]
theorem SE (h:(WC 11 ln [(aE l p),(iT ins aa fuel param),.dead,.dead,(bK aa),(bq ins),(dM x)] (nU l p) 0 (aE l ((nx l p 2).2))/\br ((nx l p 2).1==0) ((LC 12 [(.c (.rt 1 0 0)),(.a (fF 12 x.2 x.3 0 0 (-1)))] [(gy l p),(iT ins aa fuel param),.dead,.dead,(bK aa),(bq ins),(dM x)] (ei ins) [(gy l p),(aU 0 7 ((sn ins (cr 12 x.2 x.3 0 0 (-1))).1) 4 aa.1 fuel (↑param:Int)),.dead,.dead,(bK aa),.dead,(dM x),(.arr 40 14 ((sn ins (cr 12 x.2 x.3 0 0 (-1))).1) (λi=>bQ ((sn ins (cr 12 x.2 x.3 0 0 (-1))).2 i)))]/\QE (.t []) [(aE l ((nx l p 2).2)),(aU 0 7 ((sn ins (cr 12 x.2 x.3 0 0 (-1))).1) 4 aa.1 fuel (↑param:Int)),.dead,.dead,(.arr 68 3 aa.1 (λi=>bG (aa.2 i))),.dead,(.box (lift (b8 (x)))),(.arr 40 14 ((sn ins (cr 12 x.2 x.3 0 0 (-1))).1) (λi=>bQ ((sn ins (cr 12 x.2 x.3 0 0 (-1))).2 i)))])) ((WC 15 dY [(gy l p),(iT ins aa fuel param),.dead,.dead,(bK aa),(bq ins),(dM x),.dead,.dead] (nI l p ins) 0 (aE l ((vl l (nx l p 2).2 ins).2))/\(LC 12 [(.c (.rt 1 0 0)),(.a (fF 13 x.2 x.3 (vl l (nx l p 2).2 ins).1 0 (-1)))] [(nH l p ins),(iT ins aa fuel param),.dead,.dead,(bK aa),(bq ins),(dM x),.dead,.dead] (ei ins) (NY l p ins sn x aa fuel param)/\(WC 15 dY [(gy l p),(iT ins aa fuel param),.dead,.dead,(bK aa),(bq ins),(dM x),.dead,.dead] (nI l p ins) 0 (aE l ((vl l (nx l p 2).2 ins).2))/\(LC 12 [(.c (.rt 1 0 0)),(.a (fF 13 x.2 x.3 (vl l (nx l p 2).2 ins).1 0 (-1)))] [(nH l p ins),(iT ins aa fuel param),.dead,.dead,(bK aa),(bq ins),(dM x),.dead,.dead] (ei ins) (NY l p ins sn x aa fuel param)/\QE (.t []) [(aE l ((vl l (nx l p 2).2 ins).2)),(aU 0 9 ((sn ins (cr 13 x.2 x.3 (vl l (nx l p 2).2 ins).1 0 (-1))).1) 4 aa.1 fuel (↑param:Int)),.dead,.dead,(.arr 68 3 aa.1 (λi=>bG (aa.2 i))),.dead,(.box (lift (b8 (x)))),.dead,.dead,(.arr 40 14 ((sn ins (cr 13 x.2 x.3 (vl l (nx l p 2).2 ins).1 0 (-1))).1) (λi=>bQ ((sn ins (cr 13 x.2 x.3 (vl l (nx l p 2).2 ins).1 0 (-1))).2 i)))]))))))):cW (ml l sn sx) 14 fg L QE 40 (Cd sn sx l p ins aa fuel param x):=km h
def B8 (sn:Sq ak->ak->Sq ak) (sx:Sq ai->ai->Sq ai) (l:Sq Int) (p:Nat) (ins:Sq ak) (aa:Sq ai) (fuel:Int) (param:Nat)  : VS:=(sm l p ins aa fuel param)
abbrev Hb (aj:Sq ai->ai->Sq ai) (aA:Sq ai) (aB:Sq Int) (aT:Nat) (bp:Sq ak) (bP:Int) (bU:Nat):ae:=.arr 68 3 ((aj aA (lv aB (vl aB aT bp).2 bp bP bU).1).1) (λi=>bG ((aj aA (lv aB (vl aB aT bp).2 bp bP bU).1).2 i))
abbrev UK (aT:Int) (bp:Nat) (bP:Sq ak->ak->Sq ak) (bU:Sq ai) (jN:Sq ai->ai->Sq ai):List ae:=[(aE aj ((lv aj (vl aj aA aB).2 aB aT bp).2)),(aU 0 6 ((bP aB (cr 8 (vl aj aA aB).1 0 0 0 (Int.ofNat bU.1))).1) 5 ((jN bU (lv aj (vl aj aA aB).2 aB aT bp).1).1) aT (↑bp:Int)),.dead,.dead,(.box (fF 8 (vl aj aA aB).1 0 0 0 (Int.ofNat bU.1))),(Hb jN bU aj aA aB aT bp),(.arr 40 14 ((bP aB (cr 8 (vl aj aA aB).1 0 0 0 (Int.ofNat bU.1))).1) (λi=>bQ ((bP aB (cr 8 (vl aj aA aB).1 0 0 0 (Int.ofNat bU.1))).2 i)))]
theorem TT (h:(WC 15 dY (mw l p ins aa fuel param) (int ((vl l p ins).1)) 0 (aE l ((vl l p ins).2))/\(LC 13 dY [(aE l ((vl l p ins).2)),(cH ins aa fuel param),(bq ins),(bK aa),(.box (fF 8 (vl l p ins).1 0 0 0 0))] (jF aa) [(aE l ((lv l (vl l p ins).2 ins fuel param).2)),(aU 0 2 ins.1 5 ((sx aa (lv l (vl l p ins).2 ins fuel param).1).1) fuel (↑param:Int)),(bq ins),.dead,(.box (fF 8 (vl l p ins).1 0 0 0 0)),(Hb sx aa l p ins fuel param)]/\(LC 12 [(.c (.rt 1 0 0)),(.a (fF 8 (vl l p ins).1 0 0 0 (Int.ofNat aa.1)))] [(aE l ((lv l (vl l p ins).2 ins fuel param).2)),(aU 0 2 ins.1 5 ((sx aa (lv l (vl l p ins).2 ins fuel param).1).1) fuel (↑param:Int)),(bq ins),.dead,(.box (fF 8 (vl l p ins).1 0 0 0 (Int.ofNat aa.1))),(Hb sx aa l p ins fuel param)] (ei ins) (UK l p ins fuel param sn aa sx)/\L (ah 14 47) ⟨[dG,(13,((.c (.rt 4 0 0)),[]))],(UK l p ins fuel param sn aa sx),[]⟩)))):cW (ml l sn sx) 14 fg L QE 44 (B8 sn sx l p ins aa fuel param ):=km h
def BA (sn:Sq ak->ak->Sq ak) (sx:Sq ai->ai->Sq ai) (l:Sq Int) (p:Nat) (ins:Sq ak) (aa:Sq ai) (fuel:Int) (param:Nat) (x:ak):VS:=⟨[kD,(13,.c (.rt 6 0 0),[])],[aE l p,aU 0 5 ins.n 4 aa.n fuel param,.dead,.dead,lB aa,cX ins,.box (lift (b8 x))],[]⟩
theorem RU (h:(LC 12 [(.c (.rt 1 0 0)),(.a (fF 14 x.2 0 0 0 (-1)))] [(aE l p),(iT ins aa fuel param),.dead,.dead,(bK aa),(bq ins),(dM x)] (ei ins) [(aE l p),(aU 0 7 ((sn ins (cr 14 x.2 0 0 0 (-1))).1) 4 aa.1 fuel (↑param:Int)),.dead,.dead,(bK aa),.dead,(dM x),(.arr 40 14 ((sn ins (cr 14 x.2 0 0 0 (-1))).1) (λi=>bQ ((sn ins (cr 14 x.2 0 0 0 (-1))).2 i)))]/\QE (.t []) [(aE l p),(aU 0 7 ((sn ins (cr 14 x.2 0 0 0 (-1))).1) 4 aa.1 fuel (↑param:Int)),.dead,.dead,(.arr 68 3 aa.1 (λi=>bG (aa.2 i))),.dead,(.box (lift (b8 (x)))),(.arr 40 14 ((sn ins (cr 14 x.2 0 0 0 (-1))).1) (λi=>bQ ((sn ins (cr 14 x.2 0 0 0 (-1))).2 i)))])):cW (ml l sn sx) 14 fg L QE 47 (BA sn sx l p ins aa fuel param x):=km h
def Al (sn:Sq ak->ak->Sq ak) (sx:Sq ai->ai->Sq ai) (l:Sq Int) (p:Nat) (ins:Sq ak) (aa:Sq ai) (fuel:Int) (param:Nat)  : VS:=(sm l p ins aa fuel param)
abbrev Iu (aj:Sq ai->ai->Sq ai) (aA:Sq ai) (aB:Sq Int) (aT:Nat) (bp:Sq ak) (bP:Int) (bU:Nat):ae:=.arr 68 3 ((aj aA (lv aB (nx aB (vl aB aT bp).2 4).2 bp bP bU).1).1) (λi=>bG ((aj aA (lv aB (nx aB (vl aB aT bp).2 4).2 bp bP bU).1).2 i))
theorem Sl (h:(WC 15 dY (mw l p ins aa fuel param) (int ((vl l p ins).1)) 0 (aE l ((vl l p ins).2))/\(WC 11 [(.c (.rt 0 0 0)),(int 4)] [(aE l ((vl l p ins).2)),(cH ins aa fuel param),(bq ins),(bK aa)] (int ((nx l (vl l p ins).2 4).1)) 0 (aE l ((nx l (vl l p ins).2 4).2))/\(LC 13 dY [(aE l ((nx l (vl l p ins).2 4).2)),(cH ins aa fuel param),(bq ins),(bK aa),(.box (fF 6 (vl l p ins).1 0 0 (bX (I.v (Value.int IntKind.i64 (IntKind.i64.wrap (1+(nx l (vl l p ins).2 4).1))))) 0))] (jF aa) [(aE l ((lv l (nx l (vl l p ins).2 4).2 ins fuel param).2)),(aU 0 2 ins.1 5 ((sx aa (lv l (nx l (vl l p ins).2 4).2 ins fuel param).1).1) fuel (↑param:Int)),(bq ins),.dead,(.box (fF 6 (vl l p ins).1 0 0 (bX (I.v (Value.int IntKind.i64 (IntKind.i64.wrap (1+(nx l (vl l p ins).2 4).1))))) 0)),(Iu sx aa l p ins fuel param)]/\(LC 12 [(.c (.rt 1 0 0)),(.a (fF 6 (vl l p ins).1 0 0 (bX (I.v (Value.int IntKind.i64 (IntKind.i64.wrap (1+(nx l (vl l p ins).2 4).1))))) (Int.ofNat aa.1)))] [(aE l ((lv l (nx l (vl l p ins).2 4).2 ins fuel param).2)),(aU 0 2 ins.1 5 ((sx aa (lv l (nx l (vl l p ins).2 4).2 ins fuel param).1).1) fuel (↑param:Int)),(bq ins),.dead,(.box (fF 6 (vl l p ins).1 0 0 (bX (I.v (Value.int IntKind.i64 (IntKind.i64.wrap (1+(nx l (vl l p ins).2 4).1))))) (Int.ofNat aa.1))),(Iu sx aa l p ins fuel param)] (ei ins) [(aE l ((lv l (nx l (vl l p ins).2 4).2 ins fuel param).2)),(aU 0 6 ((sn ins (cr 6 (vl l p ins).1 0 0 (bX (I.v (Value.int IntKind.i64 (IntKind.i64.wrap (1+(nx l (vl l p ins).2 4).1))))) (Int.ofNat aa.1))).1) 5 ((sx aa (lv l (nx l (vl l p ins).2 4).2 ins fuel param).1).1) fuel (↑param:Int)),.dead,.dead,(.box (fF 6 (vl l p ins).1 0 0 (bX (I.v (Value.int IntKind.i64 (IntKind.i64.wrap (1+(nx l (vl l p ins).2 4).1))))) (Int.ofNat aa.1))),(Iu sx aa l p ins fuel param),(.arr 40 14 ((sn ins (cr 6 (vl l p ins).1 0 0 (bX (I.v (Value.int IntKind.i64 (IntKind.i64.wrap (1+(nx l (vl l p ins).2 4).1))))) (Int.ofNat aa.1))).1) (λi=>bQ ((sn ins (cr 6 (vl l p ins).1 0 0 (bX (I.v (Value.int IntKind.i64 (IntKind.i64.wrap (1+(nx l (vl l p ins).2 4).1))))) (Int.ofNat aa.1))).2 i)))]/\L (ah 14 52) ⟨[dG,dw,(14,((.c (.rt 4 0 0)),[]))],[(aE l ((lv l (nx l (vl l p ins).2 4).2 ins fuel param).2)),(aU 0 6 ((sn ins (cr 6 (vl l p ins).1 0 0 (bX (I.v (Value.int IntKind.i64 (IntKind.i64.wrap (1+(nx l (vl l p ins).2 4).1))))) (Int.ofNat aa.1))).1) 5 ((sx aa (lv l (nx l (vl l p ins).2 4).2 ins fuel param).1).1) fuel (↑param:Int)),.dead,.dead,(.box (fF 6 (vl l p ins).1 0 0 (bX (I.v (Value.int IntKind.i64 (IntKind.i64.wrap (1+(nx l (vl l p ins).2 4).1))))) (Int.ofNat aa.1))),(Iu sx aa l p ins fuel param),(.arr 40 14 ((sn ins (cr 6 (vl l p ins).1 0 0 (bX (I.v (Value.int IntKind.i64 (IntKind.i64.wrap (1+(nx l (vl l p ins).2 4).1))))) (Int.ofNat aa.1))).1) (λi=>bQ ((sn ins (cr 6 (vl l p ins).1 0 0 (bX (I.v (Value.int IntKind.i64 (IntKind.i64.wrap (1+(nx l (vl l p ins).2 4).1))))) (Int.ofNat aa.1))).2 i)))],[]⟩))))):cW (ml l sn sx) 14 fg L QE 49 (Al sn sx l p ins aa fuel param ):=km h
def Ct (sn:Sq ak->ak->Sq ak) (sx:Sq ai->ai->Sq ai) (l:Sq Int) (p:Nat) (ins:Sq ak) (aa:Sq ai) (fuel:Int) (param:Nat) (x:ak):VS:=⟨[kD,iO,(14,.c (.rt 6 0 0),[])],[aE l p,aU 0 5 ins.n 4 aa.n fuel param,.dead,.dead,lB aa,cX ins,.box (lift (b8 x))],[]⟩
abbrev PG (aj:ak) (aA:Sq Int) (aB:Nat):List D:=[(.c (.rt 1 0 0)),(.a [(ci 19),(ci aj.2),(ci 0),(ci 0),(ci 0),dO,(ci 0),(ci 0),eR,dO,(ci 0),(ci ((nx aA aB 3).1)),(ci (-1)),dn])]
theorem SP (h:(WC 11 [(.c (.rt 0 0 0)),(int 3)] [(aE l p),(iT ins aa fuel param),.dead,.dead,(bK aa),(bq ins),(dM x),.dead,.dead] (int ((nx l p 3).1)) 0 (aE l ((nx l p 3).2))/\(LC 12 (PG x l p) [(aE l ((nx l p 3).2)),(iT ins aa fuel param),.dead,.dead,(bK aa),(bq ins),(dM x),.dead,.dead] (ei ins) [(aE l ((nx l p 3).2)),(aU 0 9 ((sn ins { op:=Int.ofNat 19,a:=x.2,b:=Int.ofNat 0,c:=Int.ofNat 0,n:=Int.ofNat 0,args:={ n:=0,get:=λx=>Int.ofNat 0 },k:={ kind:=Int.ofNat 0,n:=Int.ofNat 0,s:={ data:={ toList:=[] } } },names:={ n:=0,get:=λx=>{ data:={ toList:=[] } } },place:={ fn:=Int.ofNat 0,line:=(nx l p 3).1 },exit:=Int.negSucc 0,once:=false }).1) 4 aa.1 fuel (↑param:Int)),.dead,.dead,(bK aa),.dead,(dM x),.dead,.dead,(.arr 40 14 ((sn ins { op:=Int.ofNat 19,a:=x.2,b:=Int.ofNat 0,c:=Int.ofNat 0,n:=Int.ofNat 0,args:={ n:=0,get:=λx=>Int.ofNat 0 },k:={ kind:=Int.ofNat 0,n:=Int.ofNat 0,s:={ data:={ toList:=[] } } },names:={ n:=0,get:=λx=>{ data:={ toList:=[] } } },place:={ fn:=Int.ofNat 0,line:=(nx l p 3).1 },exit:=Int.negSucc 0,once:=false }).1) (λi=>bQ ((sn ins { op:=Int.ofNat 19,a:=x.2,b:=Int.ofNat 0,c:=Int.ofNat 0,n:=Int.ofNat 0,args:={ n:=0,get:=λx=>Int.ofNat 0 },k:={ kind:=Int.ofNat 0,n:=Int.ofNat 0,s:={ data:={ toList:=[] } } },names:={ n:=0,get:=λx=>{ data:={ toList:=[] } } },place:={ fn:=Int.ofNat 0,line:=(nx l p 3).1 },exit:=Int.negSucc 0,once:=false }).2 i)))]/\(WC 11 [(.c (.rt 0 0 0)),(int 3)] [(aE l p),(iT ins aa fuel param),.dead,.dead,(bK aa),(bq ins),(dM x),.dead,.dead] (int ((nx l p 3).1)) 0 (aE l ((nx l p 3).2))/\(LC 12 (PG x l p) [(aE l ((nx l p 3).2)),(iT ins aa fuel param),.dead,.dead,(bK aa),(bq ins),(dM x),.dead,.dead] (ei ins) [(aE l ((nx l p 3).2)),(aU 0 9 ((sn ins { op:=Int.ofNat 19,a:=x.2,b:=Int.ofNat 0,c:=Int.ofNat 0,n:=Int.ofNat 0,args:={ n:=0,get:=λx=>Int.ofNat 0 },k:={ kind:=Int.ofNat 0,n:=Int.ofNat 0,s:={ data:={ toList:=[] } } },names:={ n:=0,get:=λx=>{ data:={ toList:=[] } } },place:={ fn:=Int.ofNat 0,line:=(nx l p 3).1 },exit:=Int.negSucc 0,once:=false }).1) 4 aa.1 fuel (↑param:Int)),.dead,.dead,(bK aa),.dead,(dM x),.dead,.dead,(.arr 40 14 ((sn ins { op:=Int.ofNat 19,a:=x.2,b:=Int.ofNat 0,c:=Int.ofNat 0,n:=Int.ofNat 0,args:={ n:=0,get:=λx=>Int.ofNat 0 },k:={ kind:=Int.ofNat 0,n:=Int.ofNat 0,s:={ data:={ toList:=[] } } },names:={ n:=0,get:=λx=>{ data:={ toList:=[] } } },place:={ fn:=Int.ofNat 0,line:=(nx l p 3).1 },exit:=Int.negSucc 0,once:=false }).1) (λi=>bQ ((sn ins { op:=Int.ofNat 19,a:=x.2,b:=Int.ofNat 0,c:=Int.ofNat 0,n:=Int.ofNat 0,args:={ n:=0,get:=λx=>Int.ofNat 0 },k:={ kind:=Int.ofNat 0,n:=Int.ofNat 0,s:={ data:={ toList:=[] } } },names:={ n:=0,get:=λx=>{ data:={ toList:=[] } } },place:={ fn:=Int.ofNat 0,line:=(nx l p 3).1 },exit:=Int.negSucc 0,once:=false }).2 i)))]/\QE (.t []) [(aE l ((nx l p 3).2)),(aU 0 9 ((sn ins { op:=Int.ofNat 19,a:=x.2,b:=Int.ofNat 0,c:=Int.ofNat 0,n:=Int.ofNat 0,args:={ n:=0,get:=λx=>Int.ofNat 0 },k:={ kind:=Int.ofNat 0,n:=Int.ofNat 0,s:={ data:={ toList:=[] } } },names:={ n:=0,get:=λx=>{ data:={ toList:=[] } } },place:={ fn:=Int.ofNat 0,line:=(nx l p 3).1 },exit:=Int.negSucc 0,once:=false }).1) 4 aa.1 fuel (↑param:Int)),.dead,.dead,(.arr 68 3 aa.1 (λi=>bG (aa.2 i))),.dead,(.box (lift (b8 (x)))),.dead,.dead,(.arr 40 14 ((sn ins { op:=Int.ofNat 19,a:=x.2,b:=Int.ofNat 0,c:=Int.ofNat 0,n:=Int.ofNat 0,args:={ n:=0,get:=λx=>Int.ofNat 0 },k:={ kind:=Int.ofNat 0,n:=Int.ofNat 0,s:={ data:={ toList:=[] } } },names:={ n:=0,get:=λx=>{ data:={ toList:=[] } } },place:={ fn:=Int.ofNat 0,line:=(nx l p 3).1 },exit:=Int.negSucc 0,once:=false }).1) (λi=>bQ ((sn ins { op:=Int.ofNat 19,a:=x.2,b:=Int.ofNat 0,c:=Int.ofNat 0,n:=Int.ofNat 0,args:={ n:=0,get:=λx=>Int.ofNat 0 },k:={ kind:=Int.ofNat 0,n:=Int.ofNat 0,s:={ data:={ toList:=[] } } },names:={ n:=0,get:=λx=>{ data:={ toList:=[] } } },place:={ fn:=Int.ofNat 0,line:=(nx l p 3).1 },exit:=Int.negSucc 0,once:=false }).2 i)))]))))):cW (ml l sn sx) 14 fg L QE 52 (Ct sn sx l p ins aa fuel param x):=km h
theorem Q6 (hl:l.n<=maxLen) (hI:ins.n<=930) (hE:aa.n<=930) (hF:0<=fuel/\fuel<=1000) (hP:param<=1000) (c:Int):ag 14 4 (zW l s0 fuel param (YH l c ⟨p,ins,aa⟩)) (ah 14 35) (A3 bD cf l p ins aa fuel param c):=by
 refine aF (X:=ml l bD cf) (stop:=fg) (Tf _ _ bD cf l p ins aa fuel param c ?_)
 refine ⟨eo l _ _ hl rfl,?_⟩
 refine ⟨eO (m:=0) (q:=1) (i:=5) (j:=4) _ _ (by grind) (by first|exact bf.refl _|exact jc (by repeat' (first|exact az.nil|refine az.cons ?_ ?_|exact dT.refl _|exact dT.nil _ _))) rfl (aH rfl) rfl rfl (aH rfl),?_⟩
 exact ⟨[0,1,2,3,4,6],.t [],_,_,rfl,(rc (rc (rc (rc (rc (rc .nil)))))),⟨6,aH rfl,aH rfl,rfl,rfl,bf.refl _,⟨.inr rfl,⟨.inr rfl,⟨.inr rfl,⟨.inr rfl,⟨rfl,⟨rfl,trivial⟩⟩⟩⟩⟩⟩⟩⟩
theorem SU (hl:l.n<=maxLen) (hI:ins.n<=910) (hE:aa.n<=910) (hF:0<=fuel/\fuel<=1000) (hP:param<=1000) (c:Int):ag 14 4 (zW l s0 fuel param (YH l c ⟨p,ins,aa⟩)) (ah 14 24) (Cc bD cf l p ins aa fuel param c):=by
 refine aF (X:=ml l bD cf) (stop:=fg) (RM _ _ bD cf l p ins aa fuel param c ?_)
 refine ⟨eo l _ _ hl rfl,?_⟩
 refine ⟨eO (m:=0) (q:=1) (i:=5) (j:=4) _ _ (by grind) (by first|exact bf.refl _|exact jc (by repeat' (first|exact az.nil|refine az.cons ?_ ?_|exact dT.refl _|exact dT.nil _ _))) rfl (aH rfl) rfl rfl (aH rfl),?_⟩
 exact ⟨[0,1,2,3,4,6],.t [],_,_,rfl,(rc (rc (rc (rc (rc (rc .nil)))))),⟨6,aH rfl,aH rfl,rfl,rfl,bf.refl _,⟨.inr rfl,⟨.inr rfl,⟨.inr rfl,⟨.inr rfl,⟨rfl,⟨rfl,trivial⟩⟩⟩⟩⟩⟩⟩⟩
theorem Ss (hl:l.n<=maxLen) (hI:ins.n<=920) (hE:aa.n<=920) (hF:0<=fuel/\fuel<=1000) (hP:param<=1000) (c:Int):ag 14 4 (zW l s0 fuel param (k34 l param c ⟨p,ins,aa⟩)) (ah 14 34) (BQ bD cf l p ins aa fuel param c):=by
 refine aF (X:=ml l bD cf) (stop:=fg) (S8 _ _ bD cf l p ins aa fuel param c ?_)
 refine ⟨eo l _ _ hl rfl,?_⟩
 refine ⟨eo l _ _ hl rfl,?_⟩
 refine ⟨eO (m:=0) (q:=1) (i:=5) (j:=4) _ _ (by grind) (by first|exact bf.refl _|exact jc (by repeat' (first|exact az.nil|refine az.cons ?_ ?_|exact dT.refl _|exact dT.nil _ _))) rfl (aH rfl) rfl rfl (aH rfl),?_⟩
 exact ag.rename [0,1,2,3,4,6] rfl (ag.lr (A3 bD cf l ((nx l (nx l p (↑param:Int)).2 2).2) ((bD ins (cr 11 c (nx l p (↑param:Int)).1 0 (nx l (nx l p (↑param:Int)).2 2).1 (-1)))) (aa) fuel param (c)) (Q6 s0 l ((nx l (nx l p (↑param:Int)).2 2).2) ((bD ins (cr 11 c (nx l p (↑param:Int)).1 0 (nx l (nx l p (↑param:Int)).2 2).1 (-1)))) (aa) fuel param hl (by first|omega|(simp only [yz]; omega)) (by grind) hF hP (c)))
theorem TY (hl:l.n<=maxLen) (hI:ins.n<=910) (hE:aa.n<=910) (hF:0<=fuel/\fuel<=1000) (hP:param<=1000)  : ag 14 4 (zW l s0 fuel param (k33 l param ⟨p,ins,aa⟩)) (ah 14 33) (B7 bD cf l p ins aa fuel param ):=by
 refine aF (X:=ml l bD cf) (stop:=fg) (RT _ _ bD cf l p ins aa fuel param  ?_)
 refine ⟨Uu,?_⟩
 refine ⟨eO (m:=0) (q:=1) (i:=5) (j:=4) _ _ (by grind) (by first|exact bf.refl _|exact jc (by repeat' (first|exact az.nil|refine az.cons ?_ ?_|exact dT.refl _|exact dT.nil _ _))) rfl (aH rfl) rfl rfl (aH rfl),?_⟩
 exact ag.rename [0,1,2,3,4,6] rfl (ag.lr (BQ bD cf l (p) ((bD ins { op:=Int.ofNat 16,a:=Int.ofNat 0,b:=Int.ofNat 0,c:=Int.ofNat 0,n:=Int.ofNat 0,args:={ n:=0,get:=λx=>Int.ofNat 0 },k:={ kind:=Int.ofNat 0,n:=Int.ofNat 0,s:={ data:={ toList:=[] } } },names:={ n:=2,get:=λi=>rS (dF (KK.get i)) },place:={ fn:=Int.ofNat 0,line:=Int.ofNat 0 },exit:=Int.negSucc 0,once:=false })) (aa) fuel param ((↑ins.1:Int))) (Ss s0 l (p) ((bD ins { op:=Int.ofNat 16,a:=Int.ofNat 0,b:=Int.ofNat 0,c:=Int.ofNat 0,n:=Int.ofNat 0,args:={ n:=0,get:=λx=>Int.ofNat 0 },k:={ kind:=Int.ofNat 0,n:=Int.ofNat 0,s:={ data:={ toList:=[] } } },names:={ n:=2,get:=λi=>rS (dF (KK.get i)) },place:={ fn:=Int.ofNat 0,line:=Int.ofNat 0 },exit:=Int.negSucc 0,once:=false })) (aa) fuel param hl (by first|omega|(simp only [yz]; omega)) (by grind) hF hP ((↑ins.1:Int))))
theorem St (hl:l.n<=maxLen) (hI:ins.n<=910) (hE:aa.n<=910) (hF:0<=fuel/\fuel<=1000) (hP:param<=1000) (c:Int):ag 14 4 (zW l s0 fuel param (k27 l c ⟨p,ins,aa⟩)) (ah 14 27) (BR bD cf l p ins aa fuel param c):=by
 refine aF (X:=ml l bD cf) (stop:=fg) (Rp _ _ bD cf l p ins aa fuel param c ?_)
 refine ⟨fE (m:=0) (q:=1) (i:=5) (j:=4) l _ _ hl,?_⟩
 refine ⟨eo l _ _ hl rfl,?_⟩
 refine ⟨eO (m:=0) (q:=1) (i:=5) (j:=4) _ _ (by grind) (by first|exact bf.refl _|exact jc (by repeat' (first|exact az.nil|refine az.cons ?_ ?_|exact dT.refl _|exact dT.nil _ _))) rfl (aH rfl) rfl rfl (aH rfl),?_⟩
 exact ⟨[0,1,2,3,4,6],.t [],_,_,rfl,(rc (rc (rc (rc (rc (rc .nil)))))),⟨6,aH rfl,aH rfl,rfl,rfl,bf.refl _,⟨.inr rfl,⟨.inr rfl,⟨.inr rfl,⟨.inr rfl,⟨rfl,⟨rfl,trivial⟩⟩⟩⟩⟩⟩⟩⟩
theorem TM (hl:l.n<=maxLen) (hI:ins.n<=910) (hE:aa.n<=910) (hF:0<=fuel/\fuel<=1000) (hP:param<=1000) (x:ak):ag 14 4 (zW l s0 fuel param (U5 l x ⟨p,ins,aa⟩)) (ah 14 40) (Cd bD cf l p ins aa fuel param x):=by
 refine aF (X:=ml l bD cf) (stop:=fg) (SE _ _ bD cf l p ins aa fuel param x ?_)
 refine ⟨eo l _ _ hl rfl,?_⟩
 refine aq (λh0=>?_) (λh0=>?_)
 .refine ⟨eO (m:=0) (q:=1) (i:=5) (j:=4) _ _ (by grind) (by first|exact bf.refl _|exact jc (by repeat' (first|exact az.nil|refine az.cons ?_ ?_|exact dT.refl _|exact dT.nil _ _))) rfl (aH rfl) rfl rfl (aH rfl),?_⟩
  simp only [U5,show ((nx l p 2).1==0)=true from h0,cond_true,cond_false]
  exact ⟨[0,1,2,3,4,7],.t [],_,_,rfl,(rc (rc (rc (rc (rc (rc .nil)))))),⟨6,aH rfl,aH rfl,rfl,rfl,bf.refl _,⟨.inr rfl,⟨.inr rfl,⟨.inr rfl,⟨.inr rfl,⟨rfl,⟨rfl,trivial⟩⟩⟩⟩⟩⟩⟩⟩
 .refine ⟨fE (m:=0) (q:=1) (i:=5) (j:=4) l _ _ hl,?_⟩
  refine ⟨eO (m:=0) (q:=1) (i:=5) (j:=4) _ _ (by grind) (by first|exact bf.refl _|exact jc (by repeat' (first|exact az.nil|refine az.cons ?_ ?_|exact dT.refl _|exact dT.nil _ _))) rfl (aH rfl) rfl rfl (aH rfl),?_⟩
  refine ⟨fE (m:=0) (q:=1) (i:=5) (j:=4) l _ _ hl,?_⟩
  refine ⟨eO (m:=0) (q:=1) (i:=5) (j:=4) _ _ (by grind) (by first|exact bf.refl _|exact jc (by repeat' (first|exact az.nil|refine az.cons ?_ ?_|exact dT.refl _|exact dT.nil _ _))) rfl (aH rfl) rfl rfl (aH rfl),?_⟩
  simp only [U5,show ((nx l p 2).1==0)=false from h0,cond_true,cond_false]
  exact ⟨[0,1,2,3,4,9],.t [],_,_,rfl,(rc (rc (rc (rc (rc (rc .nil)))))),⟨6,aH rfl,aH rfl,rfl,rfl,bf.refl _,⟨.inr rfl,⟨.inr rfl,⟨.inr rfl,⟨.inr rfl,⟨rfl,⟨rfl,trivial⟩⟩⟩⟩⟩⟩⟩⟩
theorem Ri (hl:l.n<=maxLen) (hI:ins.n<=910) (hE:aa.n<=910) (hF:0<=fuel/\fuel<=1000) (hP:param<=1000) (x:ak):ag 14 4 (zW l s0 fuel param (k47 x ⟨p,ins,aa⟩)) (ah 14 47) (BA bD cf l p ins aa fuel param x):=by
 refine aF (X:=ml l bD cf) (stop:=fg) (RU _ _ bD cf l p ins aa fuel param x ?_)
 refine ⟨eO (m:=0) (q:=1) (i:=5) (j:=4) _ _ (by grind) (by first|exact bf.refl _|exact jc (by repeat' (first|exact az.nil|refine az.cons ?_ ?_|exact dT.refl _|exact dT.nil _ _))) rfl (aH rfl) rfl rfl (aH rfl),?_⟩
 exact ⟨[0,1,2,3,4,7],.t [],_,_,rfl,(rc (rc (rc (rc (rc (rc .nil)))))),⟨6,aH rfl,aH rfl,rfl,rfl,bf.refl _,⟨.inr rfl,⟨.inr rfl,⟨.inr rfl,⟨.inr rfl,⟨rfl,⟨rfl,trivial⟩⟩⟩⟩⟩⟩⟩⟩
theorem R9 (hl:l.n<=maxLen) (hI:ins.n<=910) (hE:aa.n<=910) (hF:0<=fuel/\fuel<=1000) (hP:param<=1000) (x:ak):ag 14 4 (zW l s0 fuel param (k52 l x ⟨p,ins,aa⟩)) (ah 14 52) (Ct bD cf l p ins aa fuel param x):=by
 refine aF (X:=ml l bD cf) (stop:=fg) (SP _ _ bD cf l p ins aa fuel param x ?_)
 refine ⟨eo l _ _ hl rfl,?_⟩
 refine ⟨eO (m:=0) (q:=1) (i:=5) (j:=4) _ _ (by grind) (by first|exact bf.refl _|exact jc (by repeat' (first|exact az.nil|refine az.cons ?_ ?_|exact dT.refl _|exact dT.nil _ _))) rfl (aH rfl) rfl rfl (aH rfl),?_⟩
 refine ⟨eo l _ _ hl rfl,?_⟩
 refine ⟨eO (m:=0) (q:=1) (i:=5) (j:=4) _ _ (by grind) (by first|exact bf.refl _|exact jc (by repeat' (first|exact az.nil|refine az.cons ?_ ?_|exact dT.refl _|exact dT.nil _ _))) rfl (aH rfl) rfl rfl (aH rfl),?_⟩
 exact ⟨[0,1,2,3,4,9],.t [],_,_,rfl,(rc (rc (rc (rc (rc (rc .nil)))))),⟨6,aH rfl,aH rfl,rfl,rfl,bf.refl _,⟨.inr rfl,⟨.inr rfl,⟨.inr rfl,⟨.inr rfl,⟨rfl,⟨rfl,trivial⟩⟩⟩⟩⟩⟩⟩⟩
theorem JJ (hl:l.n<=maxLen) (hI:ins.n<=910) (hE:aa.n<=910) (hF:0<=fuel/\fuel<=1000) (hP:param<=1000) (c:Int):ag 14 4 (zW l s0 fuel param (k18 l fuel param c ⟨p,ins,aa⟩)) (ah 14 18) (vm bD cf l p ins aa fuel param c):=by
 refine aF (X:=ml l bD cf) (stop:=fg) (Sy _ _ bD cf l p ins aa fuel param c ?_)
 refine ⟨eo l _ _ hl rfl,?_⟩
 refine ⟨nl (m:=0) (q:=1) (i:=5) (j:=4) l _ _ _ hl (by grind) (by grind) hF hP rfl rfl rfl rfl rfl,?_⟩
 refine ⟨eO (m:=0) (q:=1) (i:=5) (j:=7) _ _ (by grind) (by first|exact bf.refl _|exact jc (by repeat' (first|exact az.nil|refine az.cons ?_ ?_|exact dT.refl _|exact dT.nil _ _))) rfl (aH rfl) rfl rfl (aH rfl),?_⟩
 exact ⟨[0,1,2,3,7,8],.t [],_,_,rfl,(rc (rc (rc (rc (rc (rc .nil)))))),⟨6,aH rfl,aH rfl,rfl,rfl,bf.refl _,⟨.inr rfl,⟨.inr rfl,⟨.inr rfl,⟨.inr rfl,⟨rfl,⟨rfl,trivial⟩⟩⟩⟩⟩⟩⟩⟩
theorem Tu {c:Bool} {p:Prop} (k:p) (h:c=true:=by first|rfl|assumption|exact Ug 4 (by decide) (by decide)|exact Ug 2 (by decide) (by decide)|(simp; done)|omega):nd c p:=ay h k
theorem Wt (hl:l.n<=maxLen) (hI:ins.n<=900) (hE:aa.n<=900) (hF:0<=fuel/\fuel<=1000) (hP:param<=1000)  : ag 14 4 (zW l s0 fuel param (k3 l ⟨p,ins,aa⟩)) (ah 14 3) (Ho bD cf l p ins aa fuel param ):=by
 refine aF (X:=ml l bD cf) (stop:=fg) (V1 _ _ bD cf l p ins aa fuel param  ?_)
 refine ⟨eo l _ _ hl rfl,?_⟩
 refine ⟨eo l _ _ hl rfl,?_⟩
 refine Tu ?_
 refine aq (λh0=>?_) (λh0=>?_)
 .refine ⟨eO (m:=0) (q:=1) (i:=2) (j:=4) _ _ (by grind) (by first|exact bf.refl _|exact jc (by repeat' (first|exact az.nil|refine az.cons ?_ ?_|exact dT.refl _|exact dT.nil _ _))) rfl (aH rfl) rfl rfl (aH rfl),?_⟩
  simp only [k3,S9,h0,cond_true,cond_false]
  exact ⟨[0,1,2,3,4,6],.t [],_,_,rfl,(rc (rc (rc (rc (rc (rc .nil)))))),⟨6,aH rfl,aH rfl,rfl,rfl,bf.refl _,⟨.inr rfl,⟨.inr rfl,⟨.inr rfl,⟨.inr rfl,⟨rfl,⟨rfl,trivial⟩⟩⟩⟩⟩⟩⟩⟩
 .refine aq (λh1=>?_) (λh1=>?_)
  .refine ⟨eO (m:=0) (q:=1) (i:=2) (j:=4) _ _ (by grind) (by first|exact bf.refl _|exact jc (by repeat' (first|exact az.nil|refine az.cons ?_ ?_|exact dT.refl _|exact dT.nil _ _))) rfl (aH rfl) rfl rfl (aH rfl),?_⟩
   simp only [k3,S9,h0,h1,cond_true,cond_false]
   exact ⟨[0,1,2,3,4,6],.t [],_,_,rfl,(rc (rc (rc (rc (rc (rc .nil)))))),⟨6,aH rfl,aH rfl,rfl,rfl,bf.refl _,⟨.inr rfl,⟨.inr rfl,⟨.inr rfl,⟨.inr rfl,⟨rfl,⟨rfl,trivial⟩⟩⟩⟩⟩⟩⟩⟩
  .refine aq (λh2=>?_) (λh2=>?_)
   .refine ⟨eO (m:=0) (q:=1) (i:=2) (j:=4) _ _ (by grind) (by first|exact bf.refl _|exact jc (by repeat' (first|exact az.nil|refine az.cons ?_ ?_|exact dT.refl _|exact dT.nil _ _))) rfl (aH rfl) rfl rfl (aH rfl),?_⟩
    simp only [k3,S9,h0,h1,h2,cond_true,cond_false]
    exact ⟨[0,1,2,3,4,6],.t [],_,_,rfl,(rc (rc (rc (rc (rc (rc .nil)))))),⟨6,aH rfl,aH rfl,rfl,rfl,bf.refl _,⟨.inr rfl,⟨.inr rfl,⟨.inr rfl,⟨.inr rfl,⟨rfl,⟨rfl,trivial⟩⟩⟩⟩⟩⟩⟩⟩
   .refine aq (λh3=>?_) (λh3=>?_)
    .refine ⟨eO (m:=0) (q:=1) (i:=2) (j:=4) _ _ (by grind) (by first|exact bf.refl _|exact jc (by repeat' (first|exact az.nil|refine az.cons ?_ ?_|exact dT.refl _|exact dT.nil _ _))) rfl (aH rfl) rfl rfl (aH rfl),?_⟩
     simp only [k3,S9,h0,h1,h2,h3,cond_true,cond_false]
     exact ⟨[0,1,2,3,4,6],.t [],_,_,rfl,(rc (rc (rc (rc (rc (rc .nil)))))),⟨6,aH rfl,aH rfl,rfl,rfl,bf.refl _,⟨.inr rfl,⟨.inr rfl,⟨.inr rfl,⟨.inr rfl,⟨rfl,⟨rfl,trivial⟩⟩⟩⟩⟩⟩⟩⟩
    .exact RK h0 h1 h2 h3
theorem Fo (hl:l.n<=maxLen) (hI:ins.n<=900) (hE:aa.n<=900) (hF:0<=fuel/\fuel<=1000) (hP:param<=1000)  : ag 14 4 (zW l s0 fuel param (k7 l fuel param ⟨p,ins,aa⟩)) (ah 14 7) (xZ bD cf l p ins aa fuel param ):=by
 refine aF (X:=ml l bD cf) (stop:=fg) (VY _ _ bD cf l p ins aa fuel param  ?_)
 refine ⟨eo l _ _ hl rfl,?_⟩
 refine ⟨fE (m:=0) (q:=1) (i:=2) (j:=3) l _ _ hl,?_⟩
 refine ⟨fE (m:=0) (q:=1) (i:=2) (j:=3) l _ _ hl,?_⟩
 refine ⟨nl (m:=0) (q:=1) (i:=2) (j:=3) l _ _ _ hl (by grind) (by grind) hF hP rfl rfl rfl rfl rfl,?_⟩
 refine ⟨eO (m:=0) (q:=1) (i:=2) (j:=5) _ _ (by grind) (by first|exact bf.refl _|exact jc (by repeat' (first|exact az.nil|refine az.cons ?_ ?_|exact dT.refl _|exact dT.nil _ _))) rfl (aH rfl) rfl rfl (aH rfl),?_⟩
 exact ⟨[0,1,2,3,5,6],.t [],_,_,rfl,(rc (rc (rc (rc (rc (rc .nil)))))),⟨6,aH rfl,aH rfl,rfl,rfl,bf.refl _,⟨.inr rfl,⟨.inr rfl,⟨.inr rfl,⟨.inr rfl,⟨rfl,⟨rfl,trivial⟩⟩⟩⟩⟩⟩⟩⟩
theorem SR (hl:l.n<=maxLen) (hI:ins.n<=900) (hE:aa.n<=900) (hF:0<=fuel/\fuel<=1000) (hP:param<=1000)  : ag 14 4 (zW l s0 fuel param (Y9 l fuel param ⟨p,ins,aa⟩)) (ah 14 11) (AW bD cf l p ins aa fuel param ):=by
 refine aF (X:=ml l bD cf) (stop:=fg) (Ta _ _ bD cf l p ins aa fuel param  ?_)
 refine ⟨eo l _ _ hl rfl,?_⟩
 refine ⟨fE (m:=0) (q:=1) (i:=2) (j:=3) l _ _ hl,?_⟩
 refine ⟨nl (m:=0) (q:=1) (i:=2) (j:=3) l _ _ _ hl (by grind) (by grind) hF hP rfl rfl rfl rfl rfl,?_⟩
 refine ⟨eO (m:=0) (q:=1) (i:=2) (j:=5) _ _ (by grind) (by first|exact bf.refl _|exact jc (by repeat' (first|exact az.nil|refine az.cons ?_ ?_|exact dT.refl _|exact dT.nil _ _))) rfl (aH rfl) rfl rfl (aH rfl),?_⟩
 exact ⟨[0,1,2,3,5,6],.t [],_,_,rfl,(rc (rc (rc (rc (rc (rc .nil)))))),⟨6,aH rfl,aH rfl,rfl,rfl,bf.refl _,⟨.inr rfl,⟨.inr rfl,⟨.inr rfl,⟨.inr rfl,⟨rfl,⟨rfl,trivial⟩⟩⟩⟩⟩⟩⟩⟩
theorem Sh (hl:l.n<=maxLen) (hI:ins.n<=900) (hE:aa.n<=900) (hF:0<=fuel/\fuel<=1000) (hP:param<=1000)  : ag 14 4 (zW l s0 fuel param (VJ l fuel param ⟨p,ins,aa⟩)) (ah 14 15) (Cy bD cf l p ins aa fuel param ):=by
 refine aF (X:=ml l bD cf) (stop:=fg) (TB _ _ bD cf l p ins aa fuel param  ?_)
 refine ⟨eo l _ _ hl rfl,?_⟩
 refine Tu ?_
 refine aq (λh0=>?_) (λh0=>?_)
 .refine ⟨fE (m:=0) (q:=1) (i:=2) (j:=3) l _ _ hl,?_⟩
  refine ⟨fE (m:=0) (q:=1) (i:=2) (j:=3) l _ _ hl,?_⟩
  refine ⟨eo l _ _ hl rfl,?_⟩
  refine Tu ?_
  refine aq (λh1=>?_) (λh1=>Bool.noConfusion (h0.symm.trans h1))
  refine ⟨fE (m:=0) (q:=1) (i:=2) (j:=3) l _ _ hl,?_⟩
  refine ⟨fE (m:=0) (q:=1) (i:=2) (j:=3) l _ _ hl,?_⟩
  refine ⟨nl (m:=0) (q:=1) (i:=2) (j:=3) l _ _ _ hl (by grind) (by grind) hF hP rfl rfl rfl rfl rfl,?_⟩
  refine ⟨eO (m:=0) (q:=1) (i:=2) (j:=9) _ _ (by grind) (by first|exact bf.refl _|exact jc (by repeat' (first|exact az.nil|refine az.cons ?_ ?_|exact dT.refl _|exact dT.nil _ _))) rfl (aH rfl) rfl rfl (aH rfl),?_⟩
  simp only [VJ,QU,h0,cond_true,cond_false]
  exact ag.rename [0,1,2,3,9,10] rfl (ag.lr (vm bD cf l ((lv l (vl l (vl l (nx l p 2).2 ins).2 ins).2 ins fuel param).2) ((bD ins (cr 4 (vl l (nx l p 2).2 ins).1 (vl l (vl l (nx l p 2).2 ins).2 ins).1 0 10 (Int.ofNat aa.1)))) ((cf aa (lv l (vl l (vl l (nx l p 2).2 ins).2 ins).2 ins fuel param).1)) fuel param ((↑ins.1:Int))) (JJ s0 l ((lv l (vl l (vl l (nx l p 2).2 ins).2 ins).2 ins fuel param).2) ((bD ins (cr 4 (vl l (nx l p 2).2 ins).1 (vl l (vl l (nx l p 2).2 ins).2 ins).1 0 10 (Int.ofNat aa.1)))) ((cf aa (lv l (vl l (vl l (nx l p 2).2 ins).2 ins).2 ins fuel param).1)) fuel param hl (by first|omega|(simp only [yz]; omega)) (by first|omega|(simp only [yz]; omega)) hF hP ((↑ins.1:Int))))
 .refine aq (λh1=>?_) (λh1=>?_)
  .refine ⟨fE (m:=0) (q:=1) (i:=2) (j:=3) l _ _ hl,?_⟩
   refine ⟨fE (m:=0) (q:=1) (i:=2) (j:=3) l _ _ hl,?_⟩
   refine ⟨eo l _ _ hl rfl,?_⟩
   refine Tu ?_
   refine aq (λh2=>Bool.noConfusion (h2.symm.trans h0)) (λh2=>?_)
   refine aq (λh3=>?_) (λh3=>Bool.noConfusion (h1.symm.trans h3))
   refine ⟨fE (m:=0) (q:=1) (i:=2) (j:=3) l _ _ hl,?_⟩
   refine ⟨fE (m:=0) (q:=1) (i:=2) (j:=3) l _ _ hl,?_⟩
   refine ⟨nl (m:=0) (q:=1) (i:=2) (j:=3) l _ _ _ hl (by grind) (by grind) hF hP rfl rfl rfl rfl rfl,?_⟩
   refine ⟨eO (m:=0) (q:=1) (i:=2) (j:=9) _ _ (by grind) (by first|exact bf.refl _|exact jc (by repeat' (first|exact az.nil|refine az.cons ?_ ?_|exact dT.refl _|exact dT.nil _ _))) rfl (aH rfl) rfl rfl (aH rfl),?_⟩
   simp only [VJ,QU,h0,h1,cond_true,cond_false]
   exact ag.rename [0,1,2,3,9,10] rfl (ag.lr (vm bD cf l ((lv l (vl l (vl l (nx l p 2).2 ins).2 ins).2 ins fuel param).2) ((bD ins (cr 4 (vl l (nx l p 2).2 ins).1 (vl l (vl l (nx l p 2).2 ins).2 ins).1 0 11 (Int.ofNat aa.1)))) ((cf aa (lv l (vl l (vl l (nx l p 2).2 ins).2 ins).2 ins fuel param).1)) fuel param ((↑ins.1:Int))) (JJ s0 l ((lv l (vl l (vl l (nx l p 2).2 ins).2 ins).2 ins fuel param).2) ((bD ins (cr 4 (vl l (nx l p 2).2 ins).1 (vl l (vl l (nx l p 2).2 ins).2 ins).1 0 11 (Int.ofNat aa.1)))) ((cf aa (lv l (vl l (vl l (nx l p 2).2 ins).2 ins).2 ins fuel param).1)) fuel param hl (by first|omega|(simp only [yz]; omega)) (by first|omega|(simp only [yz]; omega)) hF hP ((↑ins.1:Int))))
  .exact Sm h0 h1
theorem I0 (hl:l.n<=maxLen) (hI:ins.n<=900) (hE:aa.n<=900) (hF:0<=fuel/\fuel<=1000) (hP:param<=1000)  : ag 14 4 (zW l s0 fuel param (Xl l fuel param ⟨p,ins,aa⟩)) (ah 14 23) (vA bD cf l p ins aa fuel param ):=by
 refine aF (X:=ml l bD cf) (stop:=fg) (Tt _ _ bD cf l p ins aa fuel param  ?_)
 refine ⟨Ua (m:=0) (q:=1) (i:=2) (j:=3) l _ _ _ _ _ hl (by grind) (by grind) hF hP rfl rfl rfl rfl rfl,?_⟩
 exact ag.rename [0,1,2,3,4,5] rfl (ag.lr (Cc bD cf l ((eZ l p ins fuel param).2) ((bD ins (iE l p ins param aa.1))) ((cf aa (eZ l p ins fuel param).1)) fuel param (((gj l p ins param).1))) (SU s0 l ((eZ l p ins fuel param).2) ((bD ins (iE l p ins param aa.1))) ((cf aa (eZ l p ins fuel param).1)) fuel param hl (by first|omega|(simp only [yz]; omega)) (by first|omega|(simp only [yz]; omega)) hF hP (((gj l p ins param).1))))
theorem Sg (hl:l.n<=maxLen) (hI:ins.n<=900) (hE:aa.n<=900) (hF:0<=fuel/\fuel<=1000) (hP:param<=1000)  : ag 14 4 (zW l s0 fuel param (k26 l fuel param ⟨p,ins,aa⟩)) (ah 14 26) (A9 bD cf l p ins aa fuel param ):=by
 refine aF (X:=ml l bD cf) (stop:=fg) (Tg _ _ bD cf l p ins aa fuel param  ?_)
 refine ⟨Ua (m:=0) (q:=1) (i:=2) (j:=3) l _ _ _ _ _ hl (by grind) (by grind) hF hP rfl rfl rfl rfl rfl,?_⟩
 exact ag.rename [0,1,2,3,4,5] rfl (ag.lr (BR bD cf l ((eZ l p ins fuel param).2) ((bD ins (iE l p ins param aa.1))) ((cf aa (eZ l p ins fuel param).1)) fuel param (((gj l p ins param).1))) (St s0 l ((eZ l p ins fuel param).2) ((bD ins (iE l p ins param aa.1))) ((cf aa (eZ l p ins fuel param).1)) fuel param hl (by first|omega|(simp only [yz]; omega)) (by first|omega|(simp only [yz]; omega)) hF hP (((gj l p ins param).1))))
theorem Jy (hl:l.n<=maxLen) (hI:ins.n<=900) (hE:aa.n<=900) (hF:0<=fuel/\fuel<=1000) (hP:param<=1000)  : ag 14 4 (zW l s0 fuel param (VP l fuel param ⟨p,ins,aa⟩)) (ah 14 30) (uW bD cf l p ins aa fuel param ):=by
 refine aF (X:=ml l bD cf) (stop:=fg) (R0 _ _ bD cf l p ins aa fuel param  ?_)
 refine ⟨nl (m:=0) (q:=1) (i:=2) (j:=3) l _ _ _ hl (by grind) (by grind) hF hP rfl rfl rfl rfl rfl,?_⟩
 refine ⟨eO (m:=0) (q:=1) (i:=2) (j:=5) _ _ (by grind) (by first|exact bf.refl _|exact jc (by repeat' (first|exact az.nil|refine az.cons ?_ ?_|exact dT.refl _|exact dT.nil _ _))) rfl (aH rfl) rfl rfl (aH rfl),?_⟩
 exact ag.rename [0,1,2,3,5,6] rfl (ag.lr (B7 bD cf l ((lv l p ins fuel param).2) ((bD ins (cr 15 0 0 0 32 (Int.ofNat aa.1)))) ((cf aa (lv l p ins fuel param).1)) fuel param) (TY s0 l ((lv l p ins fuel param).2) ((bD ins (cr 15 0 0 0 32 (Int.ofNat aa.1)))) ((cf aa (lv l p ins fuel param).1)) fuel param hl (by first|omega|(simp only [yz]; omega)) (by first|omega|(simp only [yz]; omega)) hF hP))
theorem R7 (hl:l.n<=maxLen) (hI:ins.n<=900) (hE:aa.n<=900) (hF:0<=fuel/\fuel<=1000) (hP:param<=1000)  : ag 14 4 (zW l s0 fuel param (Zy l fuel param ⟨p,ins,aa⟩)) (ah 14 37) (CH bD cf l p ins aa fuel param ):=by
 refine aF (X:=ml l bD cf) (stop:=fg) (TG _ _ bD cf l p ins aa fuel param  ?_)
 refine ⟨fE (m:=0) (q:=1) (i:=2) (j:=3) l _ _ hl,?_⟩
 refine ⟨fE (m:=0) (q:=1) (i:=2) (j:=3) l _ _ hl,?_⟩
 refine ⟨nl (m:=0) (q:=1) (i:=2) (j:=3) l _ _ _ hl (by grind) (by grind) hF hP rfl rfl rfl rfl rfl,?_⟩
 refine ⟨eO (m:=0) (q:=1) (i:=2) (j:=5) _ _ (by grind) (by first|exact bf.refl _|exact jc (by repeat' (first|exact az.nil|refine az.cons ?_ ?_|exact dT.refl _|exact dT.nil _ _))) rfl (aH rfl) rfl rfl (aH rfl),?_⟩
 exact ag.rename [0,1,2,3,5,6,4] rfl (ag.lf (Cd bD cf l ((lv l (vl l (vl l p ins).2 ins).2 ins fuel param).2) ((bD ins (cr 9 (vl l p ins).1 (vl l (vl l p ins).2 ins).1 0 0 (Int.ofNat aa.1)))) ((cf aa (lv l (vl l (vl l p ins).2 ins).2 ins fuel param).1)) fuel param (cr 9 (vl l p ins).1 (vl l (vl l p ins).2 ins).1 0 0 (Int.ofNat aa.1))) (rc (rc (rc (rc (rc (rc (.cons (bZ.box (by repeat' (first|exact az.nil|refine az.cons ?_ ?_|exact dT.refl _|exact dT.nil _ _))) .nil))))))) (TM s0 l ((lv l (vl l (vl l p ins).2 ins).2 ins fuel param).2) ((bD ins (cr 9 (vl l p ins).1 (vl l (vl l p ins).2 ins).1 0 0 (Int.ofNat aa.1)))) ((cf aa (lv l (vl l (vl l p ins).2 ins).2 ins fuel param).1)) fuel param hl (by first|omega|(simp only [yz]; omega)) (by first|omega|(simp only [yz]; omega)) hF hP (cr 9 (vl l p ins).1 (vl l (vl l p ins).2 ins).1 0 0 (Int.ofNat aa.1))))
theorem RC (hl:l.n<=maxLen) (hI:ins.n<=900) (hE:aa.n<=900) (hF:0<=fuel/\fuel<=1000) (hP:param<=1000)  : ag 14 4 (zW l s0 fuel param (YK l fuel param ⟨p,ins,aa⟩)) (ah 14 44) (B8 bD cf l p ins aa fuel param ):=by
 refine aF (X:=ml l bD cf) (stop:=fg) (TT _ _ bD cf l p ins aa fuel param  ?_)
 refine ⟨fE (m:=0) (q:=1) (i:=2) (j:=3) l _ _ hl,?_⟩
 refine ⟨nl (m:=0) (q:=1) (i:=2) (j:=3) l _ _ _ hl (by grind) (by grind) hF hP rfl rfl rfl rfl rfl,?_⟩
 refine ⟨eO (m:=0) (q:=1) (i:=2) (j:=5) _ _ (by grind) (by first|exact bf.refl _|exact jc (by repeat' (first|exact az.nil|refine az.cons ?_ ?_|exact dT.refl _|exact dT.nil _ _))) rfl (aH rfl) rfl rfl (aH rfl),?_⟩
 exact ag.rename [0,1,2,3,5,6,4] rfl (ag.lf (BA bD cf l ((lv l (vl l p ins).2 ins fuel param).2) ((bD ins (cr 8 (vl l p ins).1 0 0 0 (Int.ofNat aa.1)))) ((cf aa (lv l (vl l p ins).2 ins fuel param).1)) fuel param (cr 8 (vl l p ins).1 0 0 0 (Int.ofNat aa.1))) (rc (rc (rc (rc (rc (rc (.cons (bZ.box (by repeat' (first|exact az.nil|refine az.cons ?_ ?_|exact dT.refl _|exact dT.nil _ _))) .nil))))))) (Ri s0 l ((lv l (vl l p ins).2 ins fuel param).2) ((bD ins (cr 8 (vl l p ins).1 0 0 0 (Int.ofNat aa.1)))) ((cf aa (lv l (vl l p ins).2 ins fuel param).1)) fuel param hl (by first|omega|(simp only [yz]; omega)) (by first|omega|(simp only [yz]; omega)) hF hP (cr 8 (vl l p ins).1 0 0 0 (Int.ofNat aa.1))))
theorem Se (hl:l.n<=maxLen) (hI:ins.n<=900) (hE:aa.n<=900) (hF:0<=fuel/\fuel<=1000) (hP:param<=1000)  : ag 14 4 (zW l s0 fuel param (k49 l fuel param ⟨p,ins,aa⟩)) (ah 14 49) (Al bD cf l p ins aa fuel param ):=by
 refine aF (X:=ml l bD cf) (stop:=fg) (Sl _ _ bD cf l p ins aa fuel param  ?_)
 refine ⟨fE (m:=0) (q:=1) (i:=2) (j:=3) l _ _ hl,?_⟩
 refine ⟨eo l _ _ hl rfl,?_⟩
 refine ⟨nl (m:=0) (q:=1) (i:=2) (j:=3) l _ _ _ hl (by grind) (by grind) hF hP rfl rfl rfl rfl rfl,?_⟩
 refine ⟨eO (m:=0) (q:=1) (i:=2) (j:=5) _ _ (by grind) (by first|exact bf.refl _|exact jc (by repeat' (first|exact az.nil|refine az.cons ?_ ?_|exact dT.refl _|exact dT.nil _ _))) rfl (aH rfl) rfl rfl (aH rfl),?_⟩
 exact ag.rename [0,1,2,3,5,6,4] rfl (ag.lf (Ct bD cf l ((lv l (nx l (vl l p ins).2 4).2 ins fuel param).2) ((bD ins (cr 6 (vl l p ins).1 0 0 (bX (I.v (Value.int IntKind.i64 (IntKind.i64.wrap (1+(nx l (vl l p ins).2 4).1))))) (Int.ofNat aa.1)))) ((cf aa (lv l (nx l (vl l p ins).2 4).2 ins fuel param).1)) fuel param (cr 6 (vl l p ins).1 0 0 (bX (I.v (Value.int IntKind.i64 (IntKind.i64.wrap (1+(nx l (vl l p ins).2 4).1))))) (Int.ofNat aa.1))) (rc (rc (rc (rc (rc (rc (.cons (bZ.box (by repeat' (first|exact az.nil|refine az.cons ?_ ?_|exact dT.refl _|exact dT.nil _ _))) .nil))))))) (R9 s0 l ((lv l (nx l (vl l p ins).2 4).2 ins fuel param).2) ((bD ins (cr 6 (vl l p ins).1 0 0 (bX (I.v (Value.int IntKind.i64 (IntKind.i64.wrap (1+(nx l (vl l p ins).2 4).1))))) (Int.ofNat aa.1)))) ((cf aa (lv l (nx l (vl l p ins).2 4).2 ins fuel param).1)) fuel param hl (by first|omega|(simp only [yz]; omega)) (by first|omega|(simp only [yz]; omega)) hF hP (cr 6 (vl l p ins).1 0 0 (bX (I.v (Value.int IntKind.i64 (IntKind.i64.wrap (1+(nx l (vl l p ins).2 4).1))))) (Int.ofNat aa.1))))
theorem ZM (hl:l.n<=maxLen) (hI:ins.n<=900) (hE:aa.n<=900) (hF:0<=fuel/\fuel<=1000) (hP:param<=1000):LC 14 [.c (.rt 1 0 0)] [aE l p,aU 0 2 ins.n 3 aa.n fuel param,cX ins,lB aa] (.t []) [aE l (cE l fuel param ⟨p,ins,aa⟩).p,aU 0 5 (cE l fuel param ⟨p,ins,aa⟩).ins.n 4 (cE l fuel param ⟨p,ins,aa⟩).ex.n fuel param,.dead,.dead,lB (cE l fuel param ⟨p,ins,aa⟩).ex,cX (cE l fuel param ⟨p,ins,aa⟩).ins]:=by
 refine cY au9 (aH (by kernel_rfl)) ?_
 show ag 14 4 (zW l ⟨p,ins,aa⟩ fuel param (cE l fuel param ⟨p,ins,aa⟩)) _ _
 refine cU (X:=ml l bD cf) (stop:=fg) (av5 _ _ bD cf l p ins aa fuel param ?_)
 refine ⟨eo l _ _ hl rfl,?_⟩
 refine aq (λh0=>?_) (λh0=>?_)
 .rw [show cE l fuel param ⟨p,ins,aa⟩=k3 l ⟨(nx l p 14).2,ins,aa⟩ from by grind [cE]]
  exact ag.Cg 1 4 3 _ _ _ _ _ _ rfl rfl rfl (ag.lr (Ho bD cf l ((nx l p 14).2) (ins) (aa) fuel param) (Wt ⟨p,ins,aa⟩ l ((nx l p 14).2) (ins) (aa) fuel param hl (by grind) (by grind) hF hP))
 .refine aq (λh1=>?_) (λh1=>?_)
  .rw [show cE l fuel param ⟨p,ins,aa⟩=k7 l fuel param ⟨(nx l p 14).2,ins,aa⟩ from by grind [cE]]
   exact ag.lr (xZ bD cf l ((nx l p 14).2) (ins) (aa) fuel param) (Fo ⟨p,ins,aa⟩ l ((nx l p 14).2) (ins) (aa) fuel param hl (by grind) (by grind) hF hP)
  .refine aq (λh2=>?_) (λh2=>?_)
   .rw [show cE l fuel param ⟨p,ins,aa⟩=k7 l fuel param ⟨(nx l p 14).2,ins,aa⟩ from by grind [cE]]
    exact ag.lr (xZ bD cf l ((nx l p 14).2) (ins) (aa) fuel param) (Fo ⟨p,ins,aa⟩ l ((nx l p 14).2) (ins) (aa) fuel param hl (by grind) (by grind) hF hP)
   .refine aq (λh3=>?_) (λh3=>?_)
    .rw [show cE l fuel param ⟨p,ins,aa⟩=k7 l fuel param ⟨(nx l p 14).2,ins,aa⟩ from by grind [cE]]
     exact ag.lr (xZ bD cf l ((nx l p 14).2) (ins) (aa) fuel param) (Fo ⟨p,ins,aa⟩ l ((nx l p 14).2) (ins) (aa) fuel param hl (by grind) (by grind) hF hP)
    .refine aq (λh4=>?_) (λh4=>?_)
     .rw [show cE l fuel param ⟨p,ins,aa⟩=Y9 l fuel param ⟨(nx l p 14).2,ins,aa⟩ from by grind [cE]]
      exact ag.lr (AW bD cf l ((nx l p 14).2) (ins) (aa) fuel param) (SR ⟨p,ins,aa⟩ l ((nx l p 14).2) (ins) (aa) fuel param hl (by grind) (by grind) hF hP)
     .refine aq (λh5=>?_) (λh5=>?_)
      .rw [show cE l fuel param ⟨p,ins,aa⟩=VJ l fuel param ⟨(nx l p 14).2,ins,aa⟩ from by grind [cE]]
       exact ag.lr (Cy bD cf l ((nx l p 14).2) (ins) (aa) fuel param) (Sh ⟨p,ins,aa⟩ l ((nx l p 14).2) (ins) (aa) fuel param hl (by grind) (by grind) hF hP)
      .refine aq (λh6=>?_) (λh6=>?_)
       .rw [show cE l fuel param ⟨p,ins,aa⟩=Xl l fuel param ⟨(nx l p 14).2,ins,aa⟩ from by grind [cE]]
        exact ag.lr (vA bD cf l ((nx l p 14).2) (ins) (aa) fuel param) (I0 ⟨p,ins,aa⟩ l ((nx l p 14).2) (ins) (aa) fuel param hl (by grind) (by grind) hF hP)
       .refine aq (λh7=>?_) (λh7=>?_)
        .rw [show cE l fuel param ⟨p,ins,aa⟩=Xl l fuel param ⟨(nx l p 14).2,ins,aa⟩ from by grind [cE]]
         exact ag.lr (vA bD cf l ((nx l p 14).2) (ins) (aa) fuel param) (I0 ⟨p,ins,aa⟩ l ((nx l p 14).2) (ins) (aa) fuel param hl (by grind) (by grind) hF hP)
        .refine aq (λh8=>?_) (λh8=>?_)
         .rw [show cE l fuel param ⟨p,ins,aa⟩=k26 l fuel param ⟨(nx l p 14).2,ins,aa⟩ from by grind [cE]]
          exact ag.lr (A9 bD cf l ((nx l p 14).2) (ins) (aa) fuel param) (Sg ⟨p,ins,aa⟩ l ((nx l p 14).2) (ins) (aa) fuel param hl (by grind) (by grind) hF hP)
         .refine aq (λh9=>?_) (λh9=>?_)
          .rw [show cE l fuel param ⟨p,ins,aa⟩=VP l fuel param ⟨(nx l p 14).2,ins,aa⟩ from by grind [cE]]
           exact ag.lr (uW bD cf l ((nx l p 14).2) (ins) (aa) fuel param) (Jy ⟨p,ins,aa⟩ l ((nx l p 14).2) (ins) (aa) fuel param hl (by grind) (by grind) hF hP)
          .refine aq (λKW=>?_) (λKW=>?_)
           .rw [show cE l fuel param ⟨p,ins,aa⟩=VP l fuel param ⟨(nx l p 14).2,ins,aa⟩ from by grind [cE]]
            exact ag.lr (uW bD cf l ((nx l p 14).2) (ins) (aa) fuel param) (Jy ⟨p,ins,aa⟩ l ((nx l p 14).2) (ins) (aa) fuel param hl (by grind) (by grind) hF hP)
           .refine aq (λh11=>?_) (λh11=>?_)
            .rw [show cE l fuel param ⟨p,ins,aa⟩=Zy l fuel param ⟨(nx l p 14).2,ins,aa⟩ from by grind [cE]]
             exact ag.lr (CH bD cf l ((nx l p 14).2) (ins) (aa) fuel param) (R7 ⟨p,ins,aa⟩ l ((nx l p 14).2) (ins) (aa) fuel param hl (by grind) (by grind) hF hP)
            .refine aq (λh12=>?_) (λh12=>?_)
             .rw [show cE l fuel param ⟨p,ins,aa⟩=YK l fuel param ⟨(nx l p 14).2,ins,aa⟩ from by grind [cE]]
              exact ag.lr (B8 bD cf l ((nx l p 14).2) (ins) (aa) fuel param) (RC ⟨p,ins,aa⟩ l ((nx l p 14).2) (ins) (aa) fuel param hl (by grind) (by grind) hF hP)
             .refine aq (λh13=>?_) (λh13=>?_)
              .rw [show cE l fuel param ⟨p,ins,aa⟩=k49 l fuel param ⟨(nx l p 14).2,ins,aa⟩ from by grind [cE]]
               exact ag.lr (Al bD cf l ((nx l p 14).2) (ins) (aa) fuel param) (Se ⟨p,ins,aa⟩ l ((nx l p 14).2) (ins) (aa) fuel param hl (by grind) (by grind) hF hP)
              .exfalso
               obtain ⟨d,hd,eG⟩:=iu (l:=l) (p:=p) (n:=14) (by omega) (by omega)
               grind
theorem ac2 {m q i j:Nat} {RS:List ae} (hl:l.n<=maxLen) (hI:ins.n<=900) (hE:aa.n<=900) (hF:0<=fuel/\fuel<=1000) (hP:param<=1000) (hd:gW [m,q,i,j]=true) (h0:aR RS m=some (aE l p)) (h1:aR RS q=some (aU m i ins.n j aa.n fuel param)) (h2:aR RS i=some (cX ins)) (h3:aR RS j=some (lB aa)) :
  LC 14 [.c (.rt q 0 0)] RS (.t []) (setAt (setAt (setAt (setAt RS m (aE l (cE l fuel param ⟨p,ins,aa⟩).p)) q (aU m (RS.length+1) (cE l fuel param ⟨p,ins,aa⟩).ins.n RS.length (cE l fuel param ⟨p,ins,aa⟩).ex.n fuel param)) i .dead) j .dead++[lB (cE l fuel param ⟨p,ins,aa⟩).ex,cX (cE l fuel param ⟨p,ins,aa⟩).ins]):=
 bB.jm (ZM l p ins aa fuel param hl hI hE hF hP) [m,q,i,j] RS hd ⟨h0,eD h0,h1,eD h1,h2,eD h2,h3,eD h3,rfl⟩
end
end
end Go.Proofs.Ytapefhcmohbmaaa
set_option linter.unusedSectionVars false
namespace Go.Proofs.Ytapefhcmohbmaaa
open Go Go.V
noncomputable section
structure xC (e:ai):Prop where
 frames:e.frames.n<=900
 vars:∀ j,j<e.frames.n->(e.frames.get j).vars.n<=900
 aC:e.aC.n<=900
 names:∀ j,j<e.aC.n->(e.aC.get j).names.n<=900
 items:∀ j,j<e.aC.n->(e.aC.get j).items.n<=900
 pos:0<e.frames.n
structure pj (x:ak):Prop where
 n:x.n<=9223372036854775807
 args:x.args.n<=900
 names:x.names.n<=900
 str:x.k.s.size<=900
structure dc (s s':jL) (c d:Nat):Prop where
 ins:s'.ins.n<=s.ins.n+c
 ex:s'.ex.n<=s.ex.n+d
 gi:(∀ k,k<s.ins.n->pj (s.ins.get k))->∀ k,k<s'.ins.n->pj (s'.ins.get k)
 ge:(∀ k,k<s.ex.n->xC (s.ex.get k))->∀ k,k<s'.ex.n->xC (s'.ex.get k)
section
variable (s:jL) {a b:jL} (p:Nat) {x:ak} {m n m' n':Nat}
theorem dc.refl:dc s s 0 0:=⟨bl _,bl _,λh=>h,λh=>h⟩
theorem dc.trans {c:jL} (h:dc a b m n) (k:dc b c m' n'):dc a c (m+m') (n+n'):=
 ⟨by have:=h.ins; have:=k.ins; omega,by have:=h.ex; have:=k.ex; omega,λq=>k.gi (h.gi q),λq=>k.ge (h.ge q)⟩
theorem dc.le (h:dc a b m n) (h1:m<=m') (h2:n<=n'):dc a b m' n' :=
 ⟨by have:=h.ins; omega,by have:=h.ex; omega,h.gi,h.ge⟩
theorem jb {α:Type} {P:α->Prop} {s:Sq α} {x:α} (h:∀ k,k<s.n->P (s.get k)) (hx:P x):∀ k,k<(dV s ⟨1,λ_=>x⟩).n->P ((dV s ⟨1,λ_=>x⟩).get k):=by
 intro k hk
 show P (Bool.rec x (s.get k) (Nat.blt k s.n))
 cases hb:Nat.blt k s.n with
 | true=>simp_all
 | false=>exact hx
theorem dc.add (hx:pj x):dc s ⟨p,bD s.ins x,s.ex⟩ 1 0:=
 ⟨bl _,bl _,λh=>jb h hx,λh=>h⟩
theorem dc.both {e:ai} (hx:pj x) (he:xC e):dc s ⟨p,bD s.ins x,cf s.ex e⟩ 1 1:=
 ⟨bl _,bl _,λh=>jb h hx,λh=>jb h he⟩
theorem BZ (k:Int):IntKind.i64.wrap k<=9223372036854775807:=by
 have e1:(2 ^ IntKind.i64.bits:Int)=18446744073709551616:=by rfl
 have e2:(2 ^ (IntKind.i64.bits-1):Int)=9223372036854775808:=by rfl
 have e4:IntKind.i64.signed=true:=rfl
 grind [IntKind.wrap]
theorem I5 {l:Sq Int} {p:Nat} {n:Int} (h2:n<=900):(nx l p n).1<=900:=by
 by_cases h1:1<=n
 .have:=(xv (l:=l) (p:=p) h1 (by omega)).2
  omega
 grind [nx]
theorem fz {op a b c n e:Int} (h:n<=9223372036854775807):pj (cr op a b c n e):=⟨h,bn _,bn _,bn _⟩
theorem pj.exit (h:pj x) (e:Int):pj { x with exit:=e }:=⟨h.n,h.args,h.names,h.str⟩
end
theorem Pr (l:Sq Int) (ins:Sq ak):∀ (m p:Nat) (h:Sq Int),(LB l ins m p h).1.n=h.n+m
 | 0,p,h=>rfl
 | m+1,p,h=>by
   show (LB l ins m _ (dV h ⟨1,λ_=>(vl l p ins).1⟩)).1.n=_
   rw [Pr]
   show h.n+1+m=_
   omega
theorem rD (l:Sq Int) (p:Nat) (ins:Sq ak) (fuel:Int) (param:Nat) (h:param<=900):xC (lv l p ins fuel param).1:=by
 have hv:(LB l ins param p (aK 0)).1.n<=900:=by rw [Pr]; show 0+param<=_; omega
 unfold lv UC QV
 generalize ((nx l (nx l (LB l ins param p (aK 0)).2 (fuel+1)).2 5).1==0)=b
 cases b with
 | false=>
   refine ⟨by simp,λj _=>hv,bn _,λj hj=>absurd hj (Nat.not_lt_zero j),λj hj=>absurd hj (Nat.not_lt_zero j),by grind⟩
 | true=>
   refine ⟨by show 1+1<=900; omega,?_,bn _,λj hj=>absurd hj (Nat.not_lt_zero j),λj hj=>absurd hj (Nat.not_lt_zero j),by first|exact Nat.zero_lt_succ _|simp⟩
   intro j _
   simp only [cond_true]
   show (Bool.rec (Yx _) (⟨0,0,(LB l ins param p (aK 0)).1⟩:cA) (Nat.blt j 1):cA).vars.n<=900
   cases Nat.blt j 1 with
   | true=>exact hv
   | false=>show 2<=900; omega
section
variable (l:Sq Int) (fuel:Int) (param:Nat) (hP:param<=900)
include hP
theorem jn {x:ak} (hx:pj x) (p:Nat) (s:jL):dc s (QQ l fuel param x p s) 1 1:=
 dc.both s _ (hx.exit _) (rD l p s.ins fuel param hP)
section
variable (c:Int) (x:ak) (s:jL)
theorem Ed:dc s (YH l c s) 1 0:=dc.add s _ (fz (by have:=I5 (l:=l) (p:=s.p) (n:=2) (by omega); omega))
theorem QB:dc s (k34 l param c s) 2 0:=
 (dc.add s _ (fz (by have:=I5 (l:=l) (p:=(nx l s.p (param:Int)).2) (n:=2) (by omega); omega))).trans (Ed l param hP c _)
theorem Pz:dc s (k33 l param s) 3 0:=
 (dc.add s s.p (x:={ cr 16 0 0 0 0 (-1) with names:=KK }) ⟨by decide,bn _,by decide,bn _⟩).trans (QB l param hP _ _)
theorem OY:dc s (k27 l c s) 1 0:=dc.add s _ (fz (by have:=I5 (l:=l) (p:=(vl l s.p s.ins).2) (n:=2) (by omega); omega))
theorem OX:dc s (U5 l x s) 1 0:=by
 grind [U5,dc.add,fz]
theorem MH:dc s (k47 x s) 1 0:=dc.add s _ (fz (by omega))
theorem MD:dc s (k52 l x s) 1 0:=dc.add s _ ⟨by show (0:Int)<=_; omega,bn _,bn _,bn _⟩
theorem Py:dc s (k18 l fuel param c s) 1 1:=jn l fuel param hP (fz (by have:=I5 (l:=l) (p:=s.p) (n:=2) (by omega); omega)) _ s
theorem Rk:dc s (k3 l s) 1 0:=dc.add s _ ⟨by show (0:Int)<=_; omega,bn _,bn _,by
 show (S9 _ _).s.size<=900
 unfold S9
 generalize Nat.beq _ 0=a
 generalize Nat.beq _ 1=b
 generalize Nat.beq _ 2=c
 cases a<;>cases b<;>cases c<;>first|exact bn _|(show 1<=900; omega)⟩
theorem AR:dc s (k7 l fuel param s) 1 1:=jn l fuel param hP (fz (BZ _)) _ s
theorem LW:dc s (Y9 l fuel param s) 1 1:=jn l fuel param hP (fz (BZ _)) _ s
theorem Wz (d:Nat):QU d<=9223372036854775807:=by unfold QU; grind
theorem NW:dc s (VJ l fuel param s) 2 2:=(jn l fuel param hP (fz (Wz param hP _)) _ s).trans (Py l fuel param hP _ _)
theorem Dm:dc s (ksh l fuel param s) 1 1:=dc.both s _ ⟨by show (0:Int)<=_; omega,bn _,by show 2<=900; omega,bn _⟩ (rD l _ s.ins fuel param hP)
theorem C7:dc s (Xl l fuel param s) 2 1:=(Dm l fuel param hP s).trans (Ed l param hP _ _)
theorem Mn:dc s (k26 l fuel param s) 2 1:=(Dm l fuel param hP s).trans (OY l param hP _ _)
theorem DY:dc s (VP l fuel param s) 4 1:=(jn l fuel param hP (fz (by omega)) s.p s).trans (Pz l param hP _)
theorem Qn:dc s (Zy l fuel param s) 2 1:=(jn l fuel param hP (fz (by omega)) _ s).trans (OX l param hP _ _)
theorem OH:dc s (YK l fuel param s) 2 1:=(jn l fuel param hP (fz (by omega)) _ s).trans (MH param hP _ _)
theorem M3:dc s (k49 l fuel param s) 2 1:=(jn l fuel param hP (fz (BZ _)) _ s).trans (MD l param hP _ _)
theorem iz {s s':jL} {p:Nat} {c d:Nat} (h:dc ⟨p,s.ins,s.ex⟩ s' c d) (h1:c<=4) (h2:d<=2):dc s s' 4 2:=by
 have:=h.ins; have:=h.ex
 refine ⟨?_,?_,h.gi,h.ge⟩
 all_goals grind
theorem Di:dc s (cE l fuel param s) 4 2:=by
 unfold cE
 generalize (nx l s.p 14).1=t
 have G:∀ {b:Bool} {x y:jL},dc s x 4 2->dc s y 4 2->dc s (bif b then x else y) 4 2:=λ{b x y} h1 h2=>by cases b<;>assumption
 refine G (iz param hP (Rk l param hP _) (by omega) (by omega)) (G (iz param hP (AR l fuel param hP _) (by omega) (by omega)) (G (iz param hP (AR l fuel param hP _) (by omega) (by omega)) (G (iz param hP (AR l fuel param hP _) (by omega) (by omega)) (G (iz param hP (LW l fuel param hP _) (by omega) (by omega)) (G (iz param hP (NW l fuel param hP _) (by omega) (by omega)) (G (iz param hP (C7 l fuel param hP _) (by omega) (by omega)) (G (iz param hP (C7 l fuel param hP _) (by omega) (by omega)) (G (iz param hP (Mn l fuel param hP _) (by omega) (by omega)) (G (iz param hP (DY l fuel param hP _) (by omega) (by omega)) (G (iz param hP (DY l fuel param hP _) (by omega) (by omega)) (G (iz param hP (Qn l fuel param hP _) (by omega) (by omega)) (G (iz param hP (OH l fuel param hP _) (by omega) (by omega)) (iz param hP (M3 l fuel param hP _) (by omega) (by omega))))))))))))))
end
end
open Go Go.V
section
variable (l:Sq Int) (sn:Sq ak->ak->Sq ak) (sx:Sq ai->ai->Sq ai)
def ar6 (ds:List D) (rs:List ae):Out:=match ds with
 | [.c (.rt q _ _)]=>match aR rs q with
   | some (.box [.rt m a b,c,d,.sa i n,.sa j ne,.im (.v (.int .i64 fu)),.im (.v (.int .i64 pa))])=>match aR rs m,aR rs i,aR rs j with
     | some (.box [y,.im (.v (.int .i64 p))]),some (.arr _ _ k get),some (.arr _ _ ke ge)=>
       (.t [],[(m,.box [y,.im (iI (cE l fu pa.toNat ⟨p.toNat,⟨k,λt=>jA (get t)⟩,⟨ke,λt=>oB (ge t)⟩⟩).p)]),(q,.box [.rt m a b,c,d,.sa (rs.length+1) (cE l fu pa.toNat ⟨p.toNat,⟨k,λt=>jA (get t)⟩,⟨ke,λt=>oB (ge t)⟩⟩).ins.n,.sa rs.length (cE l fu pa.toNat ⟨p.toNat,⟨k,λt=>jA (get t)⟩,⟨ke,λt=>oB (ge t)⟩⟩).ex.n,.im (iI fu),.im (iI pa)]),(i,.dead),(j,.dead)],
        [lB (cE l fu pa.toNat ⟨p.toNat,⟨k,λt=>jA (get t)⟩,⟨ke,λt=>oB (ge t)⟩⟩).ex,cX (cE l fu pa.toNat ⟨p.toNat,⟨k,λt=>jA (get t)⟩,⟨ke,λt=>oB (ge t)⟩⟩).ins])
     | _,_,_=>tn
   | _=>tn
 | _=>tn
def ar4 (f:FuncId) (ds:List D) (rs:List ae):Out:=match f with
 | 14=>ar6 l ds rs
 | f=>F67 l sn sx f ds rs
def D8:gr:={ F:=ar4 l sn sx,W:=W67 l,S:=yH }
end
def J5:ae:=.box [.im (iI 0),.im (iI 0),.im (.v (.slice .none 0 0)),.im (.v (.slice .none 0 0))]
def o8:Sq ai:=aK ⟨aK ⟨0,0,aK 0⟩,aK zV,0⟩
def gb:Sq ak:=aK zI
section
def pI (k:Nat):ak:={ cr 1 0 0 0 0 (-1) with k:=⟨3,(k:Int),⟨⟨[]⟩⟩⟩ }
def sD:Nat->Nat->Sq ak->Sq ak
 | 0,_,s=>s
 | m+1,k,s=>sD m (k+1) (bD s (pI k))
def yk (l:Sq Int) (ins:Sq ak):Nat->Nat->Nat->Sq Int->Sq Int
 | 0,_,_,h=>h
 | m+1,k,p,h=>bif (nx l p 2).1==0 then yk l ins m (k+1) (nx l p 2).2 (dV h ⟨1,λ_=>(k:Int)⟩) else yk l ins m (k+1) (vl l (nx l p 2).2 ins).2 (dV h ⟨1,λ_=>(vl l (nx l p 2).2 ins).1⟩)
def VC (s:jL) (h:Sq Int):af:=⟨⟨0,0⟩,bD s.ins { cr 20 0 0 0 0 (-1) with args:=h },s.ex⟩
section
variable (l:Sq Int) (fuel:Int) (param p:Nat) (ins:Sq ak) (ex:Sq ai)
def tM (s:jL):af:=bif (nx l s.p 6).1==0 then ⟨⟨0,0⟩,bD s.ins (cr 21 0 0 0 0 (s.ex.n:Int)),cf s.ex (lv l (nx l s.p 6).2 s.ins fuel param).1⟩ else VC s (yk l s.ins param 0 (nx l s.p 6).2 (aK 0))
def QX (l:Sq Int) (fuel:Int) (param:Nat):Nat->jL->jL
 | 0,s=>s
 | m+1,s=>QX l fuel param m (cE l fuel param s)
def QO:jL:=⟨(nx l (lv l p ins 0 param).2 14).2,bD ins (cr 18 0 0 0 fuel (ex.n:Int)),cf ex (lv l p ins 0 param).1⟩
def Qd:af:=
 tM l (1+(nx l p 4).1) param (QX l (1+(nx l p 4).1) param (nx l (lv l (nx l p 4).2 ins 0 param).2 14).1.toNat (QO l (1+(nx l p 4).1) param (nx l p 4).2 ins ex))
def made:af:=Qd l (1+(nx l 0 4).1.toNat) (nx l 0 4).2 (sD (1+(nx l 0 4).1.toNat) 0 gb) o8
end
end
def nN:Nat->Bool:=λi=>Nat.beq i 4||Nat.beq i 7||Nat.beq i 16||Nat.beq i 19||Nat.beq i 26||Nat.beq i 31
theorem az2:Fn 5:={}
abbrev eK:ae:=.box [(ci 0),(ci 0),dO,dO]
section
variable (L:LP) (aj:Sq Int) (QD:D->Prop) (aA:Nat) (sn:Sq ak->ak->Sq ak) (aB:Sq ak) (sx:Sq ai->ai->Sq ai) (l:Sq Int) (p:Nat) (ins:Sq ak) (aa:Sq ai) (fuel:Int) (param:Nat) (x:ak)
theorem av3 (h:(WC 11 [(.c (.rt 1 0 0)),(int 4)] [eK,(.box [(pO l),(ci 0)]),(.box [(.rt 1 0 0),(ci 0),(ci 0),dO,dO,(ci 0),(ci 0)])] (int ((nx l 0 4).1)) 1 (aE l ((nx l 0 4).2))/\L (ah 5 4) ⟨[dw,ko,(4,((int 0),[]))],[eK,(aE l ((nx l 0 4).2)),(.box [(.rt 1 0 0),(ci 0),(ci 0),dO,dO,(ci 0),(ci (IntKind.i64.wrap (1+(nx l 0 4).1)))])],[]⟩)):fG (D8 l sn sx) 5 nN L (cy QD) [iR 1 bF l] []:=km h
abbrev mr:gn:=(3,.c (.rt 2 0 0),[])
def A2 (sn:Sq ak->ak->Sq ak) (sx:Sq ai->ai->Sq ai) (l:Sq Int) (p:Nat) (ins:Sq ak) (aa:Sq ai) (param k:Nat):VS:=⟨[iO,mr,(4,int k,[])],[J5,aE l p,aU 1 3 ins.n 4 aa.n 0 param,cX ins,lB aa],[]⟩
abbrev GZ (aT:Sq ai) (bp:Nat):List ae:=[eK,(aE aj aA),(aU 1 3 aB.1 4 aT.1 0 (↑bp:Int)),(bq aB),(bK aT)]
abbrev UP (aB:Sq ak->ak->Sq ak) (aT:Sq ak) (bp:Nat) (bP:Sq ai) (bU:Nat):List ae:=[eK,(aE aj aA),(aU 1 5 ((aB aT { op:=Int.ofNat 1,a:=Int.ofNat 0,b:=Int.ofNat 0,c:=Int.ofNat 0,n:=Int.ofNat 0,args:={ n:=0,get:=λx=>Int.ofNat 0 },k:={ kind:=Int.ofNat 3,n:=Int.ofNat bp,s:={ data:={ toList:=[] } } },names:={ n:=0,get:=λx=>{ data:={ toList:=[] } } },place:={ fn:=Int.ofNat 0,line:=Int.ofNat 0 },exit:=Int.negSucc 0,once:=false }).1) 4 bP.1 0 (↑bU:Int)),.dead,(bK bP),(.arr 40 14 ((aB aT { op:=Int.ofNat 1,a:=Int.ofNat 0,b:=Int.ofNat 0,c:=Int.ofNat 0,n:=Int.ofNat 0,args:={ n:=0,get:=λx=>Int.ofNat 0 },k:={ kind:=Int.ofNat 3,n:=Int.ofNat bp,s:={ data:={ toList:=[] } } },names:={ n:=0,get:=λx=>{ data:={ toList:=[] } } },place:={ fn:=Int.ofNat 0,line:=Int.ofNat 0 },exit:=Int.negSucc 0,once:=false }).1) (λi=>bQ ((aB aT { op:=Int.ofNat 1,a:=Int.ofNat 0,b:=Int.ofNat 0,c:=Int.ofNat 0,n:=Int.ofNat 0,args:={ n:=0,get:=λx=>Int.ofNat 0 },k:={ kind:=Int.ofNat 3,n:=Int.ofNat bp,s:={ data:={ toList:=[] } } },names:={ n:=0,get:=λx=>{ data:={ toList:=[] } } },place:={ fn:=Int.ofNat 0,line:=Int.ofNat 0 },exit:=Int.negSucc 0,once:=false }).2 i)))]
theorem NT (k:Nat) (h:br (decide ((↑k:Int)<(↑param:Int))) ((LC 12 [(.c (.rt 2 0 0)),(.a [(ci 1),(ci 0),(ci 0),(ci 0),(ci 0),dO,(ci 3),(ci (↑k:Int)),eR,dO,(ci 0),(ci 0),(ci (-1)),dn])] (GZ l p ins aa param) (ei ins) (UP l p sn ins k aa param)/\L (ah 5 4) ⟨[dw,ko,(4,((int (IntKind.i64.wrap ((↑k:Int)+1))),[]))],(UP l p sn ins k aa param),[]⟩)) (L (ah 5 7) ⟨[dw,ko,(4,((int (↑k:Int)),[])),(29,((bool false),[]))],(GZ l p ins aa param),[]⟩)):cW (D8 l sn sx) 5 nN L (cy QD) 4 (A2 sn sx l p ins aa param k):=km h
def HB (sn:Sq ak->ak->Sq ak) (sx:Sq ai->ai->Sq ai) (l:Sq Int) (p:Nat) (ins:Sq ak) (aa:Sq ai) (param:Nat):VS:=⟨[iO,mr],[J5,aE l p,aU 1 3 ins.n 4 aa.n 0 param,cX ins,lB aa],[]⟩
abbrev vN:List D:=[(.c (.rt 2 0 0))]
abbrev DW (aj:Sq ai->ai->Sq ai) (aA:Sq ai) (aB:Sq Int) (aT:Nat) (bp:Sq ak) (bP:Nat):ae:=.arr 68 3 ((aj aA (lv aB (nx aB aT 4).2 bp 0 bP).1).1) (λi=>bG ((aj aA (lv aB (nx aB aT 4).2 bp 0 bP).1).2 i))
abbrev pX:gn:=(5,((.c (.rt 5 0 0)),[]))
theorem Xg (h:(WC 11 [(.c (.rt 1 0 0)),(int 4)] (GZ l p ins aa param) (int ((nx l p 4).1)) 1 (aE l ((nx l p 4).2))/\(LC 13 vN [eK,(aE l ((nx l p 4).2)),(aU 1 3 ins.1 4 aa.1 0 (↑param:Int)),(bq ins),(bK aa),(.box (fF 18 0 0 0 (bX (I.v (Value.int IntKind.i64 (IntKind.i64.wrap (1+(nx l p 4).1))))) 0))] (jF aa) [eK,(aE l ((lv l (nx l p 4).2 ins 0 param).2)),(aU 1 3 ins.1 6 ((sx aa (lv l (nx l p 4).2 ins 0 param).1).1) 0 (↑param:Int)),(bq ins),.dead,(.box (fF 18 0 0 0 (bX (I.v (Value.int IntKind.i64 (IntKind.i64.wrap (1+(nx l p 4).1))))) 0)),(DW sx aa l p ins param)]/\(LC 12 [(.c (.rt 2 0 0)),(.a (fF 18 0 0 0 (bX (I.v (Value.int IntKind.i64 (IntKind.i64.wrap (1+(nx l p 4).1))))) (Int.ofNat aa.1)))] [eK,(aE l ((lv l (nx l p 4).2 ins 0 param).2)),(aU 1 3 ins.1 6 ((sx aa (lv l (nx l p 4).2 ins 0 param).1).1) (IntKind.i64.wrap (1+(nx l p 4).1)) (↑param:Int)),(bq ins),.dead,(.box (fF 18 0 0 0 (bX (I.v (Value.int IntKind.i64 (IntKind.i64.wrap (1+(nx l p 4).1))))) (Int.ofNat aa.1))),(DW sx aa l p ins param)] (ei ins) [eK,(aE l ((lv l (nx l p 4).2 ins 0 param).2)),(aU 1 7 ((sn ins (cr 18 0 0 0 (bX (I.v (Value.int IntKind.i64 (IntKind.i64.wrap (1+(nx l p 4).1))))) (Int.ofNat aa.1))).1) 6 ((sx aa (lv l (nx l p 4).2 ins 0 param).1).1) (IntKind.i64.wrap (1+(nx l p 4).1)) (↑param:Int)),.dead,.dead,(.box (fF 18 0 0 0 (bX (I.v (Value.int IntKind.i64 (IntKind.i64.wrap (1+(nx l p 4).1))))) (Int.ofNat aa.1))),(DW sx aa l p ins param),(.arr 40 14 ((sn ins (cr 18 0 0 0 (bX (I.v (Value.int IntKind.i64 (IntKind.i64.wrap (1+(nx l p 4).1))))) (Int.ofNat aa.1))).1) (λi=>bQ ((sn ins (cr 18 0 0 0 (bX (I.v (Value.int IntKind.i64 (IntKind.i64.wrap (1+(nx l p 4).1))))) (Int.ofNat aa.1))).2 i)))]/\(WC 11 [(.c (.rt 1 0 0)),(int 14)] [eK,(aE l ((lv l (nx l p 4).2 ins 0 param).2)),(aU 1 7 ((sn ins (cr 18 0 0 0 (bX (I.v (Value.int IntKind.i64 (IntKind.i64.wrap (1+(nx l p 4).1))))) (Int.ofNat aa.1))).1) 6 ((sx aa (lv l (nx l p 4).2 ins 0 param).1).1) (IntKind.i64.wrap (1+(nx l p 4).1)) (↑param:Int)),.dead,.dead,(.box (fF 18 0 0 0 (bX (I.v (Value.int IntKind.i64 (IntKind.i64.wrap (1+(nx l p 4).1))))) (Int.ofNat aa.1))),(DW sx aa l p ins param),(.arr 40 14 ((sn ins (cr 18 0 0 0 (bX (I.v (Value.int IntKind.i64 (IntKind.i64.wrap (1+(nx l p 4).1))))) (Int.ofNat aa.1))).1) (λi=>bQ ((sn ins (cr 18 0 0 0 (bX (I.v (Value.int IntKind.i64 (IntKind.i64.wrap (1+(nx l p 4).1))))) (Int.ofNat aa.1))).2 i)))] (int ((nx l (lv l (nx l p 4).2 ins 0 param).2 14).1)) 1 (aE l ((nx l (lv l (nx l p 4).2 ins 0 param).2 14).2))/\L (ah 5 16) ⟨[dw,ko,pX,(7,((int ((nx l (lv l (nx l p 4).2 ins 0 param).2 14).1)),[])),(8,((int 0),[]))],[eK,(aE l ((nx l (lv l (nx l p 4).2 ins 0 param).2 14).2)),(aU 1 7 ((sn ins (cr 18 0 0 0 (bX (I.v (Value.int IntKind.i64 (IntKind.i64.wrap (1+(nx l p 4).1))))) (Int.ofNat aa.1))).1) 6 ((sx aa (lv l (nx l p 4).2 ins 0 param).1).1) (IntKind.i64.wrap (1+(nx l p 4).1)) (↑param:Int)),.dead,.dead,(.box (fF 18 0 0 0 (bX (I.v (Value.int IntKind.i64 (IntKind.i64.wrap (1+(nx l p 4).1))))) (Int.ofNat aa.1))),(DW sx aa l p ins param),(.arr 40 14 ((sn ins (cr 18 0 0 0 (bX (I.v (Value.int IntKind.i64 (IntKind.i64.wrap (1+(nx l p 4).1))))) (Int.ofNat aa.1))).1) (λi=>bQ ((sn ins (cr 18 0 0 0 (bX (I.v (Value.int IntKind.i64 (IntKind.i64.wrap (1+(nx l p 4).1))))) (Int.ofNat aa.1))).2 i)))],[]⟩))))):cW (D8 l sn sx) 5 nN L (cy QD) 7 (HB sn sx l p ins aa param):=km h
abbrev CE:gn:=(5,.c (.rt 5 0 0),[])
def vc (sn:Sq ak->ak->Sq ak) (sx:Sq ai->ai->Sq ai) (l:Sq Int) (p:Nat) (ins:Sq ak) (aa:Sq ai) (fuel:Int) (param:Nat) (x:ak) (steps k:Nat):VS:=⟨[iO,mr,CE,(7,int steps,[]),(8,int k,[])],[J5,aE l p,aU 1 3 ins.n 4 aa.n fuel param,cX ins,lB aa,.box (lift (b8 x))],[]⟩
abbrev mY (aj:Sq ak) (aA:Sq ai) (aB:Int) (aT:Nat):ae:=aU 1 3 aj.1 4 aA.1 aB (↑aT:Int)
abbrev Cb (aT:Sq ai) (bp:Int) (bP:Nat) (bU:ak):List ae:=[eK,(aE aj aA),(mY aB aT bp bP),(bq aB),(bK aT),(dM bU)]
abbrev UW (aA:Int) (aB aT:Nat) (bp:Sq ak) (bP:Sq ai) (bU:ak):List ae:=[eK,(aE aj ((cE aj aA aB { p:=aT,ins:=bp,ex:=bP }).p)),(aU 1 7 ((cE aj aA aB { p:=aT,ins:=bp,ex:=bP }).ins.1) 6 ((cE aj aA aB { p:=aT,ins:=bp,ex:=bP }).ex.1) aA (↑aB:Int)),.dead,.dead,(dM bU),(.arr 68 3 ((cE aj aA aB { p:=aT,ins:=bp,ex:=bP }).ex.1) (λi=>bG ((cE aj aA aB { p:=aT,ins:=bp,ex:=bP }).ex.2 i))),(.arr 40 14 ((cE aj aA aB { p:=aT,ins:=bp,ex:=bP }).ins.1) (λi=>bQ ((cE aj aA aB { p:=aT,ins:=bp,ex:=bP }).ins.2 i)))]
theorem Ih (steps k:Nat) (h:br (decide ((↑k:Int)<(↑steps:Int))) ((LC 14 vN (Cb l p ins aa fuel param x) (.t []) (UW l fuel param p ins aa x)/\L (ah 5 16) ⟨[dw,ko,pX,(7,((gS steps),[])),(8,((int (IntKind.i64.wrap ((↑k:Int)+1))),[]))],(UW l fuel param p ins aa x),[]⟩)) (L (ah 5 19) ⟨[dw,ko,pX,(7,((gS steps),[])),(8,((int (↑k:Int)),[])),(75,((bool false),[]))],(Cb l p ins aa fuel param x),[]⟩)):cW (D8 l sn sx) 5 nN L (cy QD) 16 (vc sn sx l p ins aa fuel param x steps k):=km h
def CO (sn:Sq ak->ak->Sq ak) (sx:Sq ai->ai->Sq ai) (l:Sq Int) (p:Nat) (ins:Sq ak) (aa:Sq ai) (fuel:Int) (param:Nat) (x:ak):VS:=⟨[iO,mr,CE],[J5,aE l p,aU 1 3 ins.n 4 aa.n fuel param,cX ins,lB aa,.box (lift (b8 x))],[]⟩
abbrev FF (aj:Sq ai->ai->Sq ai) (aA:Sq ai) (aB:Sq Int) (aT:Nat) (bp:Sq ak) (bP:Int) (bU:Nat):ae:=.arr 68 3 ((aj aA (lv aB (nx aB aT 6).2 bp bP bU).1).1) (λi=>bG ((aj aA (lv aB (nx aB aT 6).2 bp bP bU).1).2 i))
theorem TL (h:(WC 11 [(.c (.rt 1 0 0)),(int 6)] (Cb l p ins aa fuel param x) (int ((nx l p 6).1)) 1 (aE l ((nx l p 6).2))/\br ((nx l p 6).1==0) ((LC 13 vN [eK,(aE l ((nx l p 6).2)),(mY ins aa fuel param),(bq ins),(bK aa),(.box (fF 21 0 0 0 0 0))] (jF aa) [eK,(aE l ((lv l (nx l p 6).2 ins fuel param).2)),(aU 1 3 ins.1 6 ((sx aa (lv l (nx l p 6).2 ins fuel param).1).1) fuel (↑param:Int)),(bq ins),.dead,(.box (fF 21 0 0 0 0 0)),(FF sx aa l p ins fuel param)]/\(LC 12 [(.c (.rt 2 0 0)),(.a (fF 21 0 0 0 0 (Int.ofNat aa.1)))] [eK,(aE l ((lv l (nx l p 6).2 ins fuel param).2)),(aU 1 3 ins.1 6 ((sx aa (lv l (nx l p 6).2 ins fuel param).1).1) fuel (↑param:Int)),(bq ins),.dead,(.box (fF 21 0 0 0 0 (Int.ofNat aa.1))),(FF sx aa l p ins fuel param)] (ei ins) [eK,(aE l ((lv l (nx l p 6).2 ins fuel param).2)),(aU 1 7 ((sn ins (cr 21 0 0 0 0 (Int.ofNat aa.1))).1) 6 ((sx aa (lv l (nx l p 6).2 ins fuel param).1).1) fuel (↑param:Int)),.dead,.dead,(.box (fF 21 0 0 0 0 (Int.ofNat aa.1))),(FF sx aa l p ins fuel param),(.arr 40 14 ((sn ins (cr 21 0 0 0 0 (Int.ofNat aa.1))).1) (λi=>bQ ((sn ins (cr 21 0 0 0 0 (Int.ofNat aa.1))).2 i)))]/\QD (.a (lift (aJ ({ place:={ fn:=Int.ofNat 0,line:=Int.ofNat 0 },ins:=sn ins (cr 21 0 0 0 0 (Int.ofNat aa.1)),aa:=sx aa (lv l (nx l p 6).2 ins fuel param).1 }))))))) (L (ah 5 26) ⟨[dw,ko,pX,(9,((int 0),[]))],[eK,(aE l ((nx l p 6).2)),(mY ins aa fuel param),(bq ins),(bK aa),(.box (fF 20 0 0 0 0 (-1)))],[]⟩))):cW (D8 l sn sx) 5 nN L (cy QD) 19 (CO sn sx l p ins aa fuel param x):=km h
def rv (sn:Sq ak->ak->Sq ak) (sx:Sq ai->ai->Sq ai) (l:Sq Int) (p:Nat) (ins:Sq ak) (aa:Sq ai) (fuel:Int) (param:Nat) (hq:Sq Int) (k:Nat):VS:=⟨[iO,mr,CE,(9,int k,[])],[J5,aE l p,aU 1 3 ins.n 4 aa.n fuel param,cX ins,lB aa,.box [.im (iI 20),.im (iI 0),.im (iI 0),.im (iI 0),.im (iI 0),.sa 6 hq.n,.im (iI 0),.im (iI 0),.im (iS ⟨⟨[]⟩⟩),.im (.v (.slice none 0 0)),.im (iI 0),.im (iI 0),.im (iI (-1)),.im (iB false)],.arr 3 1 hq.n (λi=>bF (hq.get i))],[]⟩
abbrev H5:ae:=.box [(ci 20),(ci 0),(ci 0),(ci 0),(ci 0),(.sa 6 aj.1),(ci 0),(ci 0),eR,dO,(ci 0),(ci 0),(ci (-1)),dn]
theorem IU (hq:Sq Int) (k:Nat) (h:br (decide ((↑k:Int)<(↑param:Int))) ((WC 11 [(.c (.rt 1 0 0)),(int 2)] [eK,(aE l p),(mY ins aa fuel param),(bq ins),(bK aa),(H5 hq),(ij hq)] (nU l p) 1 (aE l ((nx l p 2).2))/\br ((nx l p 2).1==0) (nd (dU (hq.1+1) 8) (nd (hq.1.beq hq.1) (L (ah 5 26) ⟨[dw,ko,pX,(9,((int (IntKind.i64.wrap ((↑k:Int)+1))),[]))],[eK,(gy l p),(mY ins aa fuel param),(bq ins),(bK aa),(.box [(ci 20),(ci 0),(ci 0),(ci 0),(ci 0),(.sa 8 (.succ hq.1)),(ci 0),(ci 0),eR,dO,(ci 0),(ci 0),(ci (-1)),dn]),.dead,(.row 3 1 1 [(ci (↑k:Int))]),(Qa hq k)],[]⟩))) ((WC 15 vN [eK,(gy l p),(mY ins aa fuel param),(bq ins),(bK aa),(H5 hq),(ij hq),.dead,.dead,.dead] (nI l p ins) 1 (aE l ((vl l (nx l p 2).2 ins).2))/\nd (dU (hq.1+1) 8) (nd (hq.1.beq hq.1) ((WC 15 vN [eK,(gy l p),(mY ins aa fuel param),(bq ins),(bK aa),(H5 hq),(ij hq),.dead,.dead,.dead] (nI l p ins) 1 (aE l ((vl l (nx l p 2).2 ins).2))/\nd (dU (hq.1+1) 8) (nd (hq.1.beq hq.1) (L (ah 5 26) ⟨[dw,ko,pX,(9,((int (IntKind.i64.wrap ((↑k:Int)+1))),[]))],[eK,(nH l p ins),(mY ins aa fuel param),(bq ins),(bK aa),(.box [(ci 20),(ci 0),(ci 0),(ci 0),(ci 0),(.sa 9 (.succ hq.1)),(ci 0),(ci 0),eR,dO,(ci 0),(ci 0),(ci (-1)),dn]),.dead,.dead,(.row 3 1 1 [(ci ((vl l (nx l p 2).2 ins).1))]),(.arr 3 1 (hq.1+1) (kB hq.1 (λi=>bF (hq.2 i)) (1,flat 1 [I.v (Value.int IntKind.i64 (vl l (nx l p 2).2 ins).1)]).snd))],[]⟩))))))))) (L (ah 5 31) ⟨[dw,ko,pX,(9,((int (↑k:Int)),[])),(103,((bool false),[]))],[eK,(aE l p),(mY ins aa fuel param),(bq ins),(bK aa),(H5 hq),(ij hq)],[]⟩)):cW (D8 l sn sx) 5 nN L (cy QD) 26 (rv sn sx l p ins aa fuel param hq k):=km h
def AU (sn:Sq ak->ak->Sq ak) (sx:Sq ai->ai->Sq ai) (l:Sq Int) (p:Nat) (ins:Sq ak) (aa:Sq ai) (fuel:Int) (param:Nat) (x:ak):VS:=⟨[iO,mr,CE],[J5,aE l p,aU 1 3 ins.n 4 aa.n fuel param,cX ins,lB aa,.box (lift (b8 x))],[]⟩
theorem Tx (h:(LC 12 [(.c (.rt 2 0 0)),(.a (lift (b8 (x))))] (Cb l p ins aa fuel param x) (ei ins) [eK,(aE l p),(aU 1 6 ((sn ins x).1) 4 aa.1 fuel (↑param:Int)),.dead,(bK aa),(dM x),(.arr 40 14 ((sn ins x).1) (λi=>bQ ((sn ins x).2 i)))]/\QD (.a (lift (aJ ({ place:={ fn:=Int.ofNat 0,line:=Int.ofNat 0 },ins:=sn ins x,aa:=aa })))))):cW (D8 l sn sx) 5 nN L (cy QD) 31 (AU sn sx l p ins aa fuel param x):=km h
theorem Th (hI:ins.n<=1000):ag 5 0 (cw (bH (⟨⟨0,0⟩,bD ins x,aa⟩))) (ah 5 31) (AU bD cf l p ins aa fuel param x):=by
 refine bt (X:=D8 l bD cf) (stop:=nN) (Tx _ _ bD cf l p ins aa fuel param x ⟨eO (m:=1) (q:=2) (i:=3) (j:=4) _ _ hI (bf.refl _) rfl (aH rfl) rfl rfl (aH rfl),?_⟩)
 exact bf.refl _
end
section
variable (l:Sq Int) (p:Nat) (ins:Sq ak) (aa:Sq ai) (fuel:Int) (param:Nat) (x:ak)
theorem RW (hl:l.n<=maxLen) (hI:ins.n<=1000) (hP:param<=900) (o:Sq Int):∀ k,k<=param->∀ (p:Nat) (hq:Sq Int),hq.n<=k->yk l ins (param-k) k p hq=o->ag 5 0 (cw (bH (VC ⟨0,ins,aa⟩ o))) (ah 5 26) (rv bD cf l p ins aa fuel param hq k):=by
 refine bc (λk hk ih p hq hh ho=>?_) (λp hq hh ho=>?_)
 .have q:param-k=(param-(k+1))+1:=by omega
  rw [q] at ho
  refine bt (X:=D8 l bD cf) (stop:=nN) (IU _ _ bD cf l p ins aa fuel param hq k ?_)
  rw [dy hk (eA hP (by decide))]
  refine aq (λh3=>?_) (λh3=>(dec_lt h3 hk).elim)
  refine ⟨eo l _ _ hl rfl,aq (λh4=>?_) (λh4=>?_)⟩
  .have e:yk l ins (param-(k+1)+1) k p hq=yk l ins (param-(k+1)) (k+1) (nx l p 2).2 (dV hq ⟨1,λ_=>(k:Int)⟩):=by
    grind [yk]
   rw [e] at ho
   refine ay (eE (by omega) (by omega)) (ay (gu _) ?_)
   exact ag.rename [0,1,2,3,4,5,8] rfl (ag.lf (rv bD cf l (nx l p 2).2 ins aa fuel param (dV hq ⟨1,λ_=>(k:Int)⟩) (k+1)) (rc (rc (rc (rc (rc (rc (.cons (Ak hq _) .nil))))))) (ih _ _ (by show hq.n+1<=_; omega) ho))
  .have e:yk l ins (param-(k+1)+1) k p hq=yk l ins (param-(k+1)) (k+1) (vl l (nx l p 2).2 ins).2 (dV hq ⟨1,λ_=>(vl l (nx l p 2).2 ins).1⟩):=by
    grind [yk]
   rw [e] at ho
   refine ⟨fE (m:=1) (q:=2) (i:=3) (j:=4) l _ _ hl,ay (eE (by omega) (by omega)) (ay (gu _) ⟨fE (m:=1) (q:=2) (i:=3) (j:=4) l _ _ hl,ay (eE (by omega) (by omega)) (ay (gu _) ?_)⟩)⟩
   exact ag.rename [0,1,2,3,4,5,9] rfl (ag.lf (rv bD cf l (vl l (nx l p 2).2 ins).2 ins aa fuel param (dV hq ⟨1,λ_=>(vl l (nx l p 2).2 ins).1⟩) (k+1)) (rc (rc (rc (rc (rc (rc (.cons (Ak hq _) .nil))))))) (ih _ _ (by show hq.n+1<=_; omega) ho))
 .rw [Nat.sub_self] at ho
  refine bt (X:=D8 l bD cf) (stop:=nN) (IU _ _ bD cf l p ins aa fuel param hq _ ?_)
  refine aq (λh3=>cj h3) (λh3=>?_)
  have ho:hq=o:=ho
  subst ho
  exact ag.freeze 6 rfl (ag.rename [0,1,2,3,4,5] rfl (ag.lf (AU bD cf l p ins aa fuel param { cr 20 0 0 0 0 (-1) with args:=hq }) (rc (rc (rc (rc (rc (.cons (bZ.box (by repeat' (first|exact az.nil|refine az.cons ?_ ?_|exact dT.refl _|exact dT.nil _ _))) .nil)))))) (Th l p ins aa fuel param _ hI)))
theorem Q4 (hl:l.n<=maxLen) (hI:ins.n<=900) (hE:aa.n<=900) (hF:0<=fuel/\fuel<=1000) (hP:param<=900):ag 5 0 (cw (bH (tM l fuel param ⟨p,ins,aa⟩))) (ah 5 19) (CO bD cf l p ins aa fuel param x):=by
 refine bt (X:=D8 l bD cf) (stop:=nN) (TL _ _ bD cf l p ins aa fuel param x ⟨eo l _ _ hl rfl,aq (λh=>?_) (λh=>?_)⟩)
 .rw [show tM l fuel param ⟨p,ins,aa⟩=⟨⟨0,0⟩,bD ins (cr 21 0 0 0 0 (aa.n:Int)),cf aa (lv l (nx l p 6).2 ins fuel param).1⟩ from by grind [tM]]
  exact ⟨nl (m:=1) (q:=2) (i:=3) (j:=4) l _ _ _ hl,eO (m:=1) (q:=2) (i:=3) (j:=6) _ _,bf.refl _⟩
 .rw [show tM l fuel param ⟨p,ins,aa⟩=VC ⟨0,ins,aa⟩ (yk l ins param 0 (nx l p 6).2 (aK 0)) from by unfold tM; rw [show ((nx l p 6).1==0)=false from h]; rfl]
  exact ag.mj 5 5 3 1 _ rfl rfl (ag.lf (rv bD cf l (nx l p 6).2 ins aa fuel param (aK 0) 0) (rc (rc (rc (rc (rc (rc (.cons (tD 3 1 _ _) .nil))))))) (RW l ins aa fuel param hl (by omega) hP _ 0 (bn _) _ (aK 0) (bn _) rfl))
theorem Rv (steps:Nat) (hl:l.n<=maxLen) (hF:0<=fuel/\fuel<=1000) (hP:param<=900) (hS:steps<=1000) (o:af):∀ k,k<=steps->∀ (p:Nat) (ins:Sq ak) (aa:Sq ai),ins.n+4*(steps-k)<=900->aa.n+2*(steps-k)<=900->tM l fuel param (QX l fuel param (steps-k) ⟨p,ins,aa⟩)=o->ag 5 0 (cw (bH (o))) (ah 5 16) (vc bD cf l p ins aa fuel param x steps k):=by
 refine bc (λk hk ih p ins aa hI hE ho=>?_) (λp ins aa hI hE ho=>?_)
 .have q:steps-k=(steps-(k+1))+1:=by omega
  rw [q] at ho hI hE
  refine bt (X:=D8 l bD cf) (stop:=nN) (Ih _ _ bD cf l p ins aa fuel param x steps k ?_)
  rw [dy hk (eA hS (by decide))]
  refine aq (λh3=>?_) (λh3=>(dec_lt h3 hk).elim)
  refine ⟨ac2 (m:=1) (q:=2) (i:=3) (j:=4) l p ins aa fuel param hl (by omega) (by omega) hF (by omega) rfl rfl rfl rfl rfl,?_⟩
  have g:=Di l fuel param hP ⟨p,ins,aa⟩
  have g1:=g.ins
  have g2:=g.ex
  exact ag.rename [0,1,2,7,6,5] rfl (ag.lr (vc bD cf l (cE l fuel param ⟨p,ins,aa⟩).p (cE l fuel param ⟨p,ins,aa⟩).ins (cE l fuel param ⟨p,ins,aa⟩).ex fuel param x steps (k+1)) (ih _ _ _ (by grind) (by grind) ho))
 .rw [Nat.sub_self] at ho hI hE
  refine bt (X:=D8 l bD cf) (stop:=nN) (Ih _ _ bD cf l p ins aa fuel param x steps _ ?_)
  refine aq (λh3=>cj h3) (λh3=>?_)
  have ho:tM l fuel param ⟨p,ins,aa⟩=o:=ho
  subst ho
  exact ag.lr (CO bD cf l p ins aa fuel param x) (Q4 l p ins aa fuel param x hl (by omega) (by omega) hF hP)
theorem V9 (hl:l.n<=maxLen) (hI:ins.n<=800) (hE:aa.n<=800) (hP:param<=900):ag 5 0 (cw (bH (Qd l param p ins aa))) (ah 5 7) (HB bD cf l p ins aa param):=by
 obtain ⟨d,hd,eG⟩:=iu (l:=l) (p:=(lv l (nx l p 4).2 ins 0 param).2) (n:=14) (by omega) (by omega)
 have hf:=xv (l:=l) (p:=p) (n:=4) (by omega) (by omega)
 have hF:(0:Int)<=0/\(0:Int)<=1000:=by omega
 refine bt (X:=D8 l bD cf) (stop:=nN) (Xg _ _ bD cf l p ins aa param ?_)
 rw [gG (k:=1+(nx l p 4).1) (by omega) (by omega)]
 refine ⟨eo l _ _ hl rfl,nl (m:=1) (q:=2) (i:=3) (j:=4) l _ _ _ hl,eO (m:=1) (q:=2) (i:=3) (j:=6) _ _,eo l _ _ hl rfl,?_⟩
 rw [show Qd l param p ins aa=tM l (1+(nx l p 4).1) param (QX l (1+(nx l p 4).1) param d (QO l (1+(nx l p 4).1) param (nx l p 4).2 ins aa)) from by unfold Qd; rw [hd]; rfl]
 refine ag.rename [0,1,2,7,6,5] rfl (ag.le (vc bD cf l (QO l (1+(nx l p 4).1) param (nx l p 4).2 ins aa).p (QO l (1+(nx l p 4).1) param (nx l p 4).2 ins aa).ins (QO l (1+(nx l p 4).1) param (nx l p 4).2 ins aa).ex (1+(nx l p 4).1) param (cr 18 0 0 0 (1+(nx l p 4).1) (aa.n:Int)) d 0) ⟨⟨rfl,_,rfl,bf.refl _⟩,⟨rfl,_,rfl,bf.refl _⟩,⟨rfl,_,rfl,bf.refl _⟩,⟨rfl,_,rfl,by rw [hd]; exact bf.refl _⟩,⟨rfl,_,rfl,bf.refl _⟩,trivial⟩ (rc (rc (rc (rc (rc (.cons (bZ.box (by repeat' (first|exact az.nil|refine az.cons ?_ ?_|exact dT.refl _|exact dT.nil _ _))) .nil)))))) rfl (Rv l _ param _ d hl (by omega) hP (by omega) _ 0 (bn _) _ _ _ (by show ins.n+1+4*(d-0)<=900; omega) (by show aa.n+1+2*(d-0)<=900; omega) rfl))
theorem Xr (hl:l.n<=maxLen) (hE:aa.n<=800) (hP:param<=500) (o:af):∀ k,k<=param->∀ (ins:Sq ak),ins.n<=k->Qd l param p (sD (param-k) k ins) aa=o->ag 5 0 (cw (bH (o))) (ah 5 4) (A2 bD cf l p ins aa param k):=by
 refine bc (λk hk ih ins hI ho=>?_) (λins hI ho=>?_)
 .have q:param-k=(param-(k+1))+1:=by omega
  rw [q] at ho
  refine bt (X:=D8 l bD cf) (stop:=nN) (NT _ _ bD cf l p ins aa param k ?_)
  rw [dy hk (eA hP (by decide))]
  refine aq (λh3=>?_) (λh3=>(dec_lt h3 hk).elim)
  refine ⟨eO (m:=1) (q:=2) (i:=3) (j:=4) _ (pI k) (by omega) (by first|exact bf.refl _|exact jc (by repeat' (first|exact az.nil|refine az.cons ?_ ?_|exact dT.refl _|exact dT.nil _ _))) rfl (aH rfl) rfl rfl (aH rfl),?_⟩
  exact ag.rename [0,1,2,5,4] rfl (ag.lr (A2 bD cf l p (bD ins (pI k)) aa param (k+1)) (ih _ (by show ins.n+1<=_; omega) ho))
 .rw [Nat.sub_self] at ho
  refine bt (X:=D8 l bD cf) (stop:=nN) (NT _ _ bD cf l p ins aa param _ ?_)
  refine aq (λh3=>cj h3) (λh3=>?_)
  have ho:Qd l param p ins aa=o:=ho
  subst ho
  exact ag.lr (HB bD cf l p ins aa param) (V9 l p ins aa param hl (by omega) hE (by omega))
theorem ad9 (hl:l.n<=maxLen):LC 5 [iR 1 bF l] [] (bH (made l)) []:=by
 obtain ⟨d,hd,eG⟩:=iu (l:=l) (p:=0) (n:=4) (by omega) (by omega)
 refine pv (X:=D8 l bD cf) (stop:=nN) az2 (av3 _ _ bD cf l ⟨eo l 0 _ hl rfl,?_⟩)
 rw [hd,show IntKind.i64.wrap (1+(d:Int))=((1+d:Nat):Int) from by rw [show 1+(d:Int)=((1+d:Nat):Int) by omega,l4 (by omega)]]
 rw [show made l=Qd l (1+d) (nx l 0 4).2 (sD (1+d) 0 gb) o8 from by unfold made; rw [hd]; rfl]
 exact ag.mj 2 3 40 14 _ rfl rfl (ag.mj 2 4 68 3 _ rfl rfl (ag.lf (A2 bD cf l (nx l 0 4).2 gb o8 (1+d) 0) (rc (rc (rc (.cons (tD 40 14 _ _) (.cons (tD 68 3 _ _) .nil))))) (Xr l _ o8 (1+d) hl (bn _) (by omega) _ 0 (bn _) gb (bn _) rfl)))
end
open Go Go.V
theorem EC:∀ (m k p p':Nat) (ins:Sq ak) (ex:Sq ai),dc ⟨p,ins,ex⟩ ⟨p',sD m k ins,ex⟩ m 0
 | 0,k,p,p',ins,ex=>⟨bl _,bl _,λh=>h,λh=>h⟩
 | m+1,k,p,p',ins,ex=>by
   have h1:=dc.add ⟨p,ins,ex⟩ p (x:=pI k) ⟨by show (0:Int)<=_; omega,bn _,bn _,bn _⟩
   have h2:=EC m (k+1) p p' (bD ins (pI k)) ex
   exact (h1.trans h2).le (by omega) (by omega)
theorem Ea (l:Sq Int) (fuel:Int) (param:Nat) (hP:param<=900):∀ (m:Nat) (s:jL),dc s (QX l fuel param m s) (4*m) (2*m)
 | 0,s=>dc.refl s
 | m+1,s=>((Di l fuel param hP s).trans (Ea l fuel param hP m _)).le (by omega) (by omega)
theorem Jm (l:Sq Int) (ins:Sq ak):∀ (m k p:Nat) (h:Sq Int),(yk l ins m k p h).n=h.n+m
 | 0,k,p,h=>rfl
 | m+1,k,p,h=>by
   unfold yk
   cases (nx l p 2).1==0 with
   | true=>
     show (yk l ins m _ _ _).n=_
     rw [Jm]
     show h.n+1+m=_
     omega
   | false=>
     show (yk l ins m _ _ _).n=_
     rw [Jm]
     show h.n+1+m=_
     omega
structure Aj (t:af):Prop where
 ins:t.ins.n<=900
 aa:t.aa.n<=900
 gi:∀ k,k<t.ins.n->pj (t.ins.get k)
 ge:∀ k,k<t.aa.n->xC (t.aa.get k)
theorem dc.Y6 {p:Nat} {s:jL} {c d:Nat} (h:dc ⟨p,gb,o8⟩ s c d) (hc:c<=900) (hd:d<=900):Aj ⟨⟨0,0⟩,s.ins,s.ex⟩:=by
 have g1:=h.gi λk hk=>absurd hk (Nat.not_lt_zero k)
 have g2:=h.ge λk hk=>absurd hk (Nat.not_lt_zero k)
 have g3:s.ins.n<=0+c:=h.ins
 have g4:s.ex.n<=0+d:=h.ex
 exact ⟨by show s.ins.n<=_; omega,by show s.ex.n<=_; omega,g1,g2⟩
theorem z7 (l:Sq Int):Aj (made l):=by
 obtain ⟨d,hd,eG⟩:=iu (l:=l) (p:=0) (n:=4) (by omega) (by omega)
 unfold made
 rw [hd]
 show Aj (Qd l (1+d) (nx l 0 4).2 (sD (1+d) 0 gb) o8)
 have h1:=EC (1+d) 0 0 0 gb o8
 generalize (nx l 0 4).2=p
 unfold Qd
 have hf:=xv (l:=l) (p:=p) (n:=4) (by omega) (by omega)
 obtain ⟨e,he,hle⟩:=iu (l:=l) (p:=(lv l (nx l p 4).2 (sD (1+d) 0 gb) 0 (1+d)).2) (n:=14) (by omega) (by omega)
 rw [he]
 generalize hF:1+(nx l p 4).1=fuel
 have h2:dc ⟨0,sD (1+d) 0 gb,o8⟩ (QO l fuel (1+d) (nx l p 4).2 (sD (1+d) 0 gb) o8) 1 1:=
  dc.both _ _ (fz (by omega)) (rD l _ _ _ _ (by omega))
 have h3:=(h1.trans h2).trans (Ea l fuel (1+d) (by omega) e (QO l fuel (1+d) (nx l p 4).2 (sD (1+d) 0 gb) o8))
 show Aj (tM l fuel (1+d) (QX l fuel (1+d) e _))
 generalize QX l fuel (1+d) e (QO l fuel (1+d) (nx l p 4).2 (sD (1+d) 0 gb) o8)=s at h3 ⊢
 unfold tM
 cases (nx l s.p 6).1==0 with
 | true=>exact dc.Y6 (h3.trans (dc.both s 0 (fz (by omega)) (rD l _ _ _ _ (by omega)))) (by omega) (by omega)
 | false=>
   refine dc.Y6 (h3.trans (dc.add s 0 (x:={ cr 20 0 0 0 0 (-1) with args:=yk l s.ins (1+d) 0 (nx l s.p 6).2 (aK 0) }) ⟨by show (0:Int)<=_; omega,?_,bn _,bn _⟩)) (by omega) (by omega)
   grind [aK,Jm]
open Go Go.V
def fN (ins:Sq ak) (v:Int) (k:Nat):Prop:=∃ i:Nat,v=(i:Int)/\i<k/\wK (ins.get i).op=true/\((ins.get i).op==17)=false
structure Mm (ins:Sq ak) (e:ai) (k:Nat):Prop where
 f0:1<=e.frames.n
 f6:e.frames.n<=6
 back:0<=e.back
 aC:e.aC.n=0
 fr:∀ j,j<e.frames.n->0<=(e.frames.get j).fn/\0<=(e.frames.get j).line/\(e.frames.get j).vars.n<=24/\∀ i,i<(e.frames.get j).vars.n->(e.frames.get j).vars.get i = -1∨fN ins ((e.frames.get j).vars.get i) k
def RD (x:ak):Prop:=x.op=7∨x.op=16->x.n=0/\x.names=KK
theorem lT {x:ak} (h7:(x.op==7)=false) (Q8:(x.op==16)=false):RD x:=λh=>by
 rcases h with h|h
 .rw [h] at h7; cases h7
 .rw [h] at Q8; cases Q8
structure XT (ins:Sq ak) (ex:Sq ai) (P k:Nat):Prop where
 DO:k<P->(ins.get k).op=1/\(ins.get k).k.n=(k:Int)
 O6:P<=k->(ins.get k).op≠1
 LN:aY (ins.get k)=true
 use:∀ j,j<(aV (ins.get k)).n->fN ins ((aV (ins.get k)).get j) k
 once:(ins.get k).once=false
 exi:((ins.get k).exit = -1/\eX (ins.get k).op≠2)∨∃ e:Nat,(ins.get k).exit=(e:Int)/\e<ex.n/\eX (ins.get k).op≠0/\Mm ins (ex.get e) k/\∀ j,j<k->(ins.get j).exit≠(e:Int)
 UI:RD (ins.get k)
structure bO (t:af) (P:Nat):Prop where
 n200:t.ins.n<=200
 n60:t.aa.n<=60
 n0:0<t.ins.n
 fn:0<=t.place.fn
 line:0<=t.place.line
 pn:P<=t.ins.n
 all:∀ k,k<t.ins.n->XT t.ins t.aa P k
 ends:∀ k,k<t.ins.n->ib (t.ins.get k)=decide (k+1=t.ins.n)
 loop:∀ k,k<t.ins.n->(t.ins.get k).op=20->(t.ins.get k).args.n=P
section
variable {t:af} {P:Nat} {v:Int} {k:Nat}
theorem fN.mono {ins EM:Sq ak} {k':Nat} (h:fN ins v k) (hk:k<=k') (hg:∀ i,i<k->wK (ins.get i).op=true->EM.get i=ins.get i):fN EM v k':=by
 obtain ⟨i,h1,h2,h3,h4⟩:=h
 exact ⟨i,h1,by omega,by rw [hg i h2 h3]; exact h3,by rw [hg i h2 h3]; exact h4⟩
theorem Mm.mono {ins EM:Sq ak} {e:ai} {k k':Nat} (h:Mm ins e k) (hk:k<=k') (hg:∀ i,i<k->wK (ins.get i).op=true->EM.get i=ins.get i):Mm EM e k' :=
 ⟨h.f0,h.f6,h.back,h.aC,λj hj=>by
  obtain ⟨h1,h2,h3,h4⟩:=h.fr j hj
  exact ⟨h1,h2,h3,λi hi=>(h4 i hi).imp id λq=>q.mono hk hg⟩⟩
theorem fN.val (h:fN t.ins v k):eW t v k=true/\((t.ins.get v.toNat).op==17)=false:=by
 obtain ⟨i,rfl,h2,h3,h4⟩:=h
 refine ⟨?_,h4⟩
 unfold eW
 rw [show wK (t.ins.get ((i:Int)).toNat).op=true from h3,Bool.and_true,di]
 exact ⟨decide_eq_true (by omega),decide_eq_true (by omega)⟩
theorem XP (h:bO t P):mM t.ins=P:=by
 have h1:=Dq (p:=λi=>JA (t.ins.get i)) (m:=t.ins.n) (k:=0)
 have h2:=vZ (p:=λi=>JA (t.ins.get i)) (m:=t.ins.n) (k:=0)
 unfold mM
 generalize hZ (λi=>JA (t.ins.get i)) t.ins.n 0=q at h1 h2
 have hpn:=h.pn
 by_cases hq:q<P
 .have h3:=h2.2 (by omega)
  have h4:=((h.all q (by omega)).DO hq).1
  rw [O3,h4] at h3
  exact absurd h3 (by decide)
 .by_cases hq2:P<q
  .have h3:=h2.1 P (bn _) hq2
   rw [O3] at h3
   have h4:=(h.all P (by omega)).O6 (bl _)
   exact absurd (by simpa using h3) h4
  .omega
theorem Mm.ok {e:ai} (h:Mm t.ins e k):Db t e k=true:=by
 have hf:=h.f0
 have hf6:=h.f6
 have hb:=h.back
 unfold Db x12
 rw [h.aC]
 have e1:dB (λj=>LA (e.frames.get j)) e.frames.n=true:=e7.2 λj hj=>by
  obtain ⟨h1,h2,h3,_⟩:=h.fr j hj
  unfold LA
  rw [decide_eq_false (by omega),decide_eq_false (by omega),decide_eq_false (by omega)]
  rfl
 have e2:x21 t e k (BK (λj=>(e.frames.get j).vars) e.frames.n 0 (aK 0))=true:=by
  unfold x21
  rw [sg]
  rw [di]
  refine ⟨rfl,s7.2 λj _ hj=>e7.2 λi hi=>?_⟩
  obtain ⟨_,_,_,h4⟩:=h.fr j (by omega)
  rcases h4 i hi with q|q
  .unfold Vn
   rw [q]; rfl
  .obtain ⟨q1,q2⟩:=q.val
   unfold Vn
   rw [q1,q2,Bool.false_and,Bool.or_false]
   simp
 rw [e1,decide_eq_false (by omega),decide_eq_false (by omega),decide_eq_false (by omega)]
 exact e2
theorem xD {a b:Bool} (h:a=true->b=false):(!(a&&b))=true:=by
 cases a with
 | false=>rfl
 | true=>rw [h rfl]; rfl
theorem bO.VE (h:bO t P) (hk:k<t.ins.n):qj t k=true:=by
 have hi:=h.all k hk
 have hp:=XP h
 have e6:a6 t k=true:=by
  unfold a6
  rw [hi.LN,h.ends k hk,hp,Bool.and_true,di]
  constructor
  .have:decide (k+1=t.ins.n)=((k:Int)==(t.ins.n:Int)-1):=by
    rw [Es,decide_eq_true_eq,beq_iff_eq]
    omega
   rw [this,bne_self_eq_false]; rfl
  .refine xD λq=>decide_eq_false λq2=>?_
   exact hi.O6 (by omega) (eq_of_beq q)
 have e12:a12 t k=true:=by
  unfold a12
  rw [di]
  constructor
  .refine xD λq=>?_
   have hP:k<P:=by
    by_cases hc:k<P
    .exact hc
    .exact absurd (eq_of_beq q) (hi.O6 (by omega))
   by_cases h0:0<k
   .have h1:=((h.all k hk).DO hP).2
    have h2:=((h.all (k-1) (by omega)).DO (by omega)).2
    rw [h1,h2,Bool.and_eq_false_iff]
    right
    exact decide_eq_false (by omega)
   .rw [Bool.and_eq_false_iff]
    left
    exact decide_eq_false (by omega)
  .refine xD λq=>?_
   rw [h.loop k hk (eq_of_beq q),hp,bne_self_eq_false]
 have e16:LI t k=true:=by
  unfold LI
  refine e7.2 λj hj=>?_
  obtain ⟨q1,q2⟩:=(hi.use j hj).val
  unfold u16
  rw [q1,q2]; rfl
 have e20:a20 t k=true/\a22 t k=true:=by
  unfold a20 a22
  rw [hi.once,Bool.false_and]
  rcases hi.exi with ⟨q1,q2⟩|⟨e,q1,q2,q3,q4,q5⟩
  .rw [q1,show decide ((-1:Int) < -1)=false from rfl,show decide ((-1:Int)≥(t.aa.n:Int))=false from decide_eq_false (by omega),show decide ((-1:Int)≥0)=false from rfl,show (eX (t.ins.get k).op==2)=false from by simpa using q2]
   exact ⟨rfl,rfl⟩
  .rw [q1,decide_eq_false (by omega),show decide ((e:Int)≥(t.aa.n:Int))=false from decide_eq_false (by omega),show (eX (t.ins.get k).op==0)=false from by simpa using q3,show decide ((e:Int)<0)=false from decide_eq_false (by omega),Int.toNat_natCast,q4.ok]
   refine ⟨by simp,?_⟩
   have:k8 t k e=false:=by
    unfold k8
    rw [e7.2 λj hj=>?_]; rfl
    have:=q5 j hj
    simpa using this
   rw [this]; simp
 unfold qj
 rw [e6,e12,e16,e20.1,e20.2]; rfl
theorem bO.right (h:bO t P):ot t=0:=by
 have h1:=h.n200
 have h2:=h.n60
 have h3:=h.n0
 have h4:=h.fn
 have h5:=h.line
 unfold ot ID
 rw [decide_eq_false (by omega),decide_eq_false (by omega),e7.2 λk hk=>h.VE hk,decide_eq_false (by omega),decide_eq_false (by omega),show ((t.ins.n:Int)==0)=false from beq_false_of_ne (by omega)]
 rfl
end
open Go Go.V
structure dC (P c:Nat) (s:jL):Prop where
 p1:1<=P
 p4:P<=4
 pn:P<=s.ins.n
 ni:s.ins.n<=c
 ne:s.ex.n<=c
 all:∀ k,k<s.ins.n->XT s.ins s.ex P k
 YB:∀ k,k<s.ins.n->((s.ins.get k).op==17)=false/\ib (s.ins.get k)=false
 ext:∀ k,k<s.ins.n->(s.ins.get k).exit<(s.ex.n:Int)
theorem nL {α:Type} {s:Sq α} {x:α} {k:Nat} (h:k<s.n):(dV s ⟨1,λ_=>x⟩).get k=s.get k:=by
 show (Bool.rec x (s.get k) (Nat.blt k s.n):α)=_
 rw [da h]
theorem mE {α:Type} {s:Sq α} {x:α}:(dV s ⟨1,λ_=>x⟩).get s.n=x:=by
 show (Bool.rec x (s.get s.n) (Nat.blt s.n s.n):α)=_
 rw [show Nat.blt s.n s.n=false from by
  cases hb:Nat.blt s.n s.n with
  | false=>rfl
  | true=>simp at hb]
theorem XT.mono {ins EM:Sq ak} {ex ex':Sq ai} {P k:Nat} (h:XT ins ex P k) (hg:∀ i,i<=k->EM.get i=ins.get i) (hn:ex.n<=ex'.n) (he:∀ e,e<ex.n->ex'.get e=ex.get e):XT EM ex' P k:=by
 have e:=hg k (bl _)
 refine ⟨by rw [e]; exact h.DO,by rw [e]; exact h.O6,by rw [e]; exact h.LN,?_,by rw [e]; exact h.once,?_,by rw [e]; exact h.UI⟩
 .rw [e]
  exact λj hj=>(h.use j hj).mono (bl _) λi hi _=>hg i (by omega)
 .rw [e]
  refine h.exi.imp id ?_
  rintro ⟨e,q1,q2,q3,q4,q5⟩
  exact ⟨e,q1,by omega,q3,by rw [he e q2]; exact q4.mono (bl _) λi hi _=>hg i (by omega),λj hj=>by rw [hg j (by omega)]; exact q5 j hj⟩
structure yx (ins:Sq ak) (x:ak):Prop where
 op1:x.op≠1
 ao8:(x.op==17)=false
 ends:ib x=false
 LN:aY x=true
 use:∀ j,j<(aV x).n->fN ins ((aV x).get j) ins.n
 once:x.once=false
 UI:RD x
section
variable {P c:Nat} {s:jL} {x:ak} {ex:Sq ai}
theorem dC.iok (h:dC P c s) (x1:x.op≠1) (x2:aY x=true) (x3:∀ j,j<(aV x).n->fN s.ins ((aV x).get j) s.ins.n) (x4:x.once=false) (x6:RD x) (Rz:s.ex.n<=ex.n) (VB:∀ e,e<s.ex.n->ex.get e=s.ex.get e) (he:(x.exit = -1/\eX x.op≠2)∨∃ e:Nat,x.exit=(e:Int)/\e<ex.n/\eX x.op≠0/\Mm s.ins (ex.get e) s.ins.n/\∀ j,j<s.ins.n->(s.ins.get j).exit≠(e:Int)):∀ k,k<s.ins.n+1->XT (bD s.ins x) ex P k:=by
 have lt:∀ {i:Nat},i<s.ins.n->(bD s.ins x).get i=s.ins.get i:=λhi=>nL hi
 have zr:(bD s.ins x).get s.ins.n=x:=mE
 intro k hk
 by_cases hq:k<s.ins.n
 .exact (h.all k hq).mono (λi hi=>lt (by omega)) Rz VB
 .have e:k=s.ins.n:=by omega
  subst e
  have hpn:=h.pn
  refine ⟨λq=>absurd hpn (by omega),λ_=>?_,?_,?_,?_,?_,by rw [zr]; exact x6⟩
  .rw [zr]; exact x1
  .rw [zr]; exact x2
  .rw [zr]
   exact λj hj=>(x3 j hj).mono (bl _) λi hi _=>lt hi
  .rw [zr]; exact x4
  .rw [zr]
   refine he.imp id ?_
   rintro ⟨e,q1,q2,q3,q4,q5⟩
   exact ⟨e,q1,q2,q3,q4.mono (bl _) λi hi _=>lt hi,λj hj=>by rw [lt hj]; exact q5 j hj⟩
theorem dC.grow (h:dC P c s) (p:Nat) (hx:yx s.ins x) (Rz:s.ex.n<=ex.n) (hec:ex.n<=c+1) (VB:∀ e,e<s.ex.n->ex.get e=s.ex.get e) (he:(x.exit = -1/\eX x.op≠2)∨∃ e:Nat,x.exit=(e:Int)/\e<ex.n/\eX x.op≠0/\Mm s.ins (ex.get e) s.ins.n/\∀ j,j<s.ins.n->(s.ins.get j).exit≠(e:Int)):dC P (c+1) ⟨p,bD s.ins x,ex⟩:=by
 have hni:=h.ni
 have lt:∀ {i:Nat},i<s.ins.n->(bD s.ins x).get i=s.ins.get i:=λhi=>nL hi
 have zr:(bD s.ins x).get s.ins.n=x:=mE
 refine ⟨h.p1,h.p4,Nat.le_succ_of_le h.pn,Nat.succ_le_succ hni,hec,h.iok hx.op1 hx.LN hx.use hx.once hx.UI Rz VB he,λk hk=>?_,λk hk=>?_⟩
 .have hk:k<s.ins.n+1:=hk
  show (((bD s.ins x).get k).op==17)=false/\ib ((bD s.ins x).get k)=false
  by_cases hq:k<s.ins.n
  .rw [lt hq]; exact h.YB k hq
  .rw [show k=s.ins.n by omega,zr]; exact ⟨hx.ao8,hx.ends⟩
 .have hk:k<s.ins.n+1:=hk
  show ((bD s.ins x).get k).exit<(ex.n:Int)
  by_cases hq:k<s.ins.n
  .rw [lt hq]
   have:=h.ext k hq
   omega
  .rw [show k=s.ins.n by omega,zr]
   rcases he with ⟨q,_⟩|⟨e,q,q2,_⟩
   .rw [q]; omega
   .rw [q]; omega
theorem dC.add (h:dC P c s) (p:Nat) (hx:yx s.ins x) (h1:x.exit = -1) (h2:eX x.op≠2):dC P (c+1) ⟨p,bD s.ins x,s.ex⟩:=
 h.grow p hx (bl _) (Nat.le_succ_of_le h.ne) (λ_ _=>rfl) (.inl ⟨h1,h2⟩)
theorem dC.both (h:dC P c s) {e:ai} (p:Nat) (hx:yx s.ins x) (h1:x.exit=(s.ex.n:Int)) (h2:eX x.op≠0) (h3:Mm s.ins e s.ins.n):dC P (c+1) ⟨p,bD s.ins x,cf s.ex e⟩:=
 h.grow p hx (Nat.le_succ _) (Nat.succ_le_succ h.ne) (λe he=>nL he) (.inr ⟨s.ex.n,h1,Nat.lt_succ_self _,h2,by rw [show (cf s.ex e).get s.ex.n=e from mE]; exact h3,λj hj=>by have:=h.ext j hj; omega⟩)
theorem dC.le {c':Nat} (h:dC P c s) (hc:c<=c'):dC P c' s:=⟨h.p1,h.p4,h.pn,eA h.ni hc,eA h.ne hc,h.all,h.YB,h.ext⟩
theorem dC.at (h:dC P c s) (p:Nat):dC P c ⟨p,s.ins,s.ex⟩:=⟨h.p1,h.p4,h.pn,h.ni,h.ne,h.all,h.YB,h.ext⟩
def IsV (ins:Sq ak) (v:Int):Prop:=∃ i:Nat,v=(i:Int)/\i<ins.n/\wK (ins.get i).op=true
theorem B1 (ins:Sq ak):∀ (m k:Nat) (h:Sq Int),k+m<=ins.n->(∀ i,i<h.n->IsV ins (h.get i))->(∀ i,i<(l8 ins m k h).n->IsV ins ((l8 ins m k h).get i))/\h.n<=(l8 ins m k h).n/\(l8 ins m k h).n<=h.n+m/\(0<m->wK (ins.get k).op=true->0<(l8 ins m k h).n)
 | 0,k,h,_,hh=>⟨hh,bl _,bl _,λq=>absurd q (Nat.lt_irrefl 0)⟩
 | m+1,k,h,hk,hh=>by
   unfold l8
   cases hb:wK (ins.get k).op with
   | false=>
     obtain ⟨h1,h2,h3,_⟩:=B1 ins m (k+1) h (by omega) hh
     exact ⟨h1,h2,by simp only [cond_false]; omega,λ_ q=>by cases q⟩
   | true=>
     obtain ⟨h1,h2,h3,_⟩:=B1 ins m (k+1) (dV h ⟨1,λ_=>(k:Int)⟩) (by omega) (jb hh ⟨k,rfl,by omega,hb⟩)
     have h2:h.n+1<=_:=h2
     have h3:_<=h.n+1+m:=h3
     exact ⟨h1,by simp only [cond_true]; omega,by simp only [cond_true]; omega,λ_ _=>by simp only [cond_true]; omega⟩
theorem dC.par (h:dC P c s) {i:Nat} (hi:i<P):fN s.ins (i:Int) s.ins.n:=by
 have hpn:=h.pn
 have:=((h.all i (by omega)).DO hi).1
 exact ⟨i,rfl,by omega,by rw [this]; rfl,by rw [this]; rfl⟩
theorem dC.CN (h:dC P c s) (hc:c<=900) (l:Sq Int) (p:Nat):fN s.ins (vl l p s.ins).1 s.ins.n:=by
 have hpn:=h.pn
 have hp1:=h.p1
 have hni:=h.ni
 obtain ⟨h1,_,h3,h4⟩:=B1 s.ins s.ins.n 0 (aK 0) (by omega) (λi hi=>absurd hi (Nat.not_lt_zero i))
 have h4:=h4 (by omega) (by rw [((h.all 0 (by omega)).DO (by omega)).1]; rfl)
 have h3:(l8 s.ins s.ins.n 0 (aK 0)).n<=0+s.ins.n:=h3
 have key:∀ i,i<(l8 s.ins s.ins.n 0 (aK 0)).n->fN s.ins ((l8 s.ins s.ins.n 0 (aK 0)).get i) s.ins.n:=λi hi=>by
  obtain ⟨j,q1,q2,q3⟩:=h1 i hi
  exact ⟨j,q1,q2,q3,(h.YB j q2).1⟩
 unfold vl QR
 generalize l8 s.ins s.ins.n 0 (aK 0)=q at h3 h4 key
 rw [show ((q.n:Int)==0)=false from beq_false_of_ne (by omega),cond_false]
 unfold T2
 cases (nx l p 2).1==0 with
 | true=>
   show fN s.ins (q.get _) _
   exact key _ (by omega)
 | false=>
   show fN s.ins (q.get _) _
   obtain ⟨d,hd,eG⟩:=iu (l:=l) (p:=(nx l p 2).2) (n:=(q.n:Int)) (by omega) (by omega)
   refine key _ ?_
   rw [hd,Int.toNat_natCast]
   omega
theorem Oz (l:Sq Int) (ins:Sq ak) (hv:∀ p,fN ins (vl l p ins).1 ins.n):∀ (m p:Nat) (h:Sq Int),(∀ i,i<h.n->fN ins (h.get i) ins.n)->∀ i,i<(LB l ins m p h).1.n->fN ins ((LB l ins m p h).1.get i) ins.n
 | 0,_,_,hh=>hh
 | m+1,p,h,hh=>Oz l ins hv m _ _ (jb (P:=λv=>fN ins v ins.n) hh (hv p))
theorem dC.lvE (h:dC P c s) (hc:c<=900) (l:Sq Int) (p:Nat) (fuel:Int) (hf:0<=fuel/\fuel<=4):Mm s.ins (lv l p s.ins fuel P).1 s.ins.n:=by
 have hp4:=h.p4
 have hv:=Oz l s.ins (h.CN hc l) P p (aK 0) λi hi=>absurd hi (Nat.not_lt_zero i)
 have hn:=Pr l s.ins P p (aK 0)
 have hn:(LB l s.ins P p (aK 0)).1.n=0+P:=hn
 unfold lv UC QV
 generalize LB l s.ins P p (aK 0)=v at hv hn
 have hb:=(xv (l:=l) (p:=v.2) (n:=fuel+1) (by omega) (by omega)).1
 generalize nx l v.2 (fuel+1)=b at hb
 have f1:0<=(⟨0,0,v.1⟩:cA).fn/\0<=(⟨0,0,v.1⟩:cA).line/\(⟨0,0,v.1⟩:cA).vars.n<=24/\∀ i,i<(⟨0,0,v.1⟩:cA).vars.n->(⟨0,0,v.1⟩:cA).vars.get i = -1∨fN s.ins ((⟨0,0,v.1⟩:cA).vars.get i) s.ins.n:=
  ⟨Int.le_refl _,Int.le_refl _,by show v.1.n<=24; omega,λi hi=>.inr (hv i hi)⟩
 cases (nx l b.2 5).1==0 with
 | false=>exact ⟨bl _,(by show 1<=6; omega),hb,rfl,λj _=>f1⟩
 | true=>
   refine ⟨by show 1<=2; omega,(by show 2<=6; omega),hb,rfl,λj hj=>?_⟩
   have hj:j<2:=hj
   have hw:=h.CN hc l (nx l b.2 5).2
   match j,hj with
   | 0,_=>exact f1
   | 1,_=>
     refine ⟨(by show (0:Int)<=1; omega),(by show (0:Int)<=2; omega),(by show 2<=24; omega),λi hi=>?_⟩
     have hi:i<2:=hi
     match i,hi with
     | 0,_=>exact .inl rfl
     | 1,_=>exact .inr hw
end
open Go Go.V
section
variable {ins:Sq ak} {a:Int} {x:ak} {b n e:Int}
theorem e8 (hn:x.n<=9223372036854775807) (h3:oQ x=true) (hr:(nB x&&(mn x&&(mm x&&(eP x&&eQ x))))=true):aY x=true:=by
 rw [jo x hn]
 unfold a8
 rw [h3]
 exact hr
theorem e9 (ho:0<=x.op/\x.op<=21) (hl:fP x.op=(a,b)) (h:a<=x.n/\x.n<=b):oQ x=true:=by
 unfold oQ
 rw [hl,decide_eq_false (by omega),decide_eq_false (by omega),decide_eq_false (by show ¬ x.n<a; omega),decide_eq_false (by show ¬ x.n>b; omega)]
 rfl
theorem fN.up {v:Int} (h:fN ins v ins.n):fN (bD ins x) v (bD ins x).n:=h.mono (Nat.le_succ _) λi hi _=>nL hi
theorem fN.last (h:wK x.op=true) (h2:(x.op==17)=false):fN (bD ins x) (ins.n:Int) (bD ins x).n:=
 ⟨ins.n,rfl,Nat.lt_succ_self _,by rw [show (bD ins x).get ins.n=x from mE]; exact h,by rw [show (bD ins x).get ins.n=x from mE]; exact h2⟩
theorem Z3 (ha:fN ins a ins.n) (hn:3<=n/\n<=4):yx ins (cr 3 a 0 0 n e):=
 ⟨by show (3:Int)≠1; decide,rfl,rfl,e8 (by show n<=_; omega) (e9 (by show (0:Int)<=3/\(3:Int)<=21; decide) rfl hn) (rfl),λj hj=>by
  have hj:j<1:=hj
  match j,hj with
  | 0,_=>exact ha,rfl,lT rfl rfl⟩
theorem U6 (ha:fN ins a ins.n) (hb:fN ins b ins.n) (hn:5<=n/\n<=14):yx ins (cr 4 a b 0 n e):=
 ⟨by show (4:Int)≠1; decide,rfl,rfl,e8 (by show n<=_; omega) (e9 (by show (0:Int)<=4/\(4:Int)<=21; decide) rfl hn) (rfl),λj hj=>by
  have hj:j<2:=hj
  match j,hj with
  | 0,_=>exact ha
  | 1,_=>exact hb,rfl,lT rfl rfl⟩
theorem aa7 (ha:fN ins a ins.n) (hn:0<=n/\n<=1):yx ins (cr 5 a 0 0 n e):=
 ⟨by show (5:Int)≠1; decide,rfl,rfl,e8 (by show n<=_; omega) (e9 (by show (0:Int)<=5/\(5:Int)<=21; decide) rfl hn) (rfl),λj hj=>by
  have hj:j<1:=hj
  match j,hj with
  | 0,_=>exact ha,rfl,lT rfl rfl⟩
theorem ag1 (ha:fN ins a ins.n) (hn:1<=n/\n<=6):yx ins (cr 6 a 0 0 n e):=
 ⟨by show (6:Int)≠1; decide,rfl,rfl,e8 (by show n<=_; omega) (e9 (by show (0:Int)<=6/\(6:Int)<=21; decide) rfl hn) (rfl),λj hj=>by
  have hj:j<1:=hj
  match j,hj with
  | 0,_=>exact ha,rfl,lT rfl rfl⟩
theorem ah8 (ha:fN ins a ins.n)  : yx ins (cr 8 a 0 0 0 e):=
 ⟨by show (8:Int)≠1; decide,rfl,rfl,e8 (by show (0:Int)<=_; omega) (e9 (by show (0:Int)<=8/\(8:Int)<=21; decide) rfl ⟨by show (0:Int)<=0; omega,by show (0:Int)<=_; omega⟩) (rfl),λj hj=>by
  have hj:j<1:=hj
  match j,hj with
  | 0,_=>exact ha,rfl,lT rfl rfl⟩
theorem ah3 (ha:fN ins a ins.n) (hb:fN ins b ins.n)  : yx ins (cr 9 a b 0 0 e):=
 ⟨by show (9:Int)≠1; decide,rfl,rfl,e8 (by show (0:Int)<=_; omega) (e9 (by show (0:Int)<=9/\(9:Int)<=21; decide) rfl ⟨by show (0:Int)<=0; omega,by show (0:Int)<=_; omega⟩) (rfl),λj hj=>by
  have hj:j<2:=hj
  match j,hj with
  | 0,_=>exact ha
  | 1,_=>exact hb,rfl,lT rfl rfl⟩
theorem VD (ha:fN ins a ins.n) (hn:0<=n/\n<=63):yx ins (cr 10 a 0 0 n e):=
 ⟨by show (10:Int)≠1; decide,rfl,rfl,e8 (by show n<=_; omega) (e9 (by show (0:Int)<=10/\(10:Int)<=21; decide) rfl hn) (rfl),λj hj=>by
  have hj:j<1:=hj
  match j,hj with
  | 0,_=>exact ha,rfl,lT rfl rfl⟩
theorem Mp (ha:fN ins a ins.n) (hb:fN ins b ins.n) (hn:0<=n/\n<=63):yx ins (cr 11 a b 0 n e):=
 ⟨by show (11:Int)≠1; decide,rfl,rfl,e8 (by show n<=_; omega) (e9 (by show (0:Int)<=11/\(11:Int)<=21; decide) rfl hn) (rfl),λj hj=>by
  have hj:j<2:=hj
  match j,hj with
  | 0,_=>exact ha
  | 1,_=>exact hb,rfl,lT rfl rfl⟩
theorem Xt (ha:fN ins a ins.n) (hb:fN ins b ins.n)  : yx ins (cr 12 a b 0 0 e):=
 ⟨by show (12:Int)≠1; decide,rfl,rfl,e8 (by show (0:Int)<=_; omega) (e9 (by show (0:Int)<=12/\(12:Int)<=21; decide) rfl ⟨by show (0:Int)<=0; omega,by show (0:Int)<=_; omega⟩) (rfl),λj hj=>by
  have hj:j<2:=hj
  match j,hj with
  | 0,_=>exact ha
  | 1,_=>exact hb,rfl,lT rfl rfl⟩
theorem Wn {c:Int} (ha:fN ins a ins.n) (hb:fN ins b ins.n) (hc:fN ins c ins.n)  : yx ins (cr 13 a b c 0 e):=
 ⟨by show (13:Int)≠1; decide,rfl,rfl,e8 (by show (0:Int)<=_; omega) (e9 (by show (0:Int)<=13/\(13:Int)<=21; decide) rfl ⟨by show (0:Int)<=0; omega,by show (0:Int)<=_; omega⟩) (rfl),λj hj=>by
  have hj:j<3:=hj
  match j,hj with
  | 0,_=>exact ha
  | 1,_=>exact hb
  | 2,_=>exact hc,rfl,lT rfl rfl⟩
theorem Xi (ha:fN ins a ins.n)  : yx ins (cr 14 a 0 0 0 e):=
 ⟨by show (14:Int)≠1; decide,rfl,rfl,e8 (by show (0:Int)<=_; omega) (e9 (by show (0:Int)<=14/\(14:Int)<=21; decide) rfl ⟨by show (0:Int)<=0; omega,by show (0:Int)<=_; omega⟩) (rfl),λj hj=>by
  have hj:j<1:=hj
  match j,hj with
  | 0,_=>exact ha,rfl,lT rfl rfl⟩
theorem WS (hn:0<=n/\n<=600):yx ins (cr 15 0 0 0 n e):=
 ⟨by show (15:Int)≠1; decide,rfl,rfl,e8 (by show n<=_; omega) (e9 (by show (0:Int)<=15/\(15:Int)<=21; decide) rfl hn) (rfl),λj hj=>absurd hj (Nat.not_lt_zero j),rfl,lT rfl rfl⟩
theorem X9 (hn:1<=n/\n<=200):yx ins (cr 18 0 0 0 n e):=
 ⟨by show (18:Int)≠1; decide,rfl,rfl,e8 (by show n<=_; omega) (e9 (by show (0:Int)<=18/\(18:Int)<=21; decide) rfl hn) (rfl),λj hj=>absurd hj (Nat.not_lt_zero j),rfl,lT rfl rfl⟩
theorem ai2 (ha:fN ins a ins.n)  : yx ins (uC a e):=
 ⟨by show (7:Int)≠1; decide,rfl,rfl,e8 (by show (0:Int)<=_; omega) (e9 (by show (0:Int)<=7/\(7:Int)<=21; decide) rfl ⟨by show (0:Int)<=0; omega,by show (0:Int)<=_; omega⟩) (by kernel_rfl),λj hj=>by
  have hj:j<1:=hj
  match j,hj with
  | 0,_=>exact ha,rfl,λ_=>⟨rfl,rfl⟩⟩
theorem X4    : yx ins ({ cr 16 0 0 0 0 e with names:=KK }):=
 ⟨by show (16:Int)≠1; decide,rfl,rfl,e8 (by show (0:Int)<=_; omega) (e9 (by show (0:Int)<=16/\(16:Int)<=21; decide) rfl ⟨by show (0:Int)<=0; omega,by show (0:Int)<=_; omega⟩) (by kernel_rfl),λj hj=>absurd hj (Nat.not_lt_zero j),rfl,λ_=>⟨rfl,rfl⟩⟩
theorem Wy {q:Int} (hq:0<=q) (ha:fN ins a ins.n)  : yx ins ({ cr 19 a 0 0 0 e with place:=⟨0,q⟩ }):=
 ⟨by show (19:Int)≠1; decide,rfl,rfl,e8 (by show (0:Int)<=_; omega) (e9 (by show (0:Int)<=19/\(19:Int)<=21; decide) rfl ⟨by show (0:Int)<=0; omega,by show (0:Int)<=_; omega⟩) (by unfold eP; rw [show decide ((ak.place { cr 19 a 0 0 0 e with place:=⟨0,q⟩ }).line<0)=false from decide_eq_false (by show ¬ q<0; omega)]; rfl),λj hj=>by
  have hj:j<1:=hj
  match j,hj with
  | 0,_=>exact ha,rfl,lT rfl rfl⟩
theorem ZT {v:iG} (hk:fA v=true)   : yx ins ({ cr 2 0 0 0 0 e with k:=v }):=
 ⟨by show (2:Int)≠1; decide,rfl,rfl,e8 (by show (0:Int)<=_; omega) (e9 (by show (0:Int)<=2/\(2:Int)<=21; decide) rfl ⟨by show (0:Int)<=0; omega,by show (0:Int)<=_; omega⟩) (by unfold mn; rw [show fA (ak.k { cr 2 0 0 0 0 e with k:=v })=true from hk]; rfl),λj hj=>absurd hj (Nat.not_lt_zero j),rfl,lT rfl rfl⟩
theorem dC.DF {P c:Nat} {s:jL} (h:dC P c s) (hc:c<=900) (l:Sq Int) {fuel:Int} (hf:0<=fuel/\fuel<=4) (p:Nat) (hx:yx s.ins { x with exit:=(s.ex.n:Int) }) (h2:eX x.op≠0):dC P (c+1) (QQ l fuel P x p s):=
 h.both _ hx rfl h2 (h.lvE hc l p fuel hf)
end
section
variable {P c:Nat} {s:jL} {l:Sq Int} {fuel:Int}
theorem RX {p:Nat} {n:Int} (h1:1<=n) (h2:n<=900):0<=(nx l p n).1/\(nx l p n).1<n:=xv h1 (by omega)
theorem dC.prm (h:dC P c s) (p:Nat):fN s.ins (nx l p (P:Int)).1 s.ins.n:=by
 have h1:=h.p1
 have h4:=h.p4
 obtain ⟨d,hd,eG⟩:=iu (l:=l) (p:=p) (n:=(P:Int)) (by omega) (by omega)
 rw [hd]
 exact h.par (by omega)
section
variable {v:Int} {x:ak}
theorem dC.aa2 (h:dC P c s) (hv:fN s.ins v s.ins.n):dC P (c+1) (YH l v s):=by
 have hn:=RX (l:=l) (p:=s.p) (n:=2) (by omega) (by omega)
 exact h.add _ (VD hv (by omega)) rfl (by decide:eX (10:Int)≠2)
theorem dC.am9 (h:dC P c s) (hv:fN s.ins v s.ins.n):dC P (c+2) (k34 l P v s):=by
 have hn:=RX (l:=l) (p:=(nx l s.p (P:Int)).2) (n:=2) (by omega) (by omega)
 exact dC.aa2 (h.add _ (Mp hv (h.prm _) (by omega)) rfl (by decide:eX (11:Int)≠2)) hv.up
theorem dC.ay8 (h:dC P c s):dC P (c+3) (k33 l P s):=
 dC.am9 (h.add s.p X4 rfl (by decide:eX (16:Int)≠2)) (fN.last rfl rfl)
theorem dC.aw5 (h:dC P c s) (hc:c<=900) (hv:fN s.ins v s.ins.n):dC P (c+1) (k27 l v s):=by
 have hn:=RX (l:=l) (p:=(vl l s.p s.ins).2) (n:=2) (by omega) (by omega)
 exact h.add _ (Mp hv (h.CN hc l _) (by omega)) rfl (by decide:eX (11:Int)≠2)
theorem dC.an4 (h:dC P c s) (hc:c<=900) (ha:fN s.ins x.a s.ins.n) (hb:fN s.ins x.b s.ins.n):dC P (c+1) (U5 l x s):=by
 unfold U5
 cases (nx l s.p 2).1==0 with
 | true=>exact h.add _ (Xt ha hb) rfl (by decide:eX (12:Int)≠2)
 | false=>exact h.add _ (Wn ha hb (h.CN hc l _)) rfl (by decide:eX (13:Int)≠2)
theorem dC.ap4 (h:dC P c s) (ha:fN s.ins x.a s.ins.n):dC P (c+1) (k47 x s):=h.add _ (Xi ha) rfl (by decide:eX (14:Int)≠2)
theorem dC.ay5 (h:dC P c s) (ha:fN s.ins x.a s.ins.n):dC P (c+1) (k52 l x s):=
 h.add _ (Wy (RX (by omega) (by omega)).1 ha) rfl (by decide:eX (19:Int)≠2)
end
variable (hf:0<=fuel/\fuel<=4)
include hf
theorem dC.at2 (h:dC P c s) (hc:c<=900) {v:Int} (hv:fN s.ins v s.ins.n):dC P (c+1) (k18 l fuel P v s):=by
 have hn:=RX (l:=l) (p:=s.p) (n:=2) (by omega) (by omega)
 exact h.DF hc l hf _ (aa7 hv (by show 0<=(nx l s.p 2).1/\(nx l s.p 2).1<=1; omega)) (by decide:eX (5:Int)≠0)
omit hf
theorem TJ (d:Nat) {n:Int} (hn:0<=n/\n<=6):fA (S9 d n)=true:=by
 unfold S9
 cases Nat.beq d 0 with
 | true=>
   have e:IntKind.i64.wrap (n-2)=n-2:=by
    have e1:(2 ^ IntKind.i64.bits:Int)=18446744073709551616:=by rfl
    have e2:(2 ^ (IntKind.i64.bits-1):Int)=9223372036854775808:=by rfl
    have e4:IntKind.i64.signed=true:=rfl
    unfold IntKind.wrap
    simp only [e1,e2,e4]
    split
    .rename_i h
     simp only [Bool.true_and,decide_eq_true_eq] at h
     omega
    .rename_i h
     simp only [Bool.true_and,decide_eq_true_eq] at h
     omega
   show fA ⟨3,IntKind.i64.wrap (n-2),⟨⟨[]⟩⟩⟩=true
   rw [e]
   unfold fA mz eY Dj
   simp
   omega
 | false=>cases Nat.beq d 1 with
   | true=>
     show fA ⟨1,0,⟨⟨[]⟩⟩⟩=true
     unfold fA mz eY Dj
     simp
   | false=>cases Nat.beq d 2 with
     | true=>
       show fA ⟨2,1,⟨⟨[]⟩⟩⟩=true
       unfold fA mz eY Dj
       simp
     | false=>
       show fA ⟨4,0,⟨⟨[115]⟩⟩⟩=true
       unfold fA mz eY
       simp
       exact ⟨by decide,Kj λi hi h=>by
        have hi:i<1:=hi
        have:i=0:=by omega
        subst this
        exact (by decide:32<=(115:UInt8).toNat/\(115:UInt8).toNat<=126)⟩
theorem dC.ok3 (h:dC P c s):dC P (c+1) (k3 l s):=by
 have hn:=RX (l:=l) (p:=s.p) (n:=7) (by omega) (by omega)
 exact h.add _ (ZT (TJ _ (by omega))) rfl (by decide:eX (2:Int)≠2)
include hf
theorem dC.ok7 (h:dC P c s) (hc:c<=900):dC P (c+1) (k7 l fuel P s):=by
 have hn:=RX (l:=l) (p:=s.p) (n:=10) (by omega) (by omega)
 refine h.DF hc l hf _ (U6 (h.CN hc l _) (h.CN hc l _) ?_) (by decide:eX (4:Int)≠0)
 show 5<=IntKind.i64.wrap (5+(nx l s.p 10).1)/\IntKind.i64.wrap (5+(nx l s.p 10).1)<=14
 rw [gG (by omega) (by omega)]
 omega
theorem dC.an1 (h:dC P c s) (hc:c<=900):dC P (c+1) (Y9 l fuel P s):=by
 have hn:=RX (l:=l) (p:=s.p) (n:=2) (by omega) (by omega)
 refine h.DF hc l hf _ (Z3 (h.CN hc l _) ?_) (by decide:eX (3:Int)≠0)
 show 3<=IntKind.i64.wrap (3+(nx l s.p 2).1)/\IntKind.i64.wrap (3+(nx l s.p 2).1)<=4
 rw [gG (by omega) (by omega)]
 omega
omit hf
theorem Xq (d:Nat):5<=QU d/\QU d<=14:=by
 unfold QU
 cases Nat.beq d 0<;>simp
include hf
theorem dC.ax4 (h:dC P c s) (hc:c<=899):dC P (c+2) (VJ l fuel P s):=
 dC.at2 hf (h.DF (by omega) l hf _ (U6 (h.CN (by omega) l _) (h.CN (by omega) l _) (by show 5<=QU (nx l s.p 2).1.toNat/\QU (nx l s.p 2).1.toNat<=14; exact Xq _)) (by decide:eX (4:Int)≠0)) (by omega) (fN.last rfl rfl)
omit hf
theorem dC.Xm (h:dC P c s) (hc:c<=900) (p:Nat):fN s.ins (gj l p s.ins P).1 s.ins.n:=by
 unfold gj
 cases (nx l (vl l p s.ins).2 2).1==0 with
 | true=>exact h.prm _
 | false=>exact h.CN hc l _
include hf
theorem dC.ZG (h:dC P c s) (hc:c<=900):dC P (c+1) (ksh l fuel P s):=
 h.both _ (ai2 (h.Xm hc _)) rfl (by decide:eX (7:Int)≠0) (h.lvE hc l _ fuel hf)
theorem dC.af8 (h:dC P c s) (hc:c<=899):dC P (c+2) (Xl l fuel P s):=dC.aa2 (h.ZG hf (by omega)) (fN.up (h.Xm (by omega) _))
theorem dC.aw1 (h:dC P c s) (hc:c<=899):dC P (c+2) (k26 l fuel P s):=dC.aw5 (h.ZG hf (by omega)) (by omega) (fN.up (h.Xm (by omega) _))
theorem dC.ad2 (h:dC P c s) (hc:c<=900):dC P (c+4) (VP l fuel P s):=dC.ay8 (h.DF hc l hf _ (WS (by show (0:Int)<=32/\(32:Int)<=600; omega)) (by decide:eX (15:Int)≠0))
theorem dC.at9 (h:dC P c s) (hc:c<=899):dC P (c+2) (Zy l fuel P s):=
 dC.an4 (h.DF (by omega) l hf _ (ah3 (h.CN (by omega) l _) (h.CN (by omega) l _)) (by decide:eX (9:Int)≠0)) (by omega) (fN.up (h.CN (by omega) l _)) (fN.up (h.CN (by omega) l _))
theorem dC.as1 (h:dC P c s) (hc:c<=899):dC P (c+2) (YK l fuel P s):=
 dC.ap4 (h.DF (by omega) l hf _ (ah8 (h.CN (by omega) l _)) (by decide:eX (8:Int)≠0)) (fN.up (h.CN (by omega) l _))
theorem dC.au8 (h:dC P c s) (hc:c<=899):dC P (c+2) (k49 l fuel P s):=by
 have hn:=RX (l:=l) (p:=(vl l s.p s.ins).2) (n:=4) (by omega) (by omega)
 refine dC.ay5 (h.DF (by omega) l hf _ (ag1 (h.CN (by omega) l _) ?_) (by decide:eX (6:Int)≠0)) (fN.up (h.CN (by omega) l _))
 show 1<=IntKind.i64.wrap (1+(nx l (vl l s.p s.ins).2 4).1)/\IntKind.i64.wrap (1+(nx l (vl l s.p s.ins).2 4).1)<=6
 rw [gG (by omega) (by omega)]
 omega
theorem dC.ao1 (h:dC P c s) (hc:c<=890):dC P (c+4) (cE l fuel P s):=by
 have h':=h.at (nx l s.p 14).2
 unfold cE
 have B:∀ {b:Bool} {x y:jL},dC P (c+4) x->dC P (c+4) y->dC P (c+4) (bif b then x else y):=λ{b _ _} p q=>by
  cases b with
  | true=>exact p
  | false=>exact q
 refine B (h'.ok3.le (by omega)) (B ((h'.ok7 hf (by omega)).le (by omega)) (B ((h'.ok7 hf (by omega)).le (by omega)) (B ((h'.ok7 hf (by omega)).le (by omega)) (B ((h'.an1 hf (by omega)).le (by omega)) (B ((h'.ax4 hf (by omega)).le (by omega)) (B ((h'.af8 hf (by omega)).le (by omega)) (B ((h'.af8 hf (by omega)).le (by omega)) (B ((h'.aw1 hf (by omega)).le (by omega)) (B (h'.ad2 hf (by omega)) (B (h'.ad2 hf (by omega)) (B ((h'.at9 hf (by omega)).le (by omega)) (B ((h'.as1 hf (by omega)).le (by omega)) ((h'.au8 hf (by omega)).le (by omega))))))))))))))
theorem dC.ae7:∀ (m c:Nat) (s:jL),dC P c s->c+4*m<=880->dC P (c+4*m) (QX l fuel P m s)
 | 0,c,s,h,_=>h
 | m+1,c,s,h,hc=>(dC.ae7 m (c+4) _ (h.ao1 hf (by omega)) (by omega)).le (by omega)
end
end
end Go.Proofs.Ytapefhcmohbmaaa
