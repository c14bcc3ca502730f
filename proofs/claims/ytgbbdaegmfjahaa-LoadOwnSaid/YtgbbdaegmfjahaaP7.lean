/- Loops: what is to be shown. -/
import Derived.Test.YtgbbdaegmfjahaaP6
import Derived.Test.YtgbbdaegmfjahaaP5
import Derived.Test.YtgbbdaegmfjahaaP4
set_option linter.unusedVariables false
set_option linter.unusedSimpArgs false
set_option maxRecDepth 1000000
namespace Go.Proofs.Ytgbbdaegmfjahaa
open Go Go.V
noncomputable def aC9 (l:Sq Int) (sn:Sq aj->aj->Sq aj) (sx:Sq ah->ah->Sq ah) (ds:List D) (rs:List ag):Out:=match ds with
 | [.c (.rt q _ _)]=>match aV rs q with
   | some (.box [.rt m a b,c,d,.sa i n,.sa j ne,.im (.v (.int .i64 fu)),.im (.v (.int .i64 pa))])=>match aV rs m,aV rs i,aV rs j with
     | some (.box [y,.im (.v (.int .i64 p))]),some (.arr _ _ k get),some (.arr _ _ ke ge)=>
       (int (iG l p.toNat ⟨k,λt=>j6 (get t)⟩ pa.toNat).1,[(m,.box [y,.im (iI (fD l p.toNat ⟨k,λt=>j6 (get t)⟩ fu pa.toNat).2)]),(q,.box [.rt m a b,c,d,.sa (rs.length+1) (sn ⟨k,λt=>j6 (get t)⟩ (jl l p.toNat ⟨k,λt=>j6 (get t)⟩ pa.toNat ne)).n,.sa rs.length (sx ⟨ke,λt=>oT (ge t)⟩ (fD l p.toNat ⟨k,λt=>j6 (get t)⟩ fu pa.toNat).1).n,.im (iI fu),.im (iI pa)]),(i,.dead),(j,.dead)],
        [bZ (sx ⟨ke,λt=>oT (ge t)⟩ (fD l p.toNat ⟨k,λt=>j6 (get t)⟩ fu pa.toNat).1),aH (sn ⟨k,λt=>j6 (get t)⟩ (jl l p.toNat ⟨k,λt=>j6 (get t)⟩ pa.toNat ne))])
     | _,_,_=>tF
   | _=>tF
 | _=>tF
noncomputable def aH1 (l:Sq Int) (sn:Sq aj->aj->Sq aj) (sx:Sq ah->ah->Sq ah) (f:FuncId) (ds:List D) (rs:List ag):Out:=match f with
 | 29=>aC9 l sn sx ds rs
 | f=>F67 l sn sx f ds rs
noncomputable def nk (l:Sq Int) (sn:Sq aj->aj->Sq aj) (sx:Sq ah->ah->Sq ah):fN:={ F:=aH1 l sn sx,W:=W67 l,S:=zn }
structure eL where
 p:Nat
 ins:Sq aj
 ex:Sq ah
noncomputable section
def Z1 (d:Nat) (n:Int):iL:=bif Nat.beq d 0 then ⟨3,IntKind.i64.wrap (n-2),⟨⟨[]⟩⟩⟩ else bif Nat.beq d 1 then ⟨1,0,⟨⟨[]⟩⟩⟩ else bif Nat.beq d 2 then ⟨2,1,⟨⟨[]⟩⟩⟩ else ⟨4,0,⟨⟨[115]⟩⟩⟩
def nOf (d:Nat):Int:=bif Nat.beq d 0 then 10 else 11
def TN (l:Sq Int) (fuel:Int) (param:Nat) (x:aj) (p:Nat) (s:eL):eL:=⟨(lv l p s.ins fuel param).2,cj s.ins { x with exit:=(s.ex.n:Int) },cq s.ex (lv l p s.ins fuel param).1⟩
def k35 (l:Sq Int) (c:Int) (s:eL):eL:=⟨(nx l s.p 2).2,cj s.ins (dZ 10 c 0 0 (nx l s.p 2).1 (-1)),s.ex⟩
def k34 (l:Sq Int) (param:Nat) (c:Int) (s:eL):eL:=k35 l c ⟨(nx l (nx l s.p (param:Int)).2 2).2,cj s.ins (dZ 11 c (nx l s.p (param:Int)).1 0 (nx l (nx l s.p (param:Int)).2 2).1 (-1)),s.ex⟩
def k33 (l:Sq Int) (param:Nat) (s:eL):eL:=k34 l param (s.ins.n:Int) ⟨s.p,cj s.ins { dZ 16 0 0 0 0 (-1) with names:=zN },s.ex⟩
def k27 (l:Sq Int) (c:Int) (s:eL):eL:=⟨(nx l (vl l s.p s.ins).2 2).2,cj s.ins (dZ 11 c (vl l s.p s.ins).1 0 (nx l (vl l s.p s.ins).2 2).1 (-1)),s.ex⟩
def k40 (l:Sq Int) (x:aj) (s:eL):eL:=bif (nx l s.p 2).1==0 then ⟨(nx l s.p 2).2,cj s.ins (dZ 12 x.a x.b 0 0 (-1)),s.ex⟩ else ⟨(vl l (nx l s.p 2).2 s.ins).2,cj s.ins (dZ 13 x.a x.b (vl l (nx l s.p 2).2 s.ins).1 0 (-1)),s.ex⟩
def k47 (x:aj) (s:eL):eL:=⟨s.p,cj s.ins (dZ 14 x.a 0 0 0 (-1)),s.ex⟩
def k52 (l:Sq Int) (x:aj) (s:eL):eL:=⟨(nx l s.p 3).2,cj s.ins { dZ 19 x.a 0 0 0 (-1) with place:=⟨0,(nx l s.p 3).1⟩ },s.ex⟩
def k18 (l:Sq Int) (fuel:Int) (param:Nat) (c:Int) (s:eL):eL:=TN l fuel param (dZ 5 c 0 0 (nx l s.p 2).1 0) (nx l s.p 2).2 s
def k3 (l:Sq Int) (s:eL):eL:=⟨(nx l (nx l s.p 7).2 4).2,cj s.ins { dZ 2 0 0 0 0 (-1) with k:=Z1 (nx l (nx l s.p 7).2 4).1.toNat (nx l s.p 7).1 },s.ex⟩
def ab (l:Sq Int) (p:Nat) (ins:Sq aj):Int×Int×Nat:=((vl l p ins).1,(vl l (vl l p ins).2 ins).1,(vl l (vl l p ins).2 ins).2)
def k7 (l:Sq Int) (fuel:Int) (param:Nat) (s:eL):eL:=TN l fuel param (dZ 4 (ab l (nx l s.p 10).2 s.ins).1 (ab l (nx l s.p 10).2 s.ins).2.1 0 (IntKind.i64.wrap (5+(nx l s.p 10).1)) 0) (ab l (nx l s.p 10).2 s.ins).2.2 s
def k11 (l:Sq Int) (fuel:Int) (param:Nat) (s:eL):eL:=TN l fuel param (dZ 3 (vl l (nx l s.p 2).2 s.ins).1 0 0 (IntKind.i64.wrap (3+(nx l s.p 2).1)) 0) (vl l (nx l s.p 2).2 s.ins).2 s
def k15 (l:Sq Int) (fuel:Int) (param:Nat) (s:eL):eL:=k18 l fuel param (s.ins.n:Int) (TN l fuel param (dZ 4 (ab l (nx l s.p 2).2 s.ins).1 (ab l (nx l s.p 2).2 s.ins).2.1 0 (nOf (nx l s.p 2).1.toNat) 0) (ab l (nx l s.p 2).2 s.ins).2.2 s)
def ksh (l:Sq Int) (fuel:Int) (param:Nat) (s:eL):eL:=⟨(fD l s.p s.ins fuel param).2,cj s.ins (jl l s.p s.ins param s.ex.n),cq s.ex (fD l s.p s.ins fuel param).1⟩
def k23 (l:Sq Int) (fuel:Int) (param:Nat) (s:eL):eL:=k35 l (iG l s.p s.ins param).1 (ksh l fuel param s)
def k26 (l:Sq Int) (fuel:Int) (param:Nat) (s:eL):eL:=k27 l (iG l s.p s.ins param).1 (ksh l fuel param s)
def k30 (l:Sq Int) (fuel:Int) (param:Nat) (s:eL):eL:=k33 l param (TN l fuel param (dZ 15 0 0 0 32 0) s.p s)
def k37 (l:Sq Int) (fuel:Int) (param:Nat) (s:eL):eL:=k40 l (dZ 9 (ab l s.p s.ins).1 (ab l s.p s.ins).2.1 0 0 (s.ex.n:Int)) (TN l fuel param (dZ 9 (ab l s.p s.ins).1 (ab l s.p s.ins).2.1 0 0 0) (ab l s.p s.ins).2.2 s)
def k44 (l:Sq Int) (fuel:Int) (param:Nat) (s:eL):eL:=k47 (dZ 8 (vl l s.p s.ins).1 0 0 0 (s.ex.n:Int)) (TN l fuel param (dZ 8 (vl l s.p s.ins).1 0 0 0 0) (vl l s.p s.ins).2 s)
def k49 (l:Sq Int) (fuel:Int) (param:Nat) (s:eL):eL:=k52 l (dZ 6 (vl l s.p s.ins).1 0 0 (IntKind.i64.wrap (1+(nx l (vl l s.p s.ins).2 4).1)) (s.ex.n:Int)) (TN l fuel param (dZ 6 (vl l s.p s.ins).1 0 0 (IntKind.i64.wrap (1+(nx l (vl l s.p s.ins).2 4).1)) 0) (nx l (vl l s.p s.ins).2 4).2 s)
def dC (l:Sq Int) (fuel:Int) (param:Nat) (s:eL):eL:=
 bif (nx l s.p 14).1==0 then k3 l ⟨(nx l s.p 14).2,s.ins,s.ex⟩
 else bif (nx l s.p 14).1==1 then k7 l fuel param ⟨(nx l s.p 14).2,s.ins,s.ex⟩
 else bif (nx l s.p 14).1==2 then k7 l fuel param ⟨(nx l s.p 14).2,s.ins,s.ex⟩
 else bif (nx l s.p 14).1==3 then k7 l fuel param ⟨(nx l s.p 14).2,s.ins,s.ex⟩
 else bif (nx l s.p 14).1==4 then k11 l fuel param ⟨(nx l s.p 14).2,s.ins,s.ex⟩
 else bif (nx l s.p 14).1==5 then k15 l fuel param ⟨(nx l s.p 14).2,s.ins,s.ex⟩
 else bif (nx l s.p 14).1==6 then k23 l fuel param ⟨(nx l s.p 14).2,s.ins,s.ex⟩
 else bif (nx l s.p 14).1==7 then k23 l fuel param ⟨(nx l s.p 14).2,s.ins,s.ex⟩
 else bif (nx l s.p 14).1==8 then k26 l fuel param ⟨(nx l s.p 14).2,s.ins,s.ex⟩
 else bif (nx l s.p 14).1==9 then k30 l fuel param ⟨(nx l s.p 14).2,s.ins,s.ex⟩
 else bif (nx l s.p 14).1==10 then k30 l fuel param ⟨(nx l s.p 14).2,s.ins,s.ex⟩
 else bif (nx l s.p 14).1==11 then k37 l fuel param ⟨(nx l s.p 14).2,s.ins,s.ex⟩
 else bif (nx l s.p 14).1==12 then k44 l fuel param ⟨(nx l s.p 14).2,s.ins,s.ex⟩
 else k49 l fuel param ⟨(nx l s.p 14).2,s.ins,s.ex⟩
def AM (l:Sq Int) (s0:eL) (fuel:Int) (param:Nat) (o:eL):D->List ag->Prop:=b8 [aA l s0.p,bf 0 2 s0.ins.n 3 s0.ex.n fuel param,aH s0.ins,bZ s0.ex] (.t []) [aA l o.p,bf 0 5 o.ins.n 4 o.ex.n fuel param,.dead,.dead,bZ o.ex,aH o.ins]
end
theorem TZ {l:Sq Int} {p:Nat} (h0:Nat.beq (nx l p 4).1.toNat 0=false) (h1:Nat.beq (nx l p 4).1.toNat 1=false) (h2:Nat.beq (nx l p 4).1.toNat 2=false) (h3:Nat.beq (nx l p 4).1.toNat 3=false):False:=by
 obtain ⟨d,hd,dB⟩:=mi (l:=l) (p:=p) (n:=4) (by omega) (by omega)
 rw [hd] at h0 h1 h2 h3
 have g:∀ k,Nat.beq (d:Int).toNat k=false->d≠k:=λk hk e=>by
  subst e
  rw [show Nat.beq (d:Int).toNat d=true from dq d] at hk
  cases hk
 have:=g 0 h0; have:=g 1 h1; have:=g 2 h2; have:=g 3 h3
 omega
theorem Ut {l:Sq Int} {p:Nat} (h0:Nat.beq (nx l p 2).1.toNat 0=false) (h1:Nat.beq (nx l p 2).1.toNat 1=false):False:=by
 obtain ⟨d,hd,dB⟩:=mi (l:=l) (p:=p) (n:=2) (by omega) (by omega)
 rw [hd] at h0 h1
 have g:∀ k,Nat.beq (d:Int).toNat k=false->d≠k:=λk hk e=>by
  subst e
  rw [show Nat.beq (d:Int).toNat d=true from dq d] at hk
  cases hk
 have:=g 0 h0; have:=g 1 h1
 omega
theorem WT {l:Sq Int} {p:Nat} (n:Nat) (h1:1<=n) (h2:n<=1000):cM (nx l p (n:Int)).1 n=true:=by
 obtain ⟨d,hd,dB⟩:=mi (l:=l) (p:=p) (n:=(n:Int)) (by omega) (by omega)
 rw [hd]
 exact a8 (by omega)
def fG:Nat->Bool:=λi=>Nat.beq i 3||Nat.beq i 7||Nat.beq i 11||Nat.beq i 15||Nat.beq i 18||Nat.beq i 23||Nat.beq i 24||Nat.beq i 26||Nat.beq i 27||Nat.beq i 30||Nat.beq i 33||Nat.beq i 34||Nat.beq i 35||Nat.beq i 37||Nat.beq i 40||Nat.beq i 44||Nat.beq i 47||Nat.beq i 49||Nat.beq i 52
theorem aG8:Fn 16:={}
noncomputable abbrev de:fp:=(2,((.c (.rt 0 0 0)),[]))
noncomputable abbrev lF (aw:Sq Int) (aG:Nat):fp:=(20,((int ((nx aw aG 14).1)),[]))
noncomputable abbrev lV (aw:Sq Int) (aG:Nat) (bk:Sq aj) (bN:Sq ah) (dp:Int) (fq:Nat):List ag:=[(aA aw ((nx aw aG 14).2)),(cO bk bN dp fq),(aH bk),(bZ bN)]
noncomputable abbrev Jd (aw:Sq Int) (aG:Nat):aK:=[ei,de,(lF aw aG),(38,((bool true),[]))]
theorem az4 (L:LP) (QE:D->List ag->Prop) (sn:Sq aj->aj->Sq aj) (sx:Sq ah->ah->Sq ah) (l:Sq Int) (p:Nat) (ins:Sq aj) (aa:Sq ah) (fuel:Int) (param:Nat) (h:(WC 13 [(.c (.rt 0 0 0)),(int 14)] (nX l p ins aa fuel param) (int ((nx l p 14).1)) 0 (aA l ((nx l p 14).2))/\br ((nx l p 14).1==0) (L (ai 16 3) ⟨[ei,de,(lF l p),(21,((bool true),[]))],(lV l p ins aa fuel param),[]⟩) (br ((nx l p 14).1==1) (L (ai 16 7) ⟨(Jd l p),(lV l p ins aa fuel param),[]⟩) (br ((nx l p 14).1==2) (L (ai 16 7) ⟨(Jd l p),(lV l p ins aa fuel param),[]⟩) (br ((nx l p 14).1==3) (L (ai 16 7) ⟨(Jd l p),(lV l p ins aa fuel param),[]⟩) (br ((nx l p 14).1==4) (L (ai 16 11) ⟨[ei,de,(lF l p),(56,((bool true),[]))],(lV l p ins aa fuel param),[]⟩) (br ((nx l p 14).1==5) (L (ai 16 15) ⟨[ei,de,(lF l p),(70,((bool true),[]))],(lV l p ins aa fuel param),[]⟩) (br ((nx l p 14).1==6) (L (ai 16 23) ⟨[ei,de,(lF l p),(98,((bool true),[]))],(lV l p ins aa fuel param),[]⟩) (br ((nx l p 14).1==7) (L (ai 16 23) ⟨[ei,de,(lF l p),(98,((bool true),[]))],(lV l p ins aa fuel param),[]⟩) (br ((nx l p 14).1==8) (L (ai 16 26) ⟨[ei,de,(lF l p),(109,((bool true),[]))],(lV l p ins aa fuel param),[]⟩) (br ((nx l p 14).1==9) (L (ai 16 30) ⟨[ei,de,(lF l p),(121,((bool true),[]))],(lV l p ins aa fuel param),[]⟩) (br ((nx l p 14).1==10) (L (ai 16 30) ⟨[ei,de,(lF l p),(121,((bool true),[]))],(lV l p ins aa fuel param),[]⟩) (br ((nx l p 14).1==11) (L (ai 16 37) ⟨[ei,de,(lF l p),(153,((bool true),[]))],(lV l p ins aa fuel param),[]⟩) (br ((nx l p 14).1==12) (L (ai 16 44) ⟨[ei,de,(lF l p),(185,((bool true),[]))],(lV l p ins aa fuel param),[]⟩) (br ((nx l p 14).1==13) (L (ai 16 49) ⟨[ei,de,(201,((bool true),[]))],(lV l p ins aa fuel param),[]⟩) (QE (.t []) [(aA l ((nx l p 14).2)),(bf 0 2 ins.1 3 aa.1 fuel (↑param:Int)),(aH ins),(bZ aa)])))))))))))))))):fx (nk l sn sx) 16 fG L QE [.c (.rt 1 0 0)] [aA l p,bf 0 2 ins.n 3 aa.n fuel param,aH ins,bZ aa]:=km h
noncomputable abbrev kS:fp:=(0,.c (.rt 1 0 0),[])
noncomputable abbrev jq:fp:=(2,.c (.rt 0 0 0),[])
noncomputable def Ji (sn:Sq aj->aj->Sq aj) (sx:Sq ah->ah->Sq ah) (l:Sq Int) (p:Nat) (ins:Sq aj) (aa:Sq ah) (fuel:Int) (param:Nat)  : VS:=⟨[kS,jq],[aA l p,bf 0 2 ins.n 4 aa.n fuel param,aH ins,.dead,bZ aa],[]⟩
noncomputable abbrev ql:C:=.im (.v (.string ({ data := #[115] })))
noncomputable abbrev pn (aw:Sq Int) (aG:Nat):ag:=aA aw ((nx aw (nx aw aG 7).2 4).2)
theorem X1 (L:LP) (QE:D->List ag->Prop) (sn:Sq aj->aj->Sq aj) (sx:Sq ah->ah->Sq ah) (l:Sq Int) (p:Nat) (ins:Sq aj) (aa:Sq ah) (fuel:Int) (param:Nat)  (h:(WC 13 [(.c (.rt 0 0 0)),(int 7)] [(aA l p),(bf 0 2 ins.1 4 aa.1 fuel (↑param:Int)),(aH ins),.dead,(bZ aa)] (int ((nx l p 7).1)) 0 (aA l ((nx l p 7).2))/\(WC 13 [(.c (.rt 0 0 0)),(int 4)] [(aA l ((nx l p 7).2)),(bf 0 2 ins.1 4 aa.1 fuel (↑param:Int)),(aH ins),.dead,(bZ aa),(.row 42 3 4 [(ci 3),(ci (IntKind.i64.wrap ((nx l p 7).1-2))),ff,(ci 1),(ci 0),ff,(ci 2),(ci 1),ff,(ci 4),(ci 0),ql])] (int ((nx l (nx l p 7).2 4).1)) 0 (aA l ((nx l (nx l p 7).2 4).2))/\nd (cM (nx l (nx l p 7).2 4).1 4) (br ((nx l (nx l p 7).2 4).1.toNat.beq 0) ((LC 14 [(.c (.rt 1 0 0)),(.a [(ci 2),(ci 0),(ci 0),(ci 0),(ci 0),fi,(ci 3),(ci (IntKind.i64.wrap ((nx l p 7).1-2))),ff,fi,(ci 0),(ci 0),(ci (-1)),dS])] [(pn l p),(bf 0 2 ins.1 4 aa.1 fuel (↑param:Int)),(aH ins),.dead,(bZ aa),(.row 42 3 4 [(ci 3),(ci (IntKind.i64.wrap ((nx l p 7).1-2))),ff,(ci 1),(ci 0),ff,(ci 2),(ci 1),ff,(ci 4),(ci 0),ql])] (eh ins) [(pn l p),(bf 0 6 ((sn ins { op:=Int.ofNat 2,a:=Int.ofNat 0,b:=Int.ofNat 0,c:=Int.ofNat 0,n:=Int.ofNat 0,args:={ n:=0,get:=λx=>Int.ofNat 0 },k:={ kind:=Int.ofNat 3,n:=cJ (I.v (Value.int IntKind.i64 (IntKind.i64.wrap ((nx l p 7).1-2)))),s:={ data:={ toList:=[] } } },names:={ n:=0,get:=λx=>{ data:={ toList:=[] } } },place:={ fn:=Int.ofNat 0,line:=Int.ofNat 0 },exit:=Int.negSucc 0,once:=false }).1) 4 aa.1 fuel (↑param:Int)),.dead,.dead,(bZ aa),(.row 42 3 4 [(ci 3),(ci (IntKind.i64.wrap ((nx l p 7).1-2))),ff,(ci 1),(ci 0),ff,(ci 2),(ci 1),ff,(ci 4),(ci 0),ql]),(aH (sn ins { op:=Int.ofNat 2,a:=Int.ofNat 0,b:=Int.ofNat 0,c:=Int.ofNat 0,n:=Int.ofNat 0,args:={ n:=0,get:=λx=>Int.ofNat 0 },k:={ kind:=Int.ofNat 3,n:=cJ (I.v (Value.int IntKind.i64 (IntKind.i64.wrap ((nx l p 7).1-2)))),s:={ data:={ toList:=[] } } },names:={ n:=0,get:=λx=>{ data:={ toList:=[] } } },place:={ fn:=Int.ofNat 0,line:=Int.ofNat 0 },exit:=Int.negSucc 0,once:=false }))]/\QE (.t []) [(aA l ((nx l (nx l p 7).2 4).2)),(bf 0 6 ((sn ins { op:=Int.ofNat 2,a:=Int.ofNat 0,b:=Int.ofNat 0,c:=Int.ofNat 0,n:=Int.ofNat 0,args:={ n:=0,get:=λx=>Int.ofNat 0 },k:={ kind:=Int.ofNat 3,n:=cJ (I.v (Value.int IntKind.i64 (IntKind.i64.wrap ((nx l p 7).1-2)))),s:={ data:={ toList:=[] } } },names:={ n:=0,get:=λx=>{ data:={ toList:=[] } } },place:={ fn:=Int.ofNat 0,line:=Int.ofNat 0 },exit:=Int.negSucc 0,once:=false }).1) 4 aa.1 fuel (↑param:Int)),.dead,.dead,(bZ aa),(.row 42 3 4 [(ci 3),(ci (IntKind.i64.wrap ((nx l p 7).1-2))),(.im (.v (.string ⟨⟨[]⟩⟩))),(ci 1),(ci 0),(.im (.v (.string ⟨⟨[]⟩⟩))),(ci 2),(ci 1),(.im (.v (.string ⟨⟨[]⟩⟩))),(ci 4),(ci 0),(.im (.v (.string ({ data := #[115] }))))]),(aH (sn ins { op:=Int.ofNat 2,a:=Int.ofNat 0,b:=Int.ofNat 0,c:=Int.ofNat 0,n:=Int.ofNat 0,args:={ n:=0,get:=λx=>Int.ofNat 0 },k:={ kind:=Int.ofNat 3,n:=cJ (I.v (Value.int IntKind.i64 (IntKind.i64.wrap ((nx l p 7).1-2)))),s:={ data:={ toList:=[] } } },names:={ n:=0,get:=λx=>{ data:={ toList:=[] } } },place:={ fn:=Int.ofNat 0,line:=Int.ofNat 0 },exit:=Int.negSucc 0,once:=false }))])) (br ((nx l (nx l p 7).2 4).1.toNat.beq 1) ((LC 14 [(.c (.rt 1 0 0)),(.a [(ci 2),(ci 0),(ci 0),(ci 0),(ci 0),fi,(ci 1),(ci 0),ff,fi,(ci 0),(ci 0),(ci (-1)),dS])] [(pn l p),(bf 0 2 ins.1 4 aa.1 fuel (↑param:Int)),(aH ins),.dead,(bZ aa),(.row 42 3 4 [(ci 3),(ci (IntKind.i64.wrap ((nx l p 7).1-2))),ff,(ci 1),(ci 0),ff,(ci 2),(ci 1),ff,(ci 4),(ci 0),ql])] (eh ins) [(pn l p),(bf 0 6 ((sn ins { op:=Int.ofNat 2,a:=Int.ofNat 0,b:=Int.ofNat 0,c:=Int.ofNat 0,n:=Int.ofNat 0,args:={ n:=0,get:=λx=>Int.ofNat 0 },k:={ kind:=Int.ofNat 1,n:=Int.ofNat 0,s:={ data:={ toList:=[] } } },names:={ n:=0,get:=λx=>{ data:={ toList:=[] } } },place:={ fn:=Int.ofNat 0,line:=Int.ofNat 0 },exit:=Int.negSucc 0,once:=false }).1) 4 aa.1 fuel (↑param:Int)),.dead,.dead,(bZ aa),(.row 42 3 4 [(ci 3),(ci (IntKind.i64.wrap ((nx l p 7).1-2))),ff,(ci 1),(ci 0),ff,(ci 2),(ci 1),ff,(ci 4),(ci 0),ql]),(aH (sn ins { op:=Int.ofNat 2,a:=Int.ofNat 0,b:=Int.ofNat 0,c:=Int.ofNat 0,n:=Int.ofNat 0,args:={ n:=0,get:=λx=>Int.ofNat 0 },k:={ kind:=Int.ofNat 1,n:=Int.ofNat 0,s:={ data:={ toList:=[] } } },names:={ n:=0,get:=λx=>{ data:={ toList:=[] } } },place:={ fn:=Int.ofNat 0,line:=Int.ofNat 0 },exit:=Int.negSucc 0,once:=false }))]/\QE (.t []) [(aA l ((nx l (nx l p 7).2 4).2)),(bf 0 6 ((sn ins { op:=Int.ofNat 2,a:=Int.ofNat 0,b:=Int.ofNat 0,c:=Int.ofNat 0,n:=Int.ofNat 0,args:={ n:=0,get:=λx=>Int.ofNat 0 },k:={ kind:=Int.ofNat 1,n:=Int.ofNat 0,s:={ data:={ toList:=[] } } },names:={ n:=0,get:=λx=>{ data:={ toList:=[] } } },place:={ fn:=Int.ofNat 0,line:=Int.ofNat 0 },exit:=Int.negSucc 0,once:=false }).1) 4 aa.1 fuel (↑param:Int)),.dead,.dead,(bZ aa),(.row 42 3 4 [(ci 3),(ci (IntKind.i64.wrap ((nx l p 7).1-2))),(.im (.v (.string ⟨⟨[]⟩⟩))),(ci 1),(ci 0),(.im (.v (.string ⟨⟨[]⟩⟩))),(ci 2),(ci 1),(.im (.v (.string ⟨⟨[]⟩⟩))),(ci 4),(ci 0),(.im (.v (.string ({ data := #[115] }))))]),(aH (sn ins { op:=Int.ofNat 2,a:=Int.ofNat 0,b:=Int.ofNat 0,c:=Int.ofNat 0,n:=Int.ofNat 0,args:={ n:=0,get:=λx=>Int.ofNat 0 },k:={ kind:=Int.ofNat 1,n:=Int.ofNat 0,s:={ data:={ toList:=[] } } },names:={ n:=0,get:=λx=>{ data:={ toList:=[] } } },place:={ fn:=Int.ofNat 0,line:=Int.ofNat 0 },exit:=Int.negSucc 0,once:=false }))])) (br ((nx l (nx l p 7).2 4).1.toNat.beq 2) ((LC 14 [(.c (.rt 1 0 0)),(.a [(ci 2),(ci 0),(ci 0),(ci 0),(ci 0),fi,(ci 2),(ci 1),ff,fi,(ci 0),(ci 0),(ci (-1)),dS])] [(pn l p),(bf 0 2 ins.1 4 aa.1 fuel (↑param:Int)),(aH ins),.dead,(bZ aa),(.row 42 3 4 [(ci 3),(ci (IntKind.i64.wrap ((nx l p 7).1-2))),ff,(ci 1),(ci 0),ff,(ci 2),(ci 1),ff,(ci 4),(ci 0),ql])] (eh ins) [(pn l p),(bf 0 6 ((sn ins { op:=Int.ofNat 2,a:=Int.ofNat 0,b:=Int.ofNat 0,c:=Int.ofNat 0,n:=Int.ofNat 0,args:={ n:=0,get:=λx=>Int.ofNat 0 },k:={ kind:=Int.ofNat 2,n:=Int.ofNat 1,s:={ data:={ toList:=[] } } },names:={ n:=0,get:=λx=>{ data:={ toList:=[] } } },place:={ fn:=Int.ofNat 0,line:=Int.ofNat 0 },exit:=Int.negSucc 0,once:=false }).1) 4 aa.1 fuel (↑param:Int)),.dead,.dead,(bZ aa),(.row 42 3 4 [(ci 3),(ci (IntKind.i64.wrap ((nx l p 7).1-2))),ff,(ci 1),(ci 0),ff,(ci 2),(ci 1),ff,(ci 4),(ci 0),ql]),(aH (sn ins { op:=Int.ofNat 2,a:=Int.ofNat 0,b:=Int.ofNat 0,c:=Int.ofNat 0,n:=Int.ofNat 0,args:={ n:=0,get:=λx=>Int.ofNat 0 },k:={ kind:=Int.ofNat 2,n:=Int.ofNat 1,s:={ data:={ toList:=[] } } },names:={ n:=0,get:=λx=>{ data:={ toList:=[] } } },place:={ fn:=Int.ofNat 0,line:=Int.ofNat 0 },exit:=Int.negSucc 0,once:=false }))]/\QE (.t []) [(aA l ((nx l (nx l p 7).2 4).2)),(bf 0 6 ((sn ins { op:=Int.ofNat 2,a:=Int.ofNat 0,b:=Int.ofNat 0,c:=Int.ofNat 0,n:=Int.ofNat 0,args:={ n:=0,get:=λx=>Int.ofNat 0 },k:={ kind:=Int.ofNat 2,n:=Int.ofNat 1,s:={ data:={ toList:=[] } } },names:={ n:=0,get:=λx=>{ data:={ toList:=[] } } },place:={ fn:=Int.ofNat 0,line:=Int.ofNat 0 },exit:=Int.negSucc 0,once:=false }).1) 4 aa.1 fuel (↑param:Int)),.dead,.dead,(bZ aa),(.row 42 3 4 [(ci 3),(ci (IntKind.i64.wrap ((nx l p 7).1-2))),(.im (.v (.string ⟨⟨[]⟩⟩))),(ci 1),(ci 0),(.im (.v (.string ⟨⟨[]⟩⟩))),(ci 2),(ci 1),(.im (.v (.string ⟨⟨[]⟩⟩))),(ci 4),(ci 0),(.im (.v (.string ({ data := #[115] }))))]),(aH (sn ins { op:=Int.ofNat 2,a:=Int.ofNat 0,b:=Int.ofNat 0,c:=Int.ofNat 0,n:=Int.ofNat 0,args:={ n:=0,get:=λx=>Int.ofNat 0 },k:={ kind:=Int.ofNat 2,n:=Int.ofNat 1,s:={ data:={ toList:=[] } } },names:={ n:=0,get:=λx=>{ data:={ toList:=[] } } },place:={ fn:=Int.ofNat 0,line:=Int.ofNat 0 },exit:=Int.negSucc 0,once:=false }))])) (br ((nx l (nx l p 7).2 4).1.toNat.beq 3) ((LC 14 [(.c (.rt 1 0 0)),(.a [(ci 2),(ci 0),(ci 0),(ci 0),(ci 0),fi,(ci 4),(ci 0),ql,fi,(ci 0),(ci 0),(ci (-1)),dS])] [(pn l p),(bf 0 2 ins.1 4 aa.1 fuel (↑param:Int)),(aH ins),.dead,(bZ aa),(.row 42 3 4 [(ci 3),(ci (IntKind.i64.wrap ((nx l p 7).1-2))),ff,(ci 1),(ci 0),ff,(ci 2),(ci 1),ff,(ci 4),(ci 0),ql])] (eh ins) [(pn l p),(bf 0 6 ((sn ins { op:=Int.ofNat 2,a:=Int.ofNat 0,b:=Int.ofNat 0,c:=Int.ofNat 0,n:=Int.ofNat 0,args:={ n:=0,get:=λx=>Int.ofNat 0 },k:={ kind:=Int.ofNat 4,n:=Int.ofNat 0,s:={ data := #[115] } },names:={ n:=0,get:=λx=>{ data:={ toList:=[] } } },place:={ fn:=Int.ofNat 0,line:=Int.ofNat 0 },exit:=Int.negSucc 0,once:=false }).1) 4 aa.1 fuel (↑param:Int)),.dead,.dead,(bZ aa),(.row 42 3 4 [(ci 3),(ci (IntKind.i64.wrap ((nx l p 7).1-2))),ff,(ci 1),(ci 0),ff,(ci 2),(ci 1),ff,(ci 4),(ci 0),ql]),(aH (sn ins { op:=Int.ofNat 2,a:=Int.ofNat 0,b:=Int.ofNat 0,c:=Int.ofNat 0,n:=Int.ofNat 0,args:={ n:=0,get:=λx=>Int.ofNat 0 },k:={ kind:=Int.ofNat 4,n:=Int.ofNat 0,s:={ data := #[115] } },names:={ n:=0,get:=λx=>{ data:={ toList:=[] } } },place:={ fn:=Int.ofNat 0,line:=Int.ofNat 0 },exit:=Int.negSucc 0,once:=false }))]/\QE (.t []) [(aA l ((nx l (nx l p 7).2 4).2)),(bf 0 6 ((sn ins { op:=Int.ofNat 2,a:=Int.ofNat 0,b:=Int.ofNat 0,c:=Int.ofNat 0,n:=Int.ofNat 0,args:={ n:=0,get:=λx=>Int.ofNat 0 },k:={ kind:=Int.ofNat 4,n:=Int.ofNat 0,s:={ data := #[115] } },names:={ n:=0,get:=λx=>{ data:={ toList:=[] } } },place:={ fn:=Int.ofNat 0,line:=Int.ofNat 0 },exit:=Int.negSucc 0,once:=false }).1) 4 aa.1 fuel (↑param:Int)),.dead,.dead,(bZ aa),(.row 42 3 4 [(ci 3),(ci (IntKind.i64.wrap ((nx l p 7).1-2))),(.im (.v (.string ⟨⟨[]⟩⟩))),(ci 1),(ci 0),(.im (.v (.string ⟨⟨[]⟩⟩))),(ci 2),(ci 1),(.im (.v (.string ⟨⟨[]⟩⟩))),(ci 4),(ci 0),(.im (.v (.string ({ data := #[115] }))))]),(aH (sn ins { op:=Int.ofNat 2,a:=Int.ofNat 0,b:=Int.ofNat 0,c:=Int.ofNat 0,n:=Int.ofNat 0,args:={ n:=0,get:=λx=>Int.ofNat 0 },k:={ kind:=Int.ofNat 4,n:=Int.ofNat 0,s:={ data := #[115] } },names:={ n:=0,get:=λx=>{ data:={ toList:=[] } } },place:={ fn:=Int.ofNat 0,line:=Int.ofNat 0 },exit:=Int.negSucc 0,once:=false }))])) (False)))))))):cB (nk l sn sx) 16 fG L QE 3 (Ji sn sx l p ins aa fuel param ):=km h
noncomputable abbrev sE (aw:Sq Int) (aG:Nat) (bk:Sq aj) (bN:Sq ah) (dp:Int) (fq:Nat):VS:=⟨[kS,jq],[aA aw aG,bf 0 2 bk.n 3 bN.n dp fq,aH bk,bZ bN],[]⟩
noncomputable def yJ (sn:Sq aj->aj->Sq aj) (sx:Sq ah->ah->Sq ah) (l:Sq Int) (p:Nat) (ins:Sq aj) (aa:Sq ah) (fuel:Int) (param:Nat)  : VS:=(sE l p ins aa fuel param)
theorem X5 (L:LP) (QE:D->List ag->Prop) (sn:Sq aj->aj->Sq aj) (sx:Sq ah->ah->Sq ah) (l:Sq Int) (p:Nat) (ins:Sq aj) (aa:Sq ah) (fuel:Int) (param:Nat)  (h:(WC 13 [(.c (.rt 0 0 0)),(int 10)] (nX l p ins aa fuel param) (int ((nx l p 10).1)) 0 (aA l ((nx l p 10).2))/\(WC 17 dz [(aA l ((nx l p 10).2)),(cO ins aa fuel param),(aH ins),(bZ aa)] (int ((vl l (nx l p 10).2 ins).1)) 0 (aA l ((vl l (nx l p 10).2 ins).2))/\(WC 17 dz [(aA l ((vl l (nx l p 10).2 ins).2)),(cO ins aa fuel param),(aH ins),(bZ aa)] (int ((vl l (vl l (nx l p 10).2 ins).2 ins).1)) 0 (aA l ((vl l (vl l (nx l p 10).2 ins).2 ins).2))/\(LC 15 dz [(aA l ((vl l (vl l (nx l p 10).2 ins).2 ins).2)),(cO ins aa fuel param),(aH ins),(bZ aa),(.box (fL 4 (vl l (nx l p 10).2 ins).1 (vl l (vl l (nx l p 10).2 ins).2 ins).1 0 (cJ (I.v (Value.int IntKind.i64 (IntKind.i64.wrap (5+(nx l p 10).1))))) 0))] (je aa) [(aA l ((lv l (vl l (vl l (nx l p 10).2 ins).2 ins).2 ins fuel param).2)),(bf 0 2 ins.1 5 ((sx aa (lv l (vl l (vl l (nx l p 10).2 ins).2 ins).2 ins fuel param).1).1) fuel (↑param:Int)),(aH ins),.dead,(.box (fL 4 (vl l (nx l p 10).2 ins).1 (vl l (vl l (nx l p 10).2 ins).2 ins).1 0 (cJ (I.v (Value.int IntKind.i64 (IntKind.i64.wrap (5+(nx l p 10).1))))) 0)),(bZ (sx aa (lv l (vl l (vl l (nx l p 10).2 ins).2 ins).2 ins fuel param).1))]/\(LC 14 [(.c (.rt 1 0 0)),(.a (fL 4 (vl l (nx l p 10).2 ins).1 (vl l (vl l (nx l p 10).2 ins).2 ins).1 0 (cJ (I.v (Value.int IntKind.i64 (IntKind.i64.wrap (5+(nx l p 10).1))))) (Int.ofNat aa.1)))] [(aA l ((lv l (vl l (vl l (nx l p 10).2 ins).2 ins).2 ins fuel param).2)),(bf 0 2 ins.1 5 ((sx aa (lv l (vl l (vl l (nx l p 10).2 ins).2 ins).2 ins fuel param).1).1) fuel (↑param:Int)),(aH ins),.dead,(.box (fL 4 (vl l (nx l p 10).2 ins).1 (vl l (vl l (nx l p 10).2 ins).2 ins).1 0 (cJ (I.v (Value.int IntKind.i64 (IntKind.i64.wrap (5+(nx l p 10).1))))) (Int.ofNat aa.1))),(bZ (sx aa (lv l (vl l (vl l (nx l p 10).2 ins).2 ins).2 ins fuel param).1))] (eh ins) [(aA l ((lv l (vl l (vl l (nx l p 10).2 ins).2 ins).2 ins fuel param).2)),(bf 0 6 ((sn ins (dZ 4 (vl l (nx l p 10).2 ins).1 (vl l (vl l (nx l p 10).2 ins).2 ins).1 0 (cJ (I.v (Value.int IntKind.i64 (IntKind.i64.wrap (5+(nx l p 10).1))))) (Int.ofNat aa.1))).1) 5 ((sx aa (lv l (vl l (vl l (nx l p 10).2 ins).2 ins).2 ins fuel param).1).1) fuel (↑param:Int)),.dead,.dead,(.box (fL 4 (vl l (nx l p 10).2 ins).1 (vl l (vl l (nx l p 10).2 ins).2 ins).1 0 (cJ (I.v (Value.int IntKind.i64 (IntKind.i64.wrap (5+(nx l p 10).1))))) (Int.ofNat aa.1))),(bZ (sx aa (lv l (vl l (vl l (nx l p 10).2 ins).2 ins).2 ins fuel param).1)),(aH (sn ins (dZ 4 (vl l (nx l p 10).2 ins).1 (vl l (vl l (nx l p 10).2 ins).2 ins).1 0 (cJ (I.v (Value.int IntKind.i64 (IntKind.i64.wrap (5+(nx l p 10).1))))) (Int.ofNat aa.1))))]/\QE (.t []) [(aA l ((lv l (vl l (vl l (nx l p 10).2 ins).2 ins).2 ins fuel param).2)),(bf 0 6 ((sn ins (dZ 4 (vl l (nx l p 10).2 ins).1 (vl l (vl l (nx l p 10).2 ins).2 ins).1 0 (cJ (I.v (Value.int IntKind.i64 (IntKind.i64.wrap (5+(nx l p 10).1))))) (Int.ofNat aa.1))).1) 5 ((sx aa (lv l (vl l (vl l (nx l p 10).2 ins).2 ins).2 ins fuel param).1).1) fuel (↑param:Int)),.dead,.dead,(.box (fL 4 (vl l (nx l p 10).2 ins).1 (vl l (vl l (nx l p 10).2 ins).2 ins).1 0 (cJ (I.v (Value.int IntKind.i64 (IntKind.i64.wrap (5+(nx l p 10).1))))) (Int.ofNat aa.1))),(bZ (sx aa (lv l (vl l (vl l (nx l p 10).2 ins).2 ins).2 ins fuel param).1)),(aH (sn ins (dZ 4 (vl l (nx l p 10).2 ins).1 (vl l (vl l (nx l p 10).2 ins).2 ins).1 0 (cJ (I.v (Value.int IntKind.i64 (IntKind.i64.wrap (5+(nx l p 10).1))))) (Int.ofNat aa.1))))])))))):cB (nk l sn sx) 16 fG L QE 7 (yJ sn sx l p ins aa fuel param ):=km h
noncomputable def D0 (sn:Sq aj->aj->Sq aj) (sx:Sq ah->ah->Sq ah) (l:Sq Int) (p:Nat) (ins:Sq aj) (aa:Sq ah) (fuel:Int) (param:Nat)  : VS:=(sE l p ins aa fuel param)
noncomputable abbrev lj (aw:Sq Int) (aG:Nat) (bk:Sq aj):D:=int ((vl aw (nx aw aG 2).2 bk).1)
noncomputable abbrev oN (aw:Sq Int) (aG:Nat) (bk:Sq aj):ag:=aA aw ((vl aw (nx aw aG 2).2 bk).2)
theorem Vw (L:LP) (QE:D->List ag->Prop) (sn:Sq aj->aj->Sq aj) (sx:Sq ah->ah->Sq ah) (l:Sq Int) (p:Nat) (ins:Sq aj) (aa:Sq ah) (fuel:Int) (param:Nat)  (h:(WC 13 j3 (nX l p ins aa fuel param) (mh l p) 0 (aA l ((nx l p 2).2))/\(WC 17 dz [(gg l p),(cO ins aa fuel param),(aH ins),(bZ aa)] (lj l p ins) 0 (aA l ((vl l (nx l p 2).2 ins).2))/\(LC 15 dz [(oN l p ins),(cO ins aa fuel param),(aH ins),(bZ aa),(.box (fL 3 (vl l (nx l p 2).2 ins).1 0 0 (cJ (I.v (Value.int IntKind.i64 (IntKind.i64.wrap (3+(nx l p 2).1))))) 0))] (je aa) [(aA l ((lv l (vl l (nx l p 2).2 ins).2 ins fuel param).2)),(bf 0 2 ins.1 5 ((sx aa (lv l (vl l (nx l p 2).2 ins).2 ins fuel param).1).1) fuel (↑param:Int)),(aH ins),.dead,(.box (fL 3 (vl l (nx l p 2).2 ins).1 0 0 (cJ (I.v (Value.int IntKind.i64 (IntKind.i64.wrap (3+(nx l p 2).1))))) 0)),(bZ (sx aa (lv l (vl l (nx l p 2).2 ins).2 ins fuel param).1))]/\(LC 14 [(.c (.rt 1 0 0)),(.a (fL 3 (vl l (nx l p 2).2 ins).1 0 0 (cJ (I.v (Value.int IntKind.i64 (IntKind.i64.wrap (3+(nx l p 2).1))))) (Int.ofNat aa.1)))] [(aA l ((lv l (vl l (nx l p 2).2 ins).2 ins fuel param).2)),(bf 0 2 ins.1 5 ((sx aa (lv l (vl l (nx l p 2).2 ins).2 ins fuel param).1).1) fuel (↑param:Int)),(aH ins),.dead,(.box (fL 3 (vl l (nx l p 2).2 ins).1 0 0 (cJ (I.v (Value.int IntKind.i64 (IntKind.i64.wrap (3+(nx l p 2).1))))) (Int.ofNat aa.1))),(bZ (sx aa (lv l (vl l (nx l p 2).2 ins).2 ins fuel param).1))] (eh ins) [(aA l ((lv l (vl l (nx l p 2).2 ins).2 ins fuel param).2)),(bf 0 6 ((sn ins (dZ 3 (vl l (nx l p 2).2 ins).1 0 0 (cJ (I.v (Value.int IntKind.i64 (IntKind.i64.wrap (3+(nx l p 2).1))))) (Int.ofNat aa.1))).1) 5 ((sx aa (lv l (vl l (nx l p 2).2 ins).2 ins fuel param).1).1) fuel (↑param:Int)),.dead,.dead,(.box (fL 3 (vl l (nx l p 2).2 ins).1 0 0 (cJ (I.v (Value.int IntKind.i64 (IntKind.i64.wrap (3+(nx l p 2).1))))) (Int.ofNat aa.1))),(bZ (sx aa (lv l (vl l (nx l p 2).2 ins).2 ins fuel param).1)),(aH (sn ins (dZ 3 (vl l (nx l p 2).2 ins).1 0 0 (cJ (I.v (Value.int IntKind.i64 (IntKind.i64.wrap (3+(nx l p 2).1))))) (Int.ofNat aa.1))))]/\QE (.t []) [(aA l ((lv l (vl l (nx l p 2).2 ins).2 ins fuel param).2)),(bf 0 6 ((sn ins (dZ 3 (vl l (nx l p 2).2 ins).1 0 0 (cJ (I.v (Value.int IntKind.i64 (IntKind.i64.wrap (3+(nx l p 2).1))))) (Int.ofNat aa.1))).1) 5 ((sx aa (lv l (vl l (nx l p 2).2 ins).2 ins fuel param).1).1) fuel (↑param:Int)),.dead,.dead,(.box (fL 3 (vl l (nx l p 2).2 ins).1 0 0 (cJ (I.v (Value.int IntKind.i64 (IntKind.i64.wrap (3+(nx l p 2).1))))) (Int.ofNat aa.1))),(bZ (sx aa (lv l (vl l (nx l p 2).2 ins).2 ins fuel param).1)),(aH (sn ins (dZ 3 (vl l (nx l p 2).2 ins).1 0 0 (cJ (I.v (Value.int IntKind.i64 (IntKind.i64.wrap (3+(nx l p 2).1))))) (Int.ofNat aa.1))))]))))):cB (nk l sn sx) 16 fG L QE 11 (D0 sn sx l p ins aa fuel param ):=km h
noncomputable def DH (sn:Sq aj->aj->Sq aj) (sx:Sq ah->ah->Sq ah) (l:Sq Int) (p:Nat) (ins:Sq aj) (aa:Sq ah) (fuel:Int) (param:Nat)  : VS:=(sE l p ins aa fuel param)
noncomputable abbrev jT:ag:=.row 3 1 2 [(ci 10),(ci 11)]
noncomputable abbrev uv (aw:Sq Int) (aG:Nat) (bk:Sq aj):D:=int ((vl aw (vl aw (nx aw aG 2).2 bk).2 bk).1)
noncomputable abbrev Cg (aw:Sq Int) (aG:Nat) (bk:Sq aj) (bN:Sq ah) (dp:Int) (fq:Nat):List ag:=[(gg aw aG),(cO bk bN dp fq),(aH bk),(bZ bN),.dead,.dead,.dead,.dead,.dead]
noncomputable abbrev Cb (aw:Sq Int) (aG:Nat) (bk:Sq aj) (bN:Sq ah) (dp:Int) (fq:Nat):List ag:=[(oN aw aG bk),(cO bk bN dp fq),(aH bk),(bZ bN),.dead,.dead,.dead,.dead,.dead]
noncomputable abbrev B5 (aw:Sq Int) (aG:Nat) (bk:Sq aj):ag:=aA aw ((vl aw (vl aw (nx aw aG 2).2 bk).2 bk).2)
noncomputable abbrev Dy (aw:Sq Int) (aG:Nat) (bk:Sq aj):ag:=.box (fL 4 (vl aw (nx aw aG 2).2 bk).1 (vl aw (vl aw (nx aw aG 2).2 bk).2 bk).1 0 10 0)
noncomputable abbrev vd (aw:Sq Int) (aG:Nat) (bk:Sq aj) (bN:Int) (dp:Nat):ag:=aA aw ((lv aw (vl aw (vl aw (nx aw aG 2).2 bk).2 bk).2 bk bN dp).2)
noncomputable abbrev AF (aw:Sq aj) (aG:Sq ah->ah->Sq ah) (bk:Sq ah) (bN:Sq Int) (dp:Nat) (fq:Int) (gH:Nat):ag:=bf 0 2 aw.1 9 ((aG bk (lv bN (vl bN (vl bN (nx bN dp 2).2 aw).2 aw).2 aw fq gH).1).1) fq (↑gH:Int)
noncomputable abbrev uY (aw:Sq ah->ah->Sq ah) (aG:Sq ah) (bk:Sq Int) (bN:Nat) (dp:Sq aj) (fq:Int) (gH:Nat):ag:=bZ (aw aG (lv bk (vl bk (vl bk (nx bk bN 2).2 dp).2 dp).2 dp fq gH).1)
noncomputable abbrev Bt (aw:Sq Int) (aG:Nat) (bk:Sq aj) (bN:Sq ah):List C:=fL 4 (vl aw (nx aw aG 2).2 bk).1 (vl aw (vl aw (nx aw aG 2).2 bk).2 bk).1 0 10 (Int.ofNat bN.1)
noncomputable abbrev Pu (aw:Sq Int) (aG:Nat) (bk:Sq aj) (bN:Int) (dp:Nat) (fq:Sq ah->ah->Sq ah) (gH:Sq ah):List ag:=[(vd aw aG bk bN dp),(AF bk fq gH aw aG bN dp),(aH bk),.dead,jT,.dead,.dead,.dead,(.box (Bt aw aG bk gH)),(uY fq gH aw aG bk bN dp)]
noncomputable abbrev Jn (aw:Sq Int) (aG:Nat) (bk:Sq aj) (bN:Int) (dp:Nat) (fq:Sq aj->aj->Sq aj) (gH:Sq ah) (uV:Sq ah->ah->Sq ah):List ag:=[(vd aw aG bk bN dp),(bf 0 10 ((fq bk (dZ 4 (vl aw (nx aw aG 2).2 bk).1 (vl aw (vl aw (nx aw aG 2).2 bk).2 bk).1 0 10 (Int.ofNat gH.1))).1) 9 ((uV gH (lv aw (vl aw (vl aw (nx aw aG 2).2 bk).2 bk).2 bk bN dp).1).1) bN (↑dp:Int)),.dead,.dead,jT,.dead,.dead,.dead,(.box (Bt aw aG bk gH)),(uY uV gH aw aG bk bN dp),(aH (fq bk (dZ 4 (vl aw (nx aw aG 2).2 bk).1 (vl aw (vl aw (nx aw aG 2).2 bk).2 bk).1 0 10 (Int.ofNat gH.1))))]
noncomputable abbrev C5 (aw:Sq aj):aK:=[ei,de,(6,((eh aw),[]))]
noncomputable abbrev BT (aw:Sq Int) (aG:Nat) (bk:Sq aj):ag:=.box (fL 4 (vl aw (nx aw aG 2).2 bk).1 (vl aw (vl aw (nx aw aG 2).2 bk).2 bk).1 0 11 0)
noncomputable abbrev CU (aw:Sq Int) (aG:Nat) (bk:Sq aj) (bN:Sq ah):List C:=fL 4 (vl aw (nx aw aG 2).2 bk).1 (vl aw (vl aw (nx aw aG 2).2 bk).2 bk).1 0 11 (Int.ofNat bN.1)
noncomputable abbrev Ni (aw:Sq Int) (aG:Nat) (bk:Sq aj) (bN:Int) (dp:Nat) (fq:Sq ah->ah->Sq ah) (gH:Sq ah):List ag:=[(vd aw aG bk bN dp),(AF bk fq gH aw aG bN dp),(aH bk),.dead,jT,.dead,.dead,.dead,(.box (CU aw aG bk gH)),(uY fq gH aw aG bk bN dp)]
noncomputable abbrev Jo (aw:Sq Int) (aG:Nat) (bk:Sq aj) (bN:Int) (dp:Nat) (fq:Sq aj->aj->Sq aj) (gH:Sq ah) (uV:Sq ah->ah->Sq ah):List ag:=[(vd aw aG bk bN dp),(bf 0 10 ((fq bk (dZ 4 (vl aw (nx aw aG 2).2 bk).1 (vl aw (vl aw (nx aw aG 2).2 bk).2 bk).1 0 11 (Int.ofNat gH.1))).1) 9 ((uV gH (lv aw (vl aw (vl aw (nx aw aG 2).2 bk).2 bk).2 bk bN dp).1).1) bN (↑dp:Int)),.dead,.dead,jT,.dead,.dead,.dead,(.box (CU aw aG bk gH)),(uY uV gH aw aG bk bN dp),(aH (fq bk (dZ 4 (vl aw (nx aw aG 2).2 bk).1 (vl aw (vl aw (nx aw aG 2).2 bk).2 bk).1 0 11 (Int.ofNat gH.1))))]
theorem Uu (L:LP) (QE:D->List ag->Prop) (sn:Sq aj->aj->Sq aj) (sx:Sq ah->ah->Sq ah) (l:Sq Int) (p:Nat) (ins:Sq aj) (aa:Sq ah) (fuel:Int) (param:Nat)  (h:(WC 13 j3 [(aA l p),(cO ins aa fuel param),(aH ins),(bZ aa),jT,.dead,.dead,.dead,.dead] (mh l p) 0 (aA l ((nx l p 2).2))/\nd (cM (nx l p 2).1 2) (br ((nx l p 2).1.toNat.beq 0) ((WC 17 dz [(gg l p),(cO ins aa fuel param),(aH ins),(bZ aa),jT,.dead,.dead,.dead,.dead] (lj l p ins) 0 (aA l ((vl l (nx l p 2).2 ins).2))/\(WC 17 dz [(oN l p ins),(cO ins aa fuel param),(aH ins),(bZ aa),jT,.dead,.dead,.dead,.dead] (uv l p ins) 0 (aA l ((vl l (vl l (nx l p 2).2 ins).2 ins).2))/\(WC 13 j3 [(aA l p),(cO ins aa fuel param),(aH ins),(bZ aa),.dead,.dead,.dead,.dead,.dead] (mh l p) 0 (aA l ((nx l p 2).2))/\nd (cM (nx l p 2).1 2) (br ((nx l p 2).1.toNat.beq 0) ((WC 17 dz (Cg l p ins aa fuel param) (lj l p ins) 0 (aA l ((vl l (nx l p 2).2 ins).2))/\(WC 17 dz (Cb l p ins aa fuel param) (uv l p ins) 0 (aA l ((vl l (vl l (nx l p 2).2 ins).2 ins).2))/\(LC 15 dz [(B5 l p ins),(cO ins aa fuel param),(aH ins),(bZ aa),jT,.dead,.dead,.dead,(Dy l p ins)] (je aa) [(vd l p ins fuel param),(AF ins sx aa l p fuel param),(aH ins),.dead,jT,.dead,.dead,.dead,(Dy l p ins),(uY sx aa l p ins fuel param)]/\(LC 14 [(.c (.rt 1 0 0)),(.a (Bt l p ins aa))] (Pu l p ins fuel param sx aa) (eh ins) (Jn l p ins fuel param sn aa sx)/\L (ai 16 18) ⟨(C5 ins),(Jn l p ins fuel param sn aa sx),[]⟩))))) (br ((nx l p 2).1.toNat.beq 1) ((WC 17 dz (Cg l p ins aa fuel param) (lj l p ins) 0 (aA l ((vl l (nx l p 2).2 ins).2))/\(WC 17 dz (Cb l p ins aa fuel param) (uv l p ins) 0 (aA l ((vl l (vl l (nx l p 2).2 ins).2 ins).2))/\(LC 15 dz [(B5 l p ins),(cO ins aa fuel param),(aH ins),(bZ aa),jT,.dead,.dead,.dead,(BT l p ins)] (je aa) [(vd l p ins fuel param),(AF ins sx aa l p fuel param),(aH ins),.dead,jT,.dead,.dead,.dead,(BT l p ins),(uY sx aa l p ins fuel param)]/\(LC 14 [(.c (.rt 1 0 0)),(.a (CU l p ins aa))] (Ni l p ins fuel param sx aa) (eh ins) (Jo l p ins fuel param sn aa sx)/\L (ai 16 18) ⟨(C5 ins),(Jo l p ins fuel param sn aa sx),[]⟩))))) (False))))))) (br ((nx l p 2).1.toNat.beq 1) ((WC 17 dz [(gg l p),(cO ins aa fuel param),(aH ins),(bZ aa),jT,.dead,.dead,.dead,.dead] (lj l p ins) 0 (aA l ((vl l (nx l p 2).2 ins).2))/\(WC 17 dz [(oN l p ins),(cO ins aa fuel param),(aH ins),(bZ aa),jT,.dead,.dead,.dead,.dead] (uv l p ins) 0 (aA l ((vl l (vl l (nx l p 2).2 ins).2 ins).2))/\(WC 13 j3 [(aA l p),(cO ins aa fuel param),(aH ins),(bZ aa),.dead,.dead,.dead,.dead,.dead] (mh l p) 0 (aA l ((nx l p 2).2))/\nd (cM (nx l p 2).1 2) (br ((nx l p 2).1.toNat.beq 0) ((WC 17 dz (Cg l p ins aa fuel param) (lj l p ins) 0 (aA l ((vl l (nx l p 2).2 ins).2))/\(WC 17 dz (Cb l p ins aa fuel param) (uv l p ins) 0 (aA l ((vl l (vl l (nx l p 2).2 ins).2 ins).2))/\(LC 15 dz [(B5 l p ins),(cO ins aa fuel param),(aH ins),(bZ aa),jT,.dead,.dead,.dead,(Dy l p ins)] (je aa) [(vd l p ins fuel param),(AF ins sx aa l p fuel param),(aH ins),.dead,jT,.dead,.dead,.dead,(Dy l p ins),(uY sx aa l p ins fuel param)]/\(LC 14 [(.c (.rt 1 0 0)),(.a (Bt l p ins aa))] (Pu l p ins fuel param sx aa) (eh ins) (Jn l p ins fuel param sn aa sx)/\L (ai 16 18) ⟨(C5 ins),(Jn l p ins fuel param sn aa sx),[]⟩))))) (br ((nx l p 2).1.toNat.beq 1) ((WC 17 dz (Cg l p ins aa fuel param) (lj l p ins) 0 (aA l ((vl l (nx l p 2).2 ins).2))/\(WC 17 dz (Cb l p ins aa fuel param) (uv l p ins) 0 (aA l ((vl l (vl l (nx l p 2).2 ins).2 ins).2))/\(LC 15 dz [(B5 l p ins),(cO ins aa fuel param),(aH ins),(bZ aa),jT,.dead,.dead,.dead,(BT l p ins)] (je aa) [(vd l p ins fuel param),(AF ins sx aa l p fuel param),(aH ins),.dead,jT,.dead,.dead,.dead,(BT l p ins),(uY sx aa l p ins fuel param)]/\(LC 14 [(.c (.rt 1 0 0)),(.a (CU l p ins aa))] (Ni l p ins fuel param sx aa) (eh ins) (Jo l p ins fuel param sn aa sx)/\L (ai 16 18) ⟨(C5 ins),(Jo l p ins fuel param sn aa sx),[]⟩))))) (False))))))) (False))))):cB (nk l sn sx) 16 fG L QE 15 (DH sn sx l p ins aa fuel param ):=km h
noncomputable abbrev tB (aw:Sq Int) (aG:Nat) (bk:Sq aj) (bN:Sq ah) (dp:Int) (fq:Nat):List ag:=[aA aw aG,bf 0 5 bk.n 4 bN.n dp fq,.dead,.dead,bZ bN,aH bk]
noncomputable def wP (sn:Sq aj->aj->Sq aj) (sx:Sq ah->ah->Sq ah) (l:Sq Int) (p:Nat) (ins:Sq aj) (aa:Sq ah) (fuel:Int) (param:Nat) (c:Int):VS:=⟨[kS,jq,(6,int c,[])],(tB l p ins aa fuel param),[]⟩
noncomputable abbrev iP (aw:Sq aj) (aG:Sq ah) (bk:Int) (bN:Nat):ag:=bf 0 5 aw.1 4 aG.1 bk (↑bN:Int)
noncomputable abbrev tN (aw:Sq Int) (aG:Nat) (bk:Sq aj) (bN:Sq ah) (dp:Int) (fq:Nat):List ag:=[(aA aw aG),(iP bk bN dp fq),.dead,.dead,(bZ bN),(aH bk)]
theorem VY (L:LP) (QE:D->List ag->Prop) (sn:Sq aj->aj->Sq aj) (sx:Sq ah->ah->Sq ah) (l:Sq Int) (p:Nat) (ins:Sq aj) (aa:Sq ah) (fuel:Int) (param:Nat) (c:Int) (h:(WC 13 j3 (tN l p ins aa fuel param) (mh l p) 0 (aA l ((nx l p 2).2))/\(LC 15 dz [(gg l p),(iP ins aa fuel param),.dead,.dead,(bZ aa),(aH ins),(.box (fL 5 c 0 0 (nx l p 2).1 0))] (je aa) [(aA l ((lv l (nx l p 2).2 ins fuel param).2)),(bf 0 5 ins.1 7 ((sx aa (lv l (nx l p 2).2 ins fuel param).1).1) fuel (↑param:Int)),.dead,.dead,.dead,(aH ins),(.box (fL 5 c 0 0 (nx l p 2).1 0)),(bZ (sx aa (lv l (nx l p 2).2 ins fuel param).1))]/\(LC 14 [(.c (.rt 1 0 0)),(.a (fL 5 c 0 0 (nx l p 2).1 (Int.ofNat aa.1)))] [(aA l ((lv l (nx l p 2).2 ins fuel param).2)),(bf 0 5 ins.1 7 ((sx aa (lv l (nx l p 2).2 ins fuel param).1).1) fuel (↑param:Int)),.dead,.dead,.dead,(aH ins),(.box (fL 5 c 0 0 (nx l p 2).1 (Int.ofNat aa.1))),(bZ (sx aa (lv l (nx l p 2).2 ins fuel param).1))] (eh ins) [(aA l ((lv l (nx l p 2).2 ins fuel param).2)),(bf 0 8 ((sn ins (dZ 5 c 0 0 (nx l p 2).1 (Int.ofNat aa.1))).1) 7 ((sx aa (lv l (nx l p 2).2 ins fuel param).1).1) fuel (↑param:Int)),.dead,.dead,.dead,.dead,(.box (fL 5 c 0 0 (nx l p 2).1 (Int.ofNat aa.1))),(bZ (sx aa (lv l (nx l p 2).2 ins fuel param).1)),(aH (sn ins (dZ 5 c 0 0 (nx l p 2).1 (Int.ofNat aa.1))))]/\QE (.t []) [(aA l ((lv l (nx l p 2).2 ins fuel param).2)),(bf 0 8 ((sn ins (dZ 5 c 0 0 (nx l p 2).1 (Int.ofNat aa.1))).1) 7 ((sx aa (lv l (nx l p 2).2 ins fuel param).1).1) fuel (↑param:Int)),.dead,.dead,.dead,.dead,(.box (fL 5 c 0 0 (nx l p 2).1 (Int.ofNat aa.1))),(bZ (sx aa (lv l (nx l p 2).2 ins fuel param).1)),(aH (sn ins (dZ 5 c 0 0 (nx l p 2).1 (Int.ofNat aa.1))))])))):cB (nk l sn sx) 16 fG L QE 18 (wP sn sx l p ins aa fuel param c):=km h
noncomputable def wK (sn:Sq aj->aj->Sq aj) (sx:Sq ah->ah->Sq ah) (l:Sq Int) (p:Nat) (ins:Sq aj) (aa:Sq ah) (fuel:Int) (param:Nat)  : VS:=(sE l p ins aa fuel param)
noncomputable abbrev KG (aw:Sq Int) (aG:Nat) (bk:Sq aj) (bN:Int) (dp:Nat) (fq:Sq aj->aj->Sq aj) (gH:Sq ah) (uV:Sq ah->ah->Sq ah):List ag:=[(aA aw ((fD aw aG bk bN dp).2)),(bf 0 5 ((fq bk (jl aw aG bk dp gH.1)).1) 4 ((uV gH (fD aw aG bk bN dp).1).1) bN (↑dp:Int)),.dead,.dead,(bZ (uV gH (fD aw aG bk bN dp).1)),(aH (fq bk (jl aw aG bk dp gH.1)))]
theorem UR (L:LP) (QE:D->List ag->Prop) (sn:Sq aj->aj->Sq aj) (sx:Sq ah->ah->Sq ah) (l:Sq Int) (p:Nat) (ins:Sq aj) (aa:Sq ah) (fuel:Int) (param:Nat)  (h:(LC 29 dz (nX l p ins aa fuel param) (int ((iG l p ins param).1)) (KG l p ins fuel param sn aa sx)/\L (ai 16 24) ⟨[ei,de,(8,((int ((iG l p ins param).1)),[]))],(KG l p ins fuel param sn aa sx),[]⟩)):cB (nk l sn sx) 16 fG L QE 23 (wK sn sx l p ins aa fuel param ):=km h
noncomputable def Bn (sn:Sq aj->aj->Sq aj) (sx:Sq ah->ah->Sq ah) (l:Sq Int) (p:Nat) (ins:Sq aj) (aa:Sq ah) (fuel:Int) (param:Nat) (c:Int):VS:=⟨[kS,jq,(8,int c,[])],(tB l p ins aa fuel param),[]⟩
theorem SY (L:LP) (QE:D->List ag->Prop) (sn:Sq aj->aj->Sq aj) (sx:Sq ah->ah->Sq ah) (l:Sq Int) (p:Nat) (ins:Sq aj) (aa:Sq ah) (fuel:Int) (param:Nat) (c:Int) (h:(WC 13 j3 (tN l p ins aa fuel param) (mh l p) 0 (aA l ((nx l p 2).2))/\(LC 14 [(.c (.rt 1 0 0)),(.a (fL 10 c 0 0 (nx l p 2).1 (-1)))] [(gg l p),(iP ins aa fuel param),.dead,.dead,(bZ aa),(aH ins)] (eh ins) [(gg l p),(bf 0 6 ((sn ins (dZ 10 c 0 0 (nx l p 2).1 (-1))).1) 4 aa.1 fuel (↑param:Int)),.dead,.dead,(bZ aa),.dead,(aH (sn ins (dZ 10 c 0 0 (nx l p 2).1 (-1))))]/\QE (.t []) [(aA l ((nx l p 2).2)),(bf 0 6 ((sn ins (dZ 10 c 0 0 (nx l p 2).1 (-1))).1) 4 aa.1 fuel (↑param:Int)),.dead,.dead,(bZ aa),.dead,(aH (sn ins (dZ 10 c 0 0 (nx l p 2).1 (-1))))]))):cB (nk l sn sx) 16 fG L QE 24 (Bn sn sx l p ins aa fuel param c):=km h
noncomputable def CZ (sn:Sq aj->aj->Sq aj) (sx:Sq ah->ah->Sq ah) (l:Sq Int) (p:Nat) (ins:Sq aj) (aa:Sq ah) (fuel:Int) (param:Nat)  : VS:=(sE l p ins aa fuel param)
theorem TF (L:LP) (QE:D->List ag->Prop) (sn:Sq aj->aj->Sq aj) (sx:Sq ah->ah->Sq ah) (l:Sq Int) (p:Nat) (ins:Sq aj) (aa:Sq ah) (fuel:Int) (param:Nat)  (h:(LC 29 dz (nX l p ins aa fuel param) (int ((iG l p ins param).1)) (KG l p ins fuel param sn aa sx)/\L (ai 16 27) ⟨[ei,de,(9,((int ((iG l p ins param).1)),[]))],(KG l p ins fuel param sn aa sx),[]⟩)):cB (nk l sn sx) 16 fG L QE 26 (CZ sn sx l p ins aa fuel param ):=km h
noncomputable def C6 (sn:Sq aj->aj->Sq aj) (sx:Sq ah->ah->Sq ah) (l:Sq Int) (p:Nat) (ins:Sq aj) (aa:Sq ah) (fuel:Int) (param:Nat) (c:Int):VS:=⟨[kS,jq,(9,int c,[])],(tB l p ins aa fuel param),[]⟩
theorem V0 (L:LP) (QE:D->List ag->Prop) (sn:Sq aj->aj->Sq aj) (sx:Sq ah->ah->Sq ah) (l:Sq Int) (p:Nat) (ins:Sq aj) (aa:Sq ah) (fuel:Int) (param:Nat) (c:Int) (h:(WC 17 dz (tN l p ins aa fuel param) (int ((vl l p ins).1)) 0 (aA l ((vl l p ins).2))/\(WC 13 j3 [(aA l ((vl l p ins).2)),(iP ins aa fuel param),.dead,.dead,(bZ aa),(aH ins)] (int ((nx l (vl l p ins).2 2).1)) 0 (aA l ((nx l (vl l p ins).2 2).2))/\(LC 14 [(.c (.rt 1 0 0)),(.a (fL 11 c (vl l p ins).1 0 (nx l (vl l p ins).2 2).1 (-1)))] [(wR l p ins),(iP ins aa fuel param),.dead,.dead,(bZ aa),(aH ins)] (eh ins) [(wR l p ins),(bf 0 6 ((sn ins (dZ 11 c (vl l p ins).1 0 (nx l (vl l p ins).2 2).1 (-1))).1) 4 aa.1 fuel (↑param:Int)),.dead,.dead,(bZ aa),.dead,(aH (sn ins (dZ 11 c (vl l p ins).1 0 (nx l (vl l p ins).2 2).1 (-1))))]/\QE (.t []) [(aA l ((nx l (vl l p ins).2 2).2)),(bf 0 6 ((sn ins (dZ 11 c (vl l p ins).1 0 (nx l (vl l p ins).2 2).1 (-1))).1) 4 aa.1 fuel (↑param:Int)),.dead,.dead,(bZ aa),.dead,(aH (sn ins (dZ 11 c (vl l p ins).1 0 (nx l (vl l p ins).2 2).1 (-1))))])))):cB (nk l sn sx) 16 fG L QE 27 (C6 sn sx l p ins aa fuel param c):=km h
noncomputable def wg (sn:Sq aj->aj->Sq aj) (sx:Sq ah->ah->Sq ah) (l:Sq Int) (p:Nat) (ins:Sq aj) (aa:Sq ah) (fuel:Int) (param:Nat)  : VS:=(sE l p ins aa fuel param)
noncomputable abbrev Oq (aw:Sq Int) (aG:Nat) (bk:Sq aj) (bN:Int) (dp:Nat) (fq:Sq aj->aj->Sq aj) (gH:Sq ah) (uV:Sq ah->ah->Sq ah):List ag:=[(aA aw ((lv aw aG bk bN dp).2)),(bf 0 6 ((fq bk (dZ 15 0 0 0 32 (Int.ofNat gH.1))).1) 5 ((uV gH (lv aw aG bk bN dp).1).1) bN (↑dp:Int)),.dead,.dead,(.box (fL 15 0 0 0 32 (Int.ofNat gH.1))),(bZ (uV gH (lv aw aG bk bN dp).1)),(aH (fq bk (dZ 15 0 0 0 32 (Int.ofNat gH.1))))]
theorem Uh (L:LP) (QE:D->List ag->Prop) (sn:Sq aj->aj->Sq aj) (sx:Sq ah->ah->Sq ah) (l:Sq Int) (p:Nat) (ins:Sq aj) (aa:Sq ah) (fuel:Int) (param:Nat)  (h:(LC 15 dz [(aA l p),(cO ins aa fuel param),(aH ins),(bZ aa),(.box (fL 15 0 0 0 32 0))] (je aa) [(aA l ((lv l p ins fuel param).2)),(bf 0 2 ins.1 5 ((sx aa (lv l p ins fuel param).1).1) fuel (↑param:Int)),(aH ins),.dead,(.box (fL 15 0 0 0 32 0)),(bZ (sx aa (lv l p ins fuel param).1))]/\(LC 14 [(.c (.rt 1 0 0)),(.a (fL 15 0 0 0 32 (Int.ofNat aa.1)))] [(aA l ((lv l p ins fuel param).2)),(bf 0 2 ins.1 5 ((sx aa (lv l p ins fuel param).1).1) fuel (↑param:Int)),(aH ins),.dead,(.box (fL 15 0 0 0 32 (Int.ofNat aa.1))),(bZ (sx aa (lv l p ins fuel param).1))] (eh ins) (Oq l p ins fuel param sn aa sx)/\L (ai 16 33) ⟨[ei,de],(Oq l p ins fuel param sn aa sx),[]⟩))):cB (nk l sn sx) 16 fG L QE 30 (wg sn sx l p ins aa fuel param ):=km h
noncomputable def BW (sn:Sq aj->aj->Sq aj) (sx:Sq ah->ah->Sq ah) (l:Sq Int) (p:Nat) (ins:Sq aj) (aa:Sq ah) (fuel:Int) (param:Nat)  : VS:=⟨[kS,jq],(tB l p ins aa fuel param),[]⟩
noncomputable abbrev Xc (aw:Sq Int) (aG:Nat) (bk:Sq aj->aj->Sq aj) (bN:Sq aj) (dp:Sq ah) (fq:Int) (gH:Nat):List ag:=[(aA aw aG),(bf 0 6 ((bk bN { op:=Int.ofNat 16,a:=Int.ofNat 0,b:=Int.ofNat 0,c:=Int.ofNat 0,n:=Int.ofNat 0,args:={ n:=0,get:=λx=>Int.ofNat 0 },k:={ kind:=Int.ofNat 0,n:=Int.ofNat 0,s:={ data:={ toList:=[] } } },names:={ n:=2,get:=λi=>rS (cw (zN.get i)) },place:={ fn:=Int.ofNat 0,line:=Int.ofNat 0 },exit:=Int.negSucc 0,once:=false }).1) 4 dp.1 fq (↑gH:Int)),.dead,.dead,(bZ dp),.dead,(aH (bk bN { op:=Int.ofNat 16,a:=Int.ofNat 0,b:=Int.ofNat 0,c:=Int.ofNat 0,n:=Int.ofNat 0,args:={ n:=0,get:=λx=>Int.ofNat 0 },k:={ kind:=Int.ofNat 0,n:=Int.ofNat 0,s:={ data:={ toList:=[] } } },names:={ n:=2,get:=λi=>rS (cw (zN.get i)) },place:={ fn:=Int.ofNat 0,line:=Int.ofNat 0 },exit:=Int.negSucc 0,once:=false }))]
theorem Tl (L:LP) (QE:D->List ag->Prop) (sn:Sq aj->aj->Sq aj) (sx:Sq ah->ah->Sq ah) (l:Sq Int) (p:Nat) (ins:Sq aj) (aa:Sq ah) (fuel:Int) (param:Nat)  (h:(LC 24 [] [] (.c sv) []/\(LC 14 [(.c (.rt 1 0 0)),(.a [(ci 16),(ci 0),(ci 0),(ci 0),(ci 0),fi,(ci 0),(ci 0),ff,sv,(ci 0),(ci 0),(ci (-1)),dS])] (tN l p ins aa fuel param) (eh ins) (Xc l p sn ins aa fuel param)/\L (ai 16 34) ⟨[ei,de,(11,((eh ins),[]))],(Xc l p sn ins aa fuel param),[]⟩))):cB (nk l sn sx) 16 fG L QE 33 (BW sn sx l p ins aa fuel param ):=km h
noncomputable def Bk (sn:Sq aj->aj->Sq aj) (sx:Sq ah->ah->Sq ah) (l:Sq Int) (p:Nat) (ins:Sq aj) (aa:Sq ah) (fuel:Int) (param:Nat) (c:Int):VS:=⟨[kS,jq,(11,int c,[])],(tB l p ins aa fuel param),[]⟩
noncomputable abbrev Qe (aw:Sq Int) (aG bk:Nat) (bN:Sq aj->aj->Sq aj) (dp:Sq aj) (fq:Int) (gH:Sq ah) (uV:Int):List ag:=[(aA aw ((nx aw (nx aw aG (↑bk:Int)).2 2).2)),(bf 0 6 ((bN dp (dZ 11 fq (nx aw aG (↑bk:Int)).1 0 (nx aw (nx aw aG (↑bk:Int)).2 2).1 (-1))).1) 4 gH.1 uV (↑bk:Int)),.dead,.dead,(bZ gH),.dead,(aH (bN dp (dZ 11 fq (nx aw aG (↑bk:Int)).1 0 (nx aw (nx aw aG (↑bk:Int)).2 2).1 (-1))))]
theorem T3 (L:LP) (QE:D->List ag->Prop) (sn:Sq aj->aj->Sq aj) (sx:Sq ah->ah->Sq ah) (l:Sq Int) (p:Nat) (ins:Sq aj) (aa:Sq ah) (fuel:Int) (param:Nat) (c:Int) (h:(WC 13 [(.c (.rt 0 0 0)),(kh param)] (tN l p ins aa fuel param) (int ((nx l p (↑param:Int)).1)) 0 (aA l ((nx l p (↑param:Int)).2))/\(WC 13 j3 [(aA l ((nx l p (↑param:Int)).2)),(iP ins aa fuel param),.dead,.dead,(bZ aa),(aH ins)] (int ((nx l (nx l p (↑param:Int)).2 2).1)) 0 (aA l ((nx l (nx l p (↑param:Int)).2 2).2))/\(LC 14 [(.c (.rt 1 0 0)),(.a (fL 11 c (nx l p (↑param:Int)).1 0 (nx l (nx l p (↑param:Int)).2 2).1 (-1)))] [(aA l ((nx l (nx l p (↑param:Int)).2 2).2)),(iP ins aa fuel param),.dead,.dead,(bZ aa),(aH ins)] (eh ins) (Qe l p param sn ins c aa fuel)/\L (ai 16 35) ⟨[ei,de,(11,((int c),[]))],(Qe l p param sn ins c aa fuel),[]⟩)))):cB (nk l sn sx) 16 fG L QE 34 (Bk sn sx l p ins aa fuel param c):=km h
noncomputable def B2 (sn:Sq aj->aj->Sq aj) (sx:Sq ah->ah->Sq ah) (l:Sq Int) (p:Nat) (ins:Sq aj) (aa:Sq ah) (fuel:Int) (param:Nat) (c:Int):VS:=⟨[kS,jq,(11,int c,[])],(tB l p ins aa fuel param),[]⟩
theorem TP (L:LP) (QE:D->List ag->Prop) (sn:Sq aj->aj->Sq aj) (sx:Sq ah->ah->Sq ah) (l:Sq Int) (p:Nat) (ins:Sq aj) (aa:Sq ah) (fuel:Int) (param:Nat) (c:Int) (h:(WC 13 j3 (tN l p ins aa fuel param) (mh l p) 0 (aA l ((nx l p 2).2))/\(LC 14 [(.c (.rt 1 0 0)),(.a (fL 10 c 0 0 (nx l p 2).1 (-1)))] [(gg l p),(iP ins aa fuel param),.dead,.dead,(bZ aa),(aH ins)] (eh ins) [(gg l p),(bf 0 6 ((sn ins (dZ 10 c 0 0 (nx l p 2).1 (-1))).1) 4 aa.1 fuel (↑param:Int)),.dead,.dead,(bZ aa),.dead,(aH (sn ins (dZ 10 c 0 0 (nx l p 2).1 (-1))))]/\QE (.t []) [(aA l ((nx l p 2).2)),(bf 0 6 ((sn ins (dZ 10 c 0 0 (nx l p 2).1 (-1))).1) 4 aa.1 fuel (↑param:Int)),.dead,.dead,(bZ aa),.dead,(aH (sn ins (dZ 10 c 0 0 (nx l p 2).1 (-1))))]))):cB (nk l sn sx) 16 fG L QE 35 (B2 sn sx l p ins aa fuel param c):=km h
noncomputable def DF (sn:Sq aj->aj->Sq aj) (sx:Sq ah->ah->Sq ah) (l:Sq Int) (p:Nat) (ins:Sq aj) (aa:Sq ah) (fuel:Int) (param:Nat)  : VS:=(sE l p ins aa fuel param)
noncomputable abbrev IQ (aw:Sq Int) (aG:Nat) (bk:Sq aj) (bN:Sq ah):List C:=fL 9 (vl aw aG bk).1 (vl aw (vl aw aG bk).2 bk).1 0 0 (Int.ofNat bN.1)
noncomputable abbrev WZ (aw:Sq Int) (aG:Nat) (bk:Sq aj) (bN:Int) (dp:Nat) (fq:Sq aj->aj->Sq aj) (gH:Sq ah) (uV:Sq ah->ah->Sq ah):List ag:=[(aA aw ((lv aw (vl aw (vl aw aG bk).2 bk).2 bk bN dp).2)),(bf 0 6 ((fq bk (dZ 9 (vl aw aG bk).1 (vl aw (vl aw aG bk).2 bk).1 0 0 (Int.ofNat gH.1))).1) 5 ((uV gH (lv aw (vl aw (vl aw aG bk).2 bk).2 bk bN dp).1).1) bN (↑dp:Int)),.dead,.dead,(.box (IQ aw aG bk gH)),(bZ (uV gH (lv aw (vl aw (vl aw aG bk).2 bk).2 bk bN dp).1)),(aH (fq bk (dZ 9 (vl aw aG bk).1 (vl aw (vl aw aG bk).2 bk).1 0 0 (Int.ofNat gH.1))))]
theorem TJ (L:LP) (QE:D->List ag->Prop) (sn:Sq aj->aj->Sq aj) (sx:Sq ah->ah->Sq ah) (l:Sq Int) (p:Nat) (ins:Sq aj) (aa:Sq ah) (fuel:Int) (param:Nat)  (h:(WC 17 dz (nX l p ins aa fuel param) (int ((vl l p ins).1)) 0 (aA l ((vl l p ins).2))/\(WC 17 dz [(aA l ((vl l p ins).2)),(cO ins aa fuel param),(aH ins),(bZ aa)] (int ((vl l (vl l p ins).2 ins).1)) 0 (aA l ((vl l (vl l p ins).2 ins).2))/\(LC 15 dz [(aA l ((vl l (vl l p ins).2 ins).2)),(cO ins aa fuel param),(aH ins),(bZ aa),(.box (fL 9 (vl l p ins).1 (vl l (vl l p ins).2 ins).1 0 0 0))] (je aa) [(aA l ((lv l (vl l (vl l p ins).2 ins).2 ins fuel param).2)),(bf 0 2 ins.1 5 ((sx aa (lv l (vl l (vl l p ins).2 ins).2 ins fuel param).1).1) fuel (↑param:Int)),(aH ins),.dead,(.box (fL 9 (vl l p ins).1 (vl l (vl l p ins).2 ins).1 0 0 0)),(bZ (sx aa (lv l (vl l (vl l p ins).2 ins).2 ins fuel param).1))]/\(LC 14 [(.c (.rt 1 0 0)),(.a (IQ l p ins aa))] [(aA l ((lv l (vl l (vl l p ins).2 ins).2 ins fuel param).2)),(bf 0 2 ins.1 5 ((sx aa (lv l (vl l (vl l p ins).2 ins).2 ins fuel param).1).1) fuel (↑param:Int)),(aH ins),.dead,(.box (IQ l p ins aa)),(bZ (sx aa (lv l (vl l (vl l p ins).2 ins).2 ins fuel param).1))] (eh ins) (WZ l p ins fuel param sn aa sx)/\L (ai 16 40) ⟨[ei,de,(12,((.c (.rt 4 0 0)),[]))],(WZ l p ins fuel param sn aa sx),[]⟩))))):cB (nk l sn sx) 16 fG L QE 37 (DF sn sx l p ins aa fuel param ):=km h
noncomputable def BK (sn:Sq aj->aj->Sq aj) (sx:Sq ah->ah->Sq ah) (l:Sq Int) (p:Nat) (ins:Sq aj) (aa:Sq ah) (fuel:Int) (param:Nat) (x:aj):VS:=⟨[kS,jq,(12,.c (.rt 6 0 0),[])],[aA l p,bf 0 5 ins.n 4 aa.n fuel param,.dead,.dead,bZ aa,aH ins,.box (lift (aN x))],[]⟩
noncomputable abbrev Sh (aw:Sq Int) (aG:Nat) (bk:Sq aj) (bN:Sq aj->aj->Sq aj) (dp:aj) (fq:Sq ah) (gH:Int) (uV:Nat):List ag:=[(oN aw aG bk),(bf 0 9 ((bN bk (dZ 13 dp.2 dp.3 (vl aw (nx aw aG 2).2 bk).1 0 (-1))).1) 4 fq.1 gH (↑uV:Int)),.dead,.dead,(bZ fq),.dead,(ez dp),.dead,.dead,(aH (bN bk (dZ 13 dp.2 dp.3 (vl aw (nx aw aG 2).2 bk).1 0 (-1))))]
theorem Uf (L:LP) (QE:D->List ag->Prop) (sn:Sq aj->aj->Sq aj) (sx:Sq ah->ah->Sq ah) (l:Sq Int) (p:Nat) (ins:Sq aj) (aa:Sq ah) (fuel:Int) (param:Nat) (x:aj) (h:(WC 13 j3 [(aA l p),(iP ins aa fuel param),.dead,.dead,(bZ aa),(aH ins),(ez x)] (mh l p) 0 (aA l ((nx l p 2).2))/\br ((nx l p 2).1==0) ((LC 14 [(.c (.rt 1 0 0)),(.a (fL 12 x.2 x.3 0 0 (-1)))] [(gg l p),(iP ins aa fuel param),.dead,.dead,(bZ aa),(aH ins),(ez x)] (eh ins) [(gg l p),(bf 0 7 ((sn ins (dZ 12 x.2 x.3 0 0 (-1))).1) 4 aa.1 fuel (↑param:Int)),.dead,.dead,(bZ aa),.dead,(ez x),(aH (sn ins (dZ 12 x.2 x.3 0 0 (-1))))]/\QE (.t []) [(aA l ((nx l p 2).2)),(bf 0 7 ((sn ins (dZ 12 x.2 x.3 0 0 (-1))).1) 4 aa.1 fuel (↑param:Int)),.dead,.dead,(bZ aa),.dead,(.box (lift (aN (x)))),(aH (sn ins (dZ 12 x.2 x.3 0 0 (-1))))])) ((WC 17 dz [(gg l p),(iP ins aa fuel param),.dead,.dead,(bZ aa),(aH ins),(ez x),.dead,.dead] (lj l p ins) 0 (aA l ((vl l (nx l p 2).2 ins).2))/\(LC 14 [(.c (.rt 1 0 0)),(.a (fL 13 x.2 x.3 (vl l (nx l p 2).2 ins).1 0 (-1)))] [(oN l p ins),(iP ins aa fuel param),.dead,.dead,(bZ aa),(aH ins),(ez x),.dead,.dead] (eh ins) (Sh l p ins sn x aa fuel param)/\(WC 17 dz [(gg l p),(iP ins aa fuel param),.dead,.dead,(bZ aa),(aH ins),(ez x),.dead,.dead] (lj l p ins) 0 (aA l ((vl l (nx l p 2).2 ins).2))/\(LC 14 [(.c (.rt 1 0 0)),(.a (fL 13 x.2 x.3 (vl l (nx l p 2).2 ins).1 0 (-1)))] [(oN l p ins),(iP ins aa fuel param),.dead,.dead,(bZ aa),(aH ins),(ez x),.dead,.dead] (eh ins) (Sh l p ins sn x aa fuel param)/\QE (.t []) [(aA l ((vl l (nx l p 2).2 ins).2)),(bf 0 9 ((sn ins (dZ 13 x.2 x.3 (vl l (nx l p 2).2 ins).1 0 (-1))).1) 4 aa.1 fuel (↑param:Int)),.dead,.dead,(bZ aa),.dead,(.box (lift (aN (x)))),.dead,.dead,(aH (sn ins (dZ 13 x.2 x.3 (vl l (nx l p 2).2 ins).1 0 (-1))))]))))))):cB (nk l sn sx) 16 fG L QE 40 (BK sn sx l p ins aa fuel param x):=km h
noncomputable def BS (sn:Sq aj->aj->Sq aj) (sx:Sq ah->ah->Sq ah) (l:Sq Int) (p:Nat) (ins:Sq aj) (aa:Sq ah) (fuel:Int) (param:Nat)  : VS:=(sE l p ins aa fuel param)
noncomputable abbrev O7 (aw:Sq Int) (aG:Nat) (bk:Sq aj) (bN:Int) (dp:Nat) (fq:Sq aj->aj->Sq aj) (gH:Sq ah) (uV:Sq ah->ah->Sq ah):List ag:=[(aA aw ((lv aw (vl aw aG bk).2 bk bN dp).2)),(bf 0 6 ((fq bk (dZ 8 (vl aw aG bk).1 0 0 0 (Int.ofNat gH.1))).1) 5 ((uV gH (lv aw (vl aw aG bk).2 bk bN dp).1).1) bN (↑dp:Int)),.dead,.dead,(.box (fL 8 (vl aw aG bk).1 0 0 0 (Int.ofNat gH.1))),(bZ (uV gH (lv aw (vl aw aG bk).2 bk bN dp).1)),(aH (fq bk (dZ 8 (vl aw aG bk).1 0 0 0 (Int.ofNat gH.1))))]
theorem Tb (L:LP) (QE:D->List ag->Prop) (sn:Sq aj->aj->Sq aj) (sx:Sq ah->ah->Sq ah) (l:Sq Int) (p:Nat) (ins:Sq aj) (aa:Sq ah) (fuel:Int) (param:Nat)  (h:(WC 17 dz (nX l p ins aa fuel param) (int ((vl l p ins).1)) 0 (aA l ((vl l p ins).2))/\(LC 15 dz [(aA l ((vl l p ins).2)),(cO ins aa fuel param),(aH ins),(bZ aa),(.box (fL 8 (vl l p ins).1 0 0 0 0))] (je aa) [(aA l ((lv l (vl l p ins).2 ins fuel param).2)),(bf 0 2 ins.1 5 ((sx aa (lv l (vl l p ins).2 ins fuel param).1).1) fuel (↑param:Int)),(aH ins),.dead,(.box (fL 8 (vl l p ins).1 0 0 0 0)),(bZ (sx aa (lv l (vl l p ins).2 ins fuel param).1))]/\(LC 14 [(.c (.rt 1 0 0)),(.a (fL 8 (vl l p ins).1 0 0 0 (Int.ofNat aa.1)))] [(aA l ((lv l (vl l p ins).2 ins fuel param).2)),(bf 0 2 ins.1 5 ((sx aa (lv l (vl l p ins).2 ins fuel param).1).1) fuel (↑param:Int)),(aH ins),.dead,(.box (fL 8 (vl l p ins).1 0 0 0 (Int.ofNat aa.1))),(bZ (sx aa (lv l (vl l p ins).2 ins fuel param).1))] (eh ins) (O7 l p ins fuel param sn aa sx)/\L (ai 16 47) ⟨[ei,(13,((.c (.rt 4 0 0)),[]))],(O7 l p ins fuel param sn aa sx),[]⟩)))):cB (nk l sn sx) 16 fG L QE 44 (BS sn sx l p ins aa fuel param ):=km h
noncomputable def Ds (sn:Sq aj->aj->Sq aj) (sx:Sq ah->ah->Sq ah) (l:Sq Int) (p:Nat) (ins:Sq aj) (aa:Sq ah) (fuel:Int) (param:Nat) (x:aj):VS:=⟨[kS,(13,.c (.rt 6 0 0),[])],[aA l p,bf 0 5 ins.n 4 aa.n fuel param,.dead,.dead,bZ aa,aH ins,.box (lift (aN x))],[]⟩
theorem VJ (L:LP) (QE:D->List ag->Prop) (sn:Sq aj->aj->Sq aj) (sx:Sq ah->ah->Sq ah) (l:Sq Int) (p:Nat) (ins:Sq aj) (aa:Sq ah) (fuel:Int) (param:Nat) (x:aj) (h:(LC 14 [(.c (.rt 1 0 0)),(.a (fL 14 x.2 0 0 0 (-1)))] [(aA l p),(iP ins aa fuel param),.dead,.dead,(bZ aa),(aH ins),(ez x)] (eh ins) [(aA l p),(bf 0 7 ((sn ins (dZ 14 x.2 0 0 0 (-1))).1) 4 aa.1 fuel (↑param:Int)),.dead,.dead,(bZ aa),.dead,(ez x),(aH (sn ins (dZ 14 x.2 0 0 0 (-1))))]/\QE (.t []) [(aA l p),(bf 0 7 ((sn ins (dZ 14 x.2 0 0 0 (-1))).1) 4 aa.1 fuel (↑param:Int)),.dead,.dead,(bZ aa),.dead,(.box (lift (aN (x)))),(aH (sn ins (dZ 14 x.2 0 0 0 (-1))))])):cB (nk l sn sx) 16 fG L QE 47 (Ds sn sx l p ins aa fuel param x):=km h
noncomputable def Bp (sn:Sq aj->aj->Sq aj) (sx:Sq ah->ah->Sq ah) (l:Sq Int) (p:Nat) (ins:Sq aj) (aa:Sq ah) (fuel:Int) (param:Nat)  : VS:=(sE l p ins aa fuel param)
theorem SF (L:LP) (QE:D->List ag->Prop) (sn:Sq aj->aj->Sq aj) (sx:Sq ah->ah->Sq ah) (l:Sq Int) (p:Nat) (ins:Sq aj) (aa:Sq ah) (fuel:Int) (param:Nat)  (h:(WC 17 dz (nX l p ins aa fuel param) (int ((vl l p ins).1)) 0 (aA l ((vl l p ins).2))/\(WC 13 [(.c (.rt 0 0 0)),(int 4)] [(aA l ((vl l p ins).2)),(cO ins aa fuel param),(aH ins),(bZ aa)] (int ((nx l (vl l p ins).2 4).1)) 0 (aA l ((nx l (vl l p ins).2 4).2))/\(LC 15 dz [(aA l ((nx l (vl l p ins).2 4).2)),(cO ins aa fuel param),(aH ins),(bZ aa),(.box (fL 6 (vl l p ins).1 0 0 (cJ (I.v (Value.int IntKind.i64 (IntKind.i64.wrap (1+(nx l (vl l p ins).2 4).1))))) 0))] (je aa) [(aA l ((lv l (nx l (vl l p ins).2 4).2 ins fuel param).2)),(bf 0 2 ins.1 5 ((sx aa (lv l (nx l (vl l p ins).2 4).2 ins fuel param).1).1) fuel (↑param:Int)),(aH ins),.dead,(.box (fL 6 (vl l p ins).1 0 0 (cJ (I.v (Value.int IntKind.i64 (IntKind.i64.wrap (1+(nx l (vl l p ins).2 4).1))))) 0)),(bZ (sx aa (lv l (nx l (vl l p ins).2 4).2 ins fuel param).1))]/\(LC 14 [(.c (.rt 1 0 0)),(.a (fL 6 (vl l p ins).1 0 0 (cJ (I.v (Value.int IntKind.i64 (IntKind.i64.wrap (1+(nx l (vl l p ins).2 4).1))))) (Int.ofNat aa.1)))] [(aA l ((lv l (nx l (vl l p ins).2 4).2 ins fuel param).2)),(bf 0 2 ins.1 5 ((sx aa (lv l (nx l (vl l p ins).2 4).2 ins fuel param).1).1) fuel (↑param:Int)),(aH ins),.dead,(.box (fL 6 (vl l p ins).1 0 0 (cJ (I.v (Value.int IntKind.i64 (IntKind.i64.wrap (1+(nx l (vl l p ins).2 4).1))))) (Int.ofNat aa.1))),(bZ (sx aa (lv l (nx l (vl l p ins).2 4).2 ins fuel param).1))] (eh ins) [(aA l ((lv l (nx l (vl l p ins).2 4).2 ins fuel param).2)),(bf 0 6 ((sn ins (dZ 6 (vl l p ins).1 0 0 (cJ (I.v (Value.int IntKind.i64 (IntKind.i64.wrap (1+(nx l (vl l p ins).2 4).1))))) (Int.ofNat aa.1))).1) 5 ((sx aa (lv l (nx l (vl l p ins).2 4).2 ins fuel param).1).1) fuel (↑param:Int)),.dead,.dead,(.box (fL 6 (vl l p ins).1 0 0 (cJ (I.v (Value.int IntKind.i64 (IntKind.i64.wrap (1+(nx l (vl l p ins).2 4).1))))) (Int.ofNat aa.1))),(bZ (sx aa (lv l (nx l (vl l p ins).2 4).2 ins fuel param).1)),(aH (sn ins (dZ 6 (vl l p ins).1 0 0 (cJ (I.v (Value.int IntKind.i64 (IntKind.i64.wrap (1+(nx l (vl l p ins).2 4).1))))) (Int.ofNat aa.1))))]/\L (ai 16 52) ⟨[ei,de,(14,((.c (.rt 4 0 0)),[]))],[(aA l ((lv l (nx l (vl l p ins).2 4).2 ins fuel param).2)),(bf 0 6 ((sn ins (dZ 6 (vl l p ins).1 0 0 (cJ (I.v (Value.int IntKind.i64 (IntKind.i64.wrap (1+(nx l (vl l p ins).2 4).1))))) (Int.ofNat aa.1))).1) 5 ((sx aa (lv l (nx l (vl l p ins).2 4).2 ins fuel param).1).1) fuel (↑param:Int)),.dead,.dead,(.box (fL 6 (vl l p ins).1 0 0 (cJ (I.v (Value.int IntKind.i64 (IntKind.i64.wrap (1+(nx l (vl l p ins).2 4).1))))) (Int.ofNat aa.1))),(bZ (sx aa (lv l (nx l (vl l p ins).2 4).2 ins fuel param).1)),(aH (sn ins (dZ 6 (vl l p ins).1 0 0 (cJ (I.v (Value.int IntKind.i64 (IntKind.i64.wrap (1+(nx l (vl l p ins).2 4).1))))) (Int.ofNat aa.1))))],[]⟩))))):cB (nk l sn sx) 16 fG L QE 49 (Bp sn sx l p ins aa fuel param ):=km h
noncomputable def DU (sn:Sq aj->aj->Sq aj) (sx:Sq ah->ah->Sq ah) (l:Sq Int) (p:Nat) (ins:Sq aj) (aa:Sq ah) (fuel:Int) (param:Nat) (x:aj):VS:=⟨[kS,jq,(14,.c (.rt 6 0 0),[])],[aA l p,bf 0 5 ins.n 4 aa.n fuel param,.dead,.dead,bZ aa,aH ins,.box (lift (aN x))],[]⟩
noncomputable abbrev NM (aw:aj) (aG:Sq Int) (bk:Nat):List D:=[(.c (.rt 1 0 0)),(.a [(ci 19),(ci aw.2),(ci 0),(ci 0),(ci 0),fi,(ci 0),(ci 0),ff,fi,(ci 0),(ci ((nx aG bk 3).1)),(ci (-1)),dS])]
theorem VM (L:LP) (QE:D->List ag->Prop) (sn:Sq aj->aj->Sq aj) (sx:Sq ah->ah->Sq ah) (l:Sq Int) (p:Nat) (ins:Sq aj) (aa:Sq ah) (fuel:Int) (param:Nat) (x:aj) (h:(WC 13 [(.c (.rt 0 0 0)),(int 3)] [(aA l p),(iP ins aa fuel param),.dead,.dead,(bZ aa),(aH ins),(ez x),.dead,.dead] (int ((nx l p 3).1)) 0 (aA l ((nx l p 3).2))/\(LC 14 (NM x l p) [(aA l ((nx l p 3).2)),(iP ins aa fuel param),.dead,.dead,(bZ aa),(aH ins),(ez x),.dead,.dead] (eh ins) [(aA l ((nx l p 3).2)),(bf 0 9 ((sn ins { op:=Int.ofNat 19,a:=x.2,b:=Int.ofNat 0,c:=Int.ofNat 0,n:=Int.ofNat 0,args:={ n:=0,get:=λx=>Int.ofNat 0 },k:={ kind:=Int.ofNat 0,n:=Int.ofNat 0,s:={ data:={ toList:=[] } } },names:={ n:=0,get:=λx=>{ data:={ toList:=[] } } },place:={ fn:=Int.ofNat 0,line:=(nx l p 3).1 },exit:=Int.negSucc 0,once:=false }).1) 4 aa.1 fuel (↑param:Int)),.dead,.dead,(bZ aa),.dead,(ez x),.dead,.dead,(aH (sn ins { op:=Int.ofNat 19,a:=x.2,b:=Int.ofNat 0,c:=Int.ofNat 0,n:=Int.ofNat 0,args:={ n:=0,get:=λx=>Int.ofNat 0 },k:={ kind:=Int.ofNat 0,n:=Int.ofNat 0,s:={ data:={ toList:=[] } } },names:={ n:=0,get:=λx=>{ data:={ toList:=[] } } },place:={ fn:=Int.ofNat 0,line:=(nx l p 3).1 },exit:=Int.negSucc 0,once:=false }))]/\(WC 13 [(.c (.rt 0 0 0)),(int 3)] [(aA l p),(iP ins aa fuel param),.dead,.dead,(bZ aa),(aH ins),(ez x),.dead,.dead] (int ((nx l p 3).1)) 0 (aA l ((nx l p 3).2))/\(LC 14 (NM x l p) [(aA l ((nx l p 3).2)),(iP ins aa fuel param),.dead,.dead,(bZ aa),(aH ins),(ez x),.dead,.dead] (eh ins) [(aA l ((nx l p 3).2)),(bf 0 9 ((sn ins { op:=Int.ofNat 19,a:=x.2,b:=Int.ofNat 0,c:=Int.ofNat 0,n:=Int.ofNat 0,args:={ n:=0,get:=λx=>Int.ofNat 0 },k:={ kind:=Int.ofNat 0,n:=Int.ofNat 0,s:={ data:={ toList:=[] } } },names:={ n:=0,get:=λx=>{ data:={ toList:=[] } } },place:={ fn:=Int.ofNat 0,line:=(nx l p 3).1 },exit:=Int.negSucc 0,once:=false }).1) 4 aa.1 fuel (↑param:Int)),.dead,.dead,(bZ aa),.dead,(ez x),.dead,.dead,(aH (sn ins { op:=Int.ofNat 19,a:=x.2,b:=Int.ofNat 0,c:=Int.ofNat 0,n:=Int.ofNat 0,args:={ n:=0,get:=λx=>Int.ofNat 0 },k:={ kind:=Int.ofNat 0,n:=Int.ofNat 0,s:={ data:={ toList:=[] } } },names:={ n:=0,get:=λx=>{ data:={ toList:=[] } } },place:={ fn:=Int.ofNat 0,line:=(nx l p 3).1 },exit:=Int.negSucc 0,once:=false }))]/\QE (.t []) [(aA l ((nx l p 3).2)),(bf 0 9 ((sn ins { op:=Int.ofNat 19,a:=x.2,b:=Int.ofNat 0,c:=Int.ofNat 0,n:=Int.ofNat 0,args:={ n:=0,get:=λx=>Int.ofNat 0 },k:={ kind:=Int.ofNat 0,n:=Int.ofNat 0,s:={ data:={ toList:=[] } } },names:={ n:=0,get:=λx=>{ data:={ toList:=[] } } },place:={ fn:=Int.ofNat 0,line:=(nx l p 3).1 },exit:=Int.negSucc 0,once:=false }).1) 4 aa.1 fuel (↑param:Int)),.dead,.dead,(bZ aa),.dead,(.box (lift (aN (x)))),.dead,.dead,(aH (sn ins { op:=Int.ofNat 19,a:=x.2,b:=Int.ofNat 0,c:=Int.ofNat 0,n:=Int.ofNat 0,args:={ n:=0,get:=λx=>Int.ofNat 0 },k:={ kind:=Int.ofNat 0,n:=Int.ofNat 0,s:={ data:={ toList:=[] } } },names:={ n:=0,get:=λx=>{ data:={ toList:=[] } } },place:={ fn:=Int.ofNat 0,line:=(nx l p 3).1 },exit:=Int.negSucc 0,once:=false }))]))))):cB (nk l sn sx) 16 fG L QE 52 (DU sn sx l p ins aa fuel param x):=km h
theorem T9 (s0:eL) (l:Sq Int) (p:Nat) (ins:Sq aj) (aa:Sq ah) (fuel:Int) (param:Nat) (hl:l.n<=maxLen) (hI:ins.n<=930) (hE:aa.n<=930) (hF:0<=fuel/\fuel<=1000) (hP:param<=1000) (c:Int):af 16 4 (AM l s0 fuel param (k35 l c ⟨p,ins,aa⟩)) (ai 16 35) (B2 cj cq l p ins aa fuel param c):=by
 refine aF (X:=nk l cj cq) (stop:=fG) (TP _ _ cj cq l p ins aa fuel param c ?_)
 refine ⟨eQ l _ _ hl rfl,?_⟩
 refine ⟨fg (m:=0) (q:=1) (i:=5) (j:=4) _ _,?_⟩
 exact ⟨[0,1,2,3,4,6],.t [],_,_,rfl,(rc (rc (rc (rc (rc (rc .nil)))))),⟨6,aQ rfl,aQ rfl,rfl,rfl,bh.refl _,⟨.inr rfl,⟨.inr rfl,⟨.inr rfl,⟨.inr rfl,⟨rfl,⟨rfl,trivial⟩⟩⟩⟩⟩⟩⟩⟩
theorem UB (s0:eL) (l:Sq Int) (p:Nat) (ins:Sq aj) (aa:Sq ah) (fuel:Int) (param:Nat) (hl:l.n<=maxLen) (hI:ins.n<=910) (hE:aa.n<=910) (hF:0<=fuel/\fuel<=1000) (hP:param<=1000) (c:Int):af 16 4 (AM l s0 fuel param (k35 l c ⟨p,ins,aa⟩)) (ai 16 24) (Bn cj cq l p ins aa fuel param c):=by
 refine aF (X:=nk l cj cq) (stop:=fG) (SY _ _ cj cq l p ins aa fuel param c ?_)
 refine ⟨eQ l _ _ hl rfl,?_⟩
 refine ⟨fg (m:=0) (q:=1) (i:=5) (j:=4) _ _,?_⟩
 exact ⟨[0,1,2,3,4,6],.t [],_,_,rfl,(rc (rc (rc (rc (rc (rc .nil)))))),⟨6,aQ rfl,aQ rfl,rfl,rfl,bh.refl _,⟨.inr rfl,⟨.inr rfl,⟨.inr rfl,⟨.inr rfl,⟨rfl,⟨rfl,trivial⟩⟩⟩⟩⟩⟩⟩⟩
theorem Uk (s0:eL) (l:Sq Int) (p:Nat) (ins:Sq aj) (aa:Sq ah) (fuel:Int) (param:Nat) (hl:l.n<=maxLen) (hI:ins.n<=920) (hE:aa.n<=920) (hF:0<=fuel/\fuel<=1000) (hP:param<=1000) (c:Int):af 16 4 (AM l s0 fuel param (k34 l param c ⟨p,ins,aa⟩)) (ai 16 34) (Bk cj cq l p ins aa fuel param c):=by
 refine aF (X:=nk l cj cq) (stop:=fG) (T3 _ _ cj cq l p ins aa fuel param c ?_)
 refine ⟨eQ l _ _ hl rfl,?_⟩
 refine ⟨eQ l _ _ hl rfl,?_⟩
 refine ⟨fg (m:=0) (q:=1) (i:=5) (j:=4) _ _,?_⟩
 exact af.rename [0,1,2,3,4,6] rfl (af.lr (B2 cj cq l ((nx l (nx l p (↑param:Int)).2 2).2) ((cj ins (dZ 11 c (nx l p (↑param:Int)).1 0 (nx l (nx l p (↑param:Int)).2 2).1 (-1)))) (aa) fuel param (c)) (T9 s0 l ((nx l (nx l p (↑param:Int)).2 2).2) ((cj ins (dZ 11 c (nx l p (↑param:Int)).1 0 (nx l (nx l p (↑param:Int)).2 2).1 (-1)))) (aa) fuel param hl (by first|omega|(simp only [ju]; omega)) (by first|omega|(simp only [ju]; omega)) hF hP (c)))
theorem VN (s0:eL) (l:Sq Int) (p:Nat) (ins:Sq aj) (aa:Sq ah) (fuel:Int) (param:Nat) (hl:l.n<=maxLen) (hI:ins.n<=910) (hE:aa.n<=910) (hF:0<=fuel/\fuel<=1000) (hP:param<=1000)  : af 16 4 (AM l s0 fuel param (k33 l param ⟨p,ins,aa⟩)) (ai 16 33) (BW cj cq l p ins aa fuel param ):=by
 refine aF (X:=nk l cj cq) (stop:=fG) (Tl _ _ cj cq l p ins aa fuel param  ?_)
 refine ⟨Ko,?_⟩
 refine ⟨fg (m:=0) (q:=1) (i:=5) (j:=4) _ _,?_⟩
 exact af.rename [0,1,2,3,4,6] rfl (af.lr (Bk cj cq l (p) ((cj ins { op:=Int.ofNat 16,a:=Int.ofNat 0,b:=Int.ofNat 0,c:=Int.ofNat 0,n:=Int.ofNat 0,args:={ n:=0,get:=λx=>Int.ofNat 0 },k:={ kind:=Int.ofNat 0,n:=Int.ofNat 0,s:={ data:={ toList:=[] } } },names:={ n:=2,get:=λi=>rS (cw (zN.get i)) },place:={ fn:=Int.ofNat 0,line:=Int.ofNat 0 },exit:=Int.negSucc 0,once:=false })) (aa) fuel param ((↑ins.1:Int))) (Uk s0 l (p) ((cj ins { op:=Int.ofNat 16,a:=Int.ofNat 0,b:=Int.ofNat 0,c:=Int.ofNat 0,n:=Int.ofNat 0,args:={ n:=0,get:=λx=>Int.ofNat 0 },k:={ kind:=Int.ofNat 0,n:=Int.ofNat 0,s:={ data:={ toList:=[] } } },names:={ n:=2,get:=λi=>rS (cw (zN.get i)) },place:={ fn:=Int.ofNat 0,line:=Int.ofNat 0 },exit:=Int.negSucc 0,once:=false })) (aa) fuel param hl (by first|omega|(simp only [ju]; omega)) (by first|omega|(simp only [ju]; omega)) hF hP ((↑ins.1:Int))))
theorem TV (s0:eL) (l:Sq Int) (p:Nat) (ins:Sq aj) (aa:Sq ah) (fuel:Int) (param:Nat) (hl:l.n<=maxLen) (hI:ins.n<=910) (hE:aa.n<=910) (hF:0<=fuel/\fuel<=1000) (hP:param<=1000) (c:Int):af 16 4 (AM l s0 fuel param (k27 l c ⟨p,ins,aa⟩)) (ai 16 27) (C6 cj cq l p ins aa fuel param c):=by
 refine aF (X:=nk l cj cq) (stop:=fG) (V0 _ _ cj cq l p ins aa fuel param c ?_)
 refine ⟨fY (m:=0) (q:=1) (i:=5) (j:=4) l _ _ hl,?_⟩
 refine ⟨eQ l _ _ hl rfl,?_⟩
 refine ⟨fg (m:=0) (q:=1) (i:=5) (j:=4) _ _,?_⟩
 exact ⟨[0,1,2,3,4,6],.t [],_,_,rfl,(rc (rc (rc (rc (rc (rc .nil)))))),⟨6,aQ rfl,aQ rfl,rfl,rfl,bh.refl _,⟨.inr rfl,⟨.inr rfl,⟨.inr rfl,⟨.inr rfl,⟨rfl,⟨rfl,trivial⟩⟩⟩⟩⟩⟩⟩⟩
theorem VT (s0:eL) (l:Sq Int) (p:Nat) (ins:Sq aj) (aa:Sq ah) (fuel:Int) (param:Nat) (hl:l.n<=maxLen) (hI:ins.n<=910) (hE:aa.n<=910) (hF:0<=fuel/\fuel<=1000) (hP:param<=1000) (x:aj):af 16 4 (AM l s0 fuel param (k40 l x ⟨p,ins,aa⟩)) (ai 16 40) (BK cj cq l p ins aa fuel param x):=by
 refine aF (X:=nk l cj cq) (stop:=fG) (Uf _ _ cj cq l p ins aa fuel param x ?_)
 refine ⟨eQ l _ _ hl rfl,?_⟩
 refine aq (λh0=>?_) (λh0=>?_)
 .refine ⟨fg (m:=0) (q:=1) (i:=5) (j:=4) _ _,?_⟩
  simp only [k40,show ((nx l p 2).1==0)=true from h0,cond_true,cond_false]
  exact ⟨[0,1,2,3,4,7],.t [],_,_,rfl,(rc (rc (rc (rc (rc (rc .nil)))))),⟨6,aQ rfl,aQ rfl,rfl,rfl,bh.refl _,⟨.inr rfl,⟨.inr rfl,⟨.inr rfl,⟨.inr rfl,⟨rfl,⟨rfl,trivial⟩⟩⟩⟩⟩⟩⟩⟩
 .refine ⟨fY (m:=0) (q:=1) (i:=5) (j:=4) l _ _ hl,?_⟩
  refine ⟨fg (m:=0) (q:=1) (i:=5) (j:=4) _ _,?_⟩
  refine ⟨fY (m:=0) (q:=1) (i:=5) (j:=4) l _ _ hl,?_⟩
  refine ⟨fg (m:=0) (q:=1) (i:=5) (j:=4) _ _,?_⟩
  simp only [k40,show ((nx l p 2).1==0)=false from h0,cond_true,cond_false]
  exact ⟨[0,1,2,3,4,9],.t [],_,_,rfl,(rc (rc (rc (rc (rc (rc .nil)))))),⟨6,aQ rfl,aQ rfl,rfl,rfl,bh.refl _,⟨.inr rfl,⟨.inr rfl,⟨.inr rfl,⟨.inr rfl,⟨rfl,⟨rfl,trivial⟩⟩⟩⟩⟩⟩⟩⟩
theorem SU (s0:eL) (l:Sq Int) (p:Nat) (ins:Sq aj) (aa:Sq ah) (fuel:Int) (param:Nat) (hl:l.n<=maxLen) (hI:ins.n<=910) (hE:aa.n<=910) (hF:0<=fuel/\fuel<=1000) (hP:param<=1000) (x:aj):af 16 4 (AM l s0 fuel param (k47 x ⟨p,ins,aa⟩)) (ai 16 47) (Ds cj cq l p ins aa fuel param x):=by
 refine aF (X:=nk l cj cq) (stop:=fG) (VJ _ _ cj cq l p ins aa fuel param x ?_)
 refine ⟨fg (m:=0) (q:=1) (i:=5) (j:=4) _ _,?_⟩
 exact ⟨[0,1,2,3,4,7],.t [],_,_,rfl,(rc (rc (rc (rc (rc (rc .nil)))))),⟨6,aQ rfl,aQ rfl,rfl,rfl,bh.refl _,⟨.inr rfl,⟨.inr rfl,⟨.inr rfl,⟨.inr rfl,⟨rfl,⟨rfl,trivial⟩⟩⟩⟩⟩⟩⟩⟩
theorem Tm (s0:eL) (l:Sq Int) (p:Nat) (ins:Sq aj) (aa:Sq ah) (fuel:Int) (param:Nat) (hl:l.n<=maxLen) (hI:ins.n<=910) (hE:aa.n<=910) (hF:0<=fuel/\fuel<=1000) (hP:param<=1000) (x:aj):af 16 4 (AM l s0 fuel param (k52 l x ⟨p,ins,aa⟩)) (ai 16 52) (DU cj cq l p ins aa fuel param x):=by
 refine aF (X:=nk l cj cq) (stop:=fG) (VM _ _ cj cq l p ins aa fuel param x ?_)
 refine ⟨eQ l _ _ hl rfl,?_⟩
 refine ⟨fg (m:=0) (q:=1) (i:=5) (j:=4) _ _,?_⟩
 refine ⟨eQ l _ _ hl rfl,?_⟩
 refine ⟨fg (m:=0) (q:=1) (i:=5) (j:=4) _ _,?_⟩
 exact ⟨[0,1,2,3,4,9],.t [],_,_,rfl,(rc (rc (rc (rc (rc (rc .nil)))))),⟨6,aQ rfl,aQ rfl,rfl,rfl,bh.refl _,⟨.inr rfl,⟨.inr rfl,⟨.inr rfl,⟨.inr rfl,⟨rfl,⟨rfl,trivial⟩⟩⟩⟩⟩⟩⟩⟩
theorem Jy (s0:eL) (l:Sq Int) (p:Nat) (ins:Sq aj) (aa:Sq ah) (fuel:Int) (param:Nat) (hl:l.n<=maxLen) (hI:ins.n<=910) (hE:aa.n<=910) (hF:0<=fuel/\fuel<=1000) (hP:param<=1000) (c:Int):af 16 4 (AM l s0 fuel param (k18 l fuel param c ⟨p,ins,aa⟩)) (ai 16 18) (wP cj cq l p ins aa fuel param c):=by
 refine aF (X:=nk l cj cq) (stop:=fG) (VY _ _ cj cq l p ins aa fuel param c ?_)
 refine ⟨eQ l _ _ hl rfl,?_⟩
 refine ⟨ot (m:=0) (q:=1) (i:=5) (j:=4) l _ _ _ hl,?_⟩
 refine ⟨fg (m:=0) (q:=1) (i:=5) (j:=7) _ _,?_⟩
 exact ⟨[0,1,2,3,7,8],.t [],_,_,rfl,(rc (rc (rc (rc (rc (rc .nil)))))),⟨6,aQ rfl,aQ rfl,rfl,rfl,bh.refl _,⟨.inr rfl,⟨.inr rfl,⟨.inr rfl,⟨.inr rfl,⟨rfl,⟨rfl,trivial⟩⟩⟩⟩⟩⟩⟩⟩
theorem UZ {c:Bool} {p:Prop} (k:p) (h:c=true:=by first|rfl|assumption|exact WT 4 (by decide) (by decide)|exact WT 2 (by decide) (by decide)|(simp; done)|omega):nd c p:=aC h k
theorem YV (s0:eL) (l:Sq Int) (p:Nat) (ins:Sq aj) (aa:Sq ah) (fuel:Int) (param:Nat) (hl:l.n<=maxLen) (hI:ins.n<=900) (hE:aa.n<=900) (hF:0<=fuel/\fuel<=1000) (hP:param<=1000)  : af 16 4 (AM l s0 fuel param (k3 l ⟨p,ins,aa⟩)) (ai 16 3) (Ji cj cq l p ins aa fuel param ):=by
 refine aF (X:=nk l cj cq) (stop:=fG) (X1 _ _ cj cq l p ins aa fuel param  ?_)
 refine ⟨eQ l _ _ hl rfl,?_⟩
 refine ⟨eQ l _ _ hl rfl,?_⟩
 refine UZ ?_
 refine aq (λh0=>?_) (λh0=>?_)
 .refine ⟨fg (m:=0) (q:=1) (i:=2) (j:=4) _ _,?_⟩
  simp only [k3,Z1,h0,cond_true,cond_false]
  exact ⟨[0,1,2,3,4,6],.t [],_,_,rfl,(rc (rc (rc (rc (rc (rc .nil)))))),⟨6,aQ rfl,aQ rfl,rfl,rfl,bh.refl _,⟨.inr rfl,⟨.inr rfl,⟨.inr rfl,⟨.inr rfl,⟨rfl,⟨rfl,trivial⟩⟩⟩⟩⟩⟩⟩⟩
 .refine aq (λh1=>?_) (λh1=>?_)
  .refine ⟨fg (m:=0) (q:=1) (i:=2) (j:=4) _ _,?_⟩
   simp only [k3,Z1,h0,h1,cond_true,cond_false]
   exact ⟨[0,1,2,3,4,6],.t [],_,_,rfl,(rc (rc (rc (rc (rc (rc .nil)))))),⟨6,aQ rfl,aQ rfl,rfl,rfl,bh.refl _,⟨.inr rfl,⟨.inr rfl,⟨.inr rfl,⟨.inr rfl,⟨rfl,⟨rfl,trivial⟩⟩⟩⟩⟩⟩⟩⟩
  .refine aq (λh2=>?_) (λh2=>?_)
   .refine ⟨fg (m:=0) (q:=1) (i:=2) (j:=4) _ _,?_⟩
    simp only [k3,Z1,h0,h1,h2,cond_true,cond_false]
    exact ⟨[0,1,2,3,4,6],.t [],_,_,rfl,(rc (rc (rc (rc (rc (rc .nil)))))),⟨6,aQ rfl,aQ rfl,rfl,rfl,bh.refl _,⟨.inr rfl,⟨.inr rfl,⟨.inr rfl,⟨.inr rfl,⟨rfl,⟨rfl,trivial⟩⟩⟩⟩⟩⟩⟩⟩
   .refine aq (λh3=>?_) (λh3=>?_)
    .refine ⟨fg (m:=0) (q:=1) (i:=2) (j:=4) _ _,?_⟩
     simp only [k3,Z1,h0,h1,h2,h3,cond_true,cond_false]
     exact ⟨[0,1,2,3,4,6],.t [],_,_,rfl,(rc (rc (rc (rc (rc (rc .nil)))))),⟨6,aQ rfl,aQ rfl,rfl,rfl,bh.refl _,⟨.inr rfl,⟨.inr rfl,⟨.inr rfl,⟨.inr rfl,⟨rfl,⟨rfl,trivial⟩⟩⟩⟩⟩⟩⟩⟩
    .exact TZ h0 h1 h2 h3
theorem HJ (s0:eL) (l:Sq Int) (p:Nat) (ins:Sq aj) (aa:Sq ah) (fuel:Int) (param:Nat) (hl:l.n<=maxLen) (hI:ins.n<=900) (hE:aa.n<=900) (hF:0<=fuel/\fuel<=1000) (hP:param<=1000)  : af 16 4 (AM l s0 fuel param (k7 l fuel param ⟨p,ins,aa⟩)) (ai 16 7) (yJ cj cq l p ins aa fuel param ):=by
 refine aF (X:=nk l cj cq) (stop:=fG) (X5 _ _ cj cq l p ins aa fuel param  ?_)
 refine ⟨eQ l _ _ hl rfl,?_⟩
 refine ⟨fY (m:=0) (q:=1) (i:=2) (j:=3) l _ _ hl,?_⟩
 refine ⟨fY (m:=0) (q:=1) (i:=2) (j:=3) l _ _ hl,?_⟩
 refine ⟨ot (m:=0) (q:=1) (i:=2) (j:=3) l _ _ _ hl,?_⟩
 refine ⟨fg (m:=0) (q:=1) (i:=2) (j:=5) _ _,?_⟩
 exact ⟨[0,1,2,3,5,6],.t [],_,_,rfl,(rc (rc (rc (rc (rc (rc .nil)))))),⟨6,aQ rfl,aQ rfl,rfl,rfl,bh.refl _,⟨.inr rfl,⟨.inr rfl,⟨.inr rfl,⟨.inr rfl,⟨rfl,⟨rfl,trivial⟩⟩⟩⟩⟩⟩⟩⟩
theorem Tk (s0:eL) (l:Sq Int) (p:Nat) (ins:Sq aj) (aa:Sq ah) (fuel:Int) (param:Nat) (hl:l.n<=maxLen) (hI:ins.n<=900) (hE:aa.n<=900) (hF:0<=fuel/\fuel<=1000) (hP:param<=1000)  : af 16 4 (AM l s0 fuel param (k11 l fuel param ⟨p,ins,aa⟩)) (ai 16 11) (D0 cj cq l p ins aa fuel param ):=by
 refine aF (X:=nk l cj cq) (stop:=fG) (Vw _ _ cj cq l p ins aa fuel param  ?_)
 refine ⟨eQ l _ _ hl rfl,?_⟩
 refine ⟨fY (m:=0) (q:=1) (i:=2) (j:=3) l _ _ hl,?_⟩
 refine ⟨ot (m:=0) (q:=1) (i:=2) (j:=3) l _ _ _ hl,?_⟩
 refine ⟨fg (m:=0) (q:=1) (i:=2) (j:=5) _ _,?_⟩
 exact ⟨[0,1,2,3,5,6],.t [],_,_,rfl,(rc (rc (rc (rc (rc (rc .nil)))))),⟨6,aQ rfl,aQ rfl,rfl,rfl,bh.refl _,⟨.inr rfl,⟨.inr rfl,⟨.inr rfl,⟨.inr rfl,⟨rfl,⟨rfl,trivial⟩⟩⟩⟩⟩⟩⟩⟩
theorem VW (s0:eL) (l:Sq Int) (p:Nat) (ins:Sq aj) (aa:Sq ah) (fuel:Int) (param:Nat) (hl:l.n<=maxLen) (hI:ins.n<=900) (hE:aa.n<=900) (hF:0<=fuel/\fuel<=1000) (hP:param<=1000)  : af 16 4 (AM l s0 fuel param (k15 l fuel param ⟨p,ins,aa⟩)) (ai 16 15) (DH cj cq l p ins aa fuel param ):=by
 refine aF (X:=nk l cj cq) (stop:=fG) (Uu _ _ cj cq l p ins aa fuel param  ?_)
 refine ⟨eQ l _ _ hl rfl,?_⟩
 refine UZ ?_
 refine aq (λh0=>?_) (λh0=>?_)
 .refine ⟨fY (m:=0) (q:=1) (i:=2) (j:=3) l _ _ hl,?_⟩
  refine ⟨fY (m:=0) (q:=1) (i:=2) (j:=3) l _ _ hl,?_⟩
  refine ⟨eQ l _ _ hl rfl,?_⟩
  refine UZ ?_
  refine aq (λh1=>?_) (λh1=>Bool.noConfusion (h0.symm.trans h1))
  refine ⟨fY (m:=0) (q:=1) (i:=2) (j:=3) l _ _ hl,?_⟩
  refine ⟨fY (m:=0) (q:=1) (i:=2) (j:=3) l _ _ hl,?_⟩
  refine ⟨ot (m:=0) (q:=1) (i:=2) (j:=3) l _ _ _ hl,?_⟩
  refine ⟨fg (m:=0) (q:=1) (i:=2) (j:=9) _ _,?_⟩
  simp only [k15,nOf,h0,cond_true,cond_false]
  exact af.rename [0,1,2,3,9,10] rfl (af.lr (wP cj cq l ((lv l (vl l (vl l (nx l p 2).2 ins).2 ins).2 ins fuel param).2) ((cj ins (dZ 4 (vl l (nx l p 2).2 ins).1 (vl l (vl l (nx l p 2).2 ins).2 ins).1 0 10 (Int.ofNat aa.1)))) ((cq aa (lv l (vl l (vl l (nx l p 2).2 ins).2 ins).2 ins fuel param).1)) fuel param ((↑ins.1:Int))) (Jy s0 l ((lv l (vl l (vl l (nx l p 2).2 ins).2 ins).2 ins fuel param).2) ((cj ins (dZ 4 (vl l (nx l p 2).2 ins).1 (vl l (vl l (nx l p 2).2 ins).2 ins).1 0 10 (Int.ofNat aa.1)))) ((cq aa (lv l (vl l (vl l (nx l p 2).2 ins).2 ins).2 ins fuel param).1)) fuel param hl (by first|omega|(simp only [ju]; omega)) (by first|omega|(simp only [ju]; omega)) hF hP ((↑ins.1:Int))))
 .refine aq (λh1=>?_) (λh1=>?_)
  .refine ⟨fY (m:=0) (q:=1) (i:=2) (j:=3) l _ _ hl,?_⟩
   refine ⟨fY (m:=0) (q:=1) (i:=2) (j:=3) l _ _ hl,?_⟩
   refine ⟨eQ l _ _ hl rfl,?_⟩
   refine UZ ?_
   refine aq (λh2=>Bool.noConfusion (h2.symm.trans h0)) (λh2=>?_)
   refine aq (λh3=>?_) (λh3=>Bool.noConfusion (h1.symm.trans h3))
   refine ⟨fY (m:=0) (q:=1) (i:=2) (j:=3) l _ _ hl,?_⟩
   refine ⟨fY (m:=0) (q:=1) (i:=2) (j:=3) l _ _ hl,?_⟩
   refine ⟨ot (m:=0) (q:=1) (i:=2) (j:=3) l _ _ _ hl,?_⟩
   refine ⟨fg (m:=0) (q:=1) (i:=2) (j:=9) _ _,?_⟩
   simp only [k15,nOf,h0,h1,cond_true,cond_false]
   exact af.rename [0,1,2,3,9,10] rfl (af.lr (wP cj cq l ((lv l (vl l (vl l (nx l p 2).2 ins).2 ins).2 ins fuel param).2) ((cj ins (dZ 4 (vl l (nx l p 2).2 ins).1 (vl l (vl l (nx l p 2).2 ins).2 ins).1 0 11 (Int.ofNat aa.1)))) ((cq aa (lv l (vl l (vl l (nx l p 2).2 ins).2 ins).2 ins fuel param).1)) fuel param ((↑ins.1:Int))) (Jy s0 l ((lv l (vl l (vl l (nx l p 2).2 ins).2 ins).2 ins fuel param).2) ((cj ins (dZ 4 (vl l (nx l p 2).2 ins).1 (vl l (vl l (nx l p 2).2 ins).2 ins).1 0 11 (Int.ofNat aa.1)))) ((cq aa (lv l (vl l (vl l (nx l p 2).2 ins).2 ins).2 ins fuel param).1)) fuel param hl (by first|omega|(simp only [ju]; omega)) (by first|omega|(simp only [ju]; omega)) hF hP ((↑ins.1:Int))))
  .exact Ut h0 h1
theorem Ka (s0:eL) (l:Sq Int) (p:Nat) (ins:Sq aj) (aa:Sq ah) (fuel:Int) (param:Nat) (hl:l.n<=maxLen) (hI:ins.n<=900) (hE:aa.n<=900) (hF:0<=fuel/\fuel<=1000) (hP:param<=1000)  : af 16 4 (AM l s0 fuel param (k23 l fuel param ⟨p,ins,aa⟩)) (ai 16 23) (wK cj cq l p ins aa fuel param ):=by
 refine aF (X:=nk l cj cq) (stop:=fG) (UR _ _ cj cq l p ins aa fuel param  ?_)
 refine ⟨WA (m:=0) (q:=1) (i:=2) (j:=3) l _ _ _ _ _ hl (by first|omega|(simp only [ju]; omega)) (by first|omega|(simp only [ju]; omega)) hF hP rfl rfl rfl rfl rfl,?_⟩
 exact af.rename [0,1,2,3,4,5] rfl (af.lr (Bn cj cq l ((fD l p ins fuel param).2) ((cj ins (jl l p ins param aa.1))) ((cq aa (fD l p ins fuel param).1)) fuel param (((iG l p ins param).1))) (UB s0 l ((fD l p ins fuel param).2) ((cj ins (jl l p ins param aa.1))) ((cq aa (fD l p ins fuel param).1)) fuel param hl (by first|omega|(simp only [ju]; omega)) (by first|omega|(simp only [ju]; omega)) hF hP (((iG l p ins param).1))))
theorem Tv (s0:eL) (l:Sq Int) (p:Nat) (ins:Sq aj) (aa:Sq ah) (fuel:Int) (param:Nat) (hl:l.n<=maxLen) (hI:ins.n<=900) (hE:aa.n<=900) (hF:0<=fuel/\fuel<=1000) (hP:param<=1000)  : af 16 4 (AM l s0 fuel param (k26 l fuel param ⟨p,ins,aa⟩)) (ai 16 26) (CZ cj cq l p ins aa fuel param ):=by
 refine aF (X:=nk l cj cq) (stop:=fG) (TF _ _ cj cq l p ins aa fuel param  ?_)
 refine ⟨WA (m:=0) (q:=1) (i:=2) (j:=3) l _ _ _ _ _ hl (by first|omega|(simp only [ju]; omega)) (by first|omega|(simp only [ju]; omega)) hF hP rfl rfl rfl rfl rfl,?_⟩
 exact af.rename [0,1,2,3,4,5] rfl (af.lr (C6 cj cq l ((fD l p ins fuel param).2) ((cj ins (jl l p ins param aa.1))) ((cq aa (fD l p ins fuel param).1)) fuel param (((iG l p ins param).1))) (TV s0 l ((fD l p ins fuel param).2) ((cj ins (jl l p ins param aa.1))) ((cq aa (fD l p ins fuel param).1)) fuel param hl (by first|omega|(simp only [ju]; omega)) (by first|omega|(simp only [ju]; omega)) hF hP (((iG l p ins param).1))))
theorem Jp (s0:eL) (l:Sq Int) (p:Nat) (ins:Sq aj) (aa:Sq ah) (fuel:Int) (param:Nat) (hl:l.n<=maxLen) (hI:ins.n<=900) (hE:aa.n<=900) (hF:0<=fuel/\fuel<=1000) (hP:param<=1000)  : af 16 4 (AM l s0 fuel param (k30 l fuel param ⟨p,ins,aa⟩)) (ai 16 30) (wg cj cq l p ins aa fuel param ):=by
 refine aF (X:=nk l cj cq) (stop:=fG) (Uh _ _ cj cq l p ins aa fuel param  ?_)
 refine ⟨ot (m:=0) (q:=1) (i:=2) (j:=3) l _ _ _ hl,?_⟩
 refine ⟨fg (m:=0) (q:=1) (i:=2) (j:=5) _ _,?_⟩
 exact af.rename [0,1,2,3,5,6] rfl (af.lr (BW cj cq l ((lv l p ins fuel param).2) ((cj ins (dZ 15 0 0 0 32 (Int.ofNat aa.1)))) ((cq aa (lv l p ins fuel param).1)) fuel param) (VN s0 l ((lv l p ins fuel param).2) ((cj ins (dZ 15 0 0 0 32 (Int.ofNat aa.1)))) ((cq aa (lv l p ins fuel param).1)) fuel param hl (by first|omega|(simp only [ju]; omega)) (by first|omega|(simp only [ju]; omega)) hF hP))
theorem TU (s0:eL) (l:Sq Int) (p:Nat) (ins:Sq aj) (aa:Sq ah) (fuel:Int) (param:Nat) (hl:l.n<=maxLen) (hI:ins.n<=900) (hE:aa.n<=900) (hF:0<=fuel/\fuel<=1000) (hP:param<=1000)  : af 16 4 (AM l s0 fuel param (k37 l fuel param ⟨p,ins,aa⟩)) (ai 16 37) (DF cj cq l p ins aa fuel param ):=by
 refine aF (X:=nk l cj cq) (stop:=fG) (TJ _ _ cj cq l p ins aa fuel param  ?_)
 refine ⟨fY (m:=0) (q:=1) (i:=2) (j:=3) l _ _ hl,?_⟩
 refine ⟨fY (m:=0) (q:=1) (i:=2) (j:=3) l _ _ hl,?_⟩
 refine ⟨ot (m:=0) (q:=1) (i:=2) (j:=3) l _ _ _ hl,?_⟩
 refine ⟨fg (m:=0) (q:=1) (i:=2) (j:=5) _ _,?_⟩
 exact af.rename [0,1,2,3,5,6,4] rfl (af.lf (BK cj cq l ((lv l (vl l (vl l p ins).2 ins).2 ins fuel param).2) ((cj ins (dZ 9 (vl l p ins).1 (vl l (vl l p ins).2 ins).1 0 0 (Int.ofNat aa.1)))) ((cq aa (lv l (vl l (vl l p ins).2 ins).2 ins fuel param).1)) fuel param (dZ 9 (vl l p ins).1 (vl l (vl l p ins).2 ins).1 0 0 (Int.ofNat aa.1))) (rc (rc (rc (rc (rc (rc (.cons (aO.box (by repeat' (first|exact aB.nil|refine aB.cons ?_ ?_|exact jg.refl _|exact jg.nil _ _))) .nil))))))) (VT s0 l ((lv l (vl l (vl l p ins).2 ins).2 ins fuel param).2) ((cj ins (dZ 9 (vl l p ins).1 (vl l (vl l p ins).2 ins).1 0 0 (Int.ofNat aa.1)))) ((cq aa (lv l (vl l (vl l p ins).2 ins).2 ins fuel param).1)) fuel param hl (by first|omega|(simp only [ju]; omega)) (by first|omega|(simp only [ju]; omega)) hF hP (dZ 9 (vl l p ins).1 (vl l (vl l p ins).2 ins).1 0 0 (Int.ofNat aa.1))))
theorem Ve (s0:eL) (l:Sq Int) (p:Nat) (ins:Sq aj) (aa:Sq ah) (fuel:Int) (param:Nat) (hl:l.n<=maxLen) (hI:ins.n<=900) (hE:aa.n<=900) (hF:0<=fuel/\fuel<=1000) (hP:param<=1000)  : af 16 4 (AM l s0 fuel param (k44 l fuel param ⟨p,ins,aa⟩)) (ai 16 44) (BS cj cq l p ins aa fuel param ):=by
 refine aF (X:=nk l cj cq) (stop:=fG) (Tb _ _ cj cq l p ins aa fuel param  ?_)
 refine ⟨fY (m:=0) (q:=1) (i:=2) (j:=3) l _ _ hl,?_⟩
 refine ⟨ot (m:=0) (q:=1) (i:=2) (j:=3) l _ _ _ hl,?_⟩
 refine ⟨fg (m:=0) (q:=1) (i:=2) (j:=5) _ _,?_⟩
 exact af.rename [0,1,2,3,5,6,4] rfl (af.lf (Ds cj cq l ((lv l (vl l p ins).2 ins fuel param).2) ((cj ins (dZ 8 (vl l p ins).1 0 0 0 (Int.ofNat aa.1)))) ((cq aa (lv l (vl l p ins).2 ins fuel param).1)) fuel param (dZ 8 (vl l p ins).1 0 0 0 (Int.ofNat aa.1))) (rc (rc (rc (rc (rc (rc (.cons (aO.box (by repeat' (first|exact aB.nil|refine aB.cons ?_ ?_|exact jg.refl _|exact jg.nil _ _))) .nil))))))) (SU s0 l ((lv l (vl l p ins).2 ins fuel param).2) ((cj ins (dZ 8 (vl l p ins).1 0 0 0 (Int.ofNat aa.1)))) ((cq aa (lv l (vl l p ins).2 ins fuel param).1)) fuel param hl (by first|omega|(simp only [ju]; omega)) (by first|omega|(simp only [ju]; omega)) hF hP (dZ 8 (vl l p ins).1 0 0 0 (Int.ofNat aa.1))))
theorem U2 (s0:eL) (l:Sq Int) (p:Nat) (ins:Sq aj) (aa:Sq ah) (fuel:Int) (param:Nat) (hl:l.n<=maxLen) (hI:ins.n<=900) (hE:aa.n<=900) (hF:0<=fuel/\fuel<=1000) (hP:param<=1000)  : af 16 4 (AM l s0 fuel param (k49 l fuel param ⟨p,ins,aa⟩)) (ai 16 49) (Bp cj cq l p ins aa fuel param ):=by
 refine aF (X:=nk l cj cq) (stop:=fG) (SF _ _ cj cq l p ins aa fuel param  ?_)
 refine ⟨fY (m:=0) (q:=1) (i:=2) (j:=3) l _ _ hl,?_⟩
 refine ⟨eQ l _ _ hl rfl,?_⟩
 refine ⟨ot (m:=0) (q:=1) (i:=2) (j:=3) l _ _ _ hl,?_⟩
 refine ⟨fg (m:=0) (q:=1) (i:=2) (j:=5) _ _,?_⟩
 exact af.rename [0,1,2,3,5,6,4] rfl (af.lf (DU cj cq l ((lv l (nx l (vl l p ins).2 4).2 ins fuel param).2) ((cj ins (dZ 6 (vl l p ins).1 0 0 (cJ (I.v (Value.int IntKind.i64 (IntKind.i64.wrap (1+(nx l (vl l p ins).2 4).1))))) (Int.ofNat aa.1)))) ((cq aa (lv l (nx l (vl l p ins).2 4).2 ins fuel param).1)) fuel param (dZ 6 (vl l p ins).1 0 0 (cJ (I.v (Value.int IntKind.i64 (IntKind.i64.wrap (1+(nx l (vl l p ins).2 4).1))))) (Int.ofNat aa.1))) (rc (rc (rc (rc (rc (rc (.cons (aO.box (by repeat' (first|exact aB.nil|refine aB.cons ?_ ?_|exact jg.refl _|exact jg.nil _ _))) .nil))))))) (Tm s0 l ((lv l (nx l (vl l p ins).2 4).2 ins fuel param).2) ((cj ins (dZ 6 (vl l p ins).1 0 0 (cJ (I.v (Value.int IntKind.i64 (IntKind.i64.wrap (1+(nx l (vl l p ins).2 4).1))))) (Int.ofNat aa.1)))) ((cq aa (lv l (nx l (vl l p ins).2 4).2 ins fuel param).1)) fuel param hl (by first|omega|(simp only [ju]; omega)) (by first|omega|(simp only [ju]; omega)) hF hP (dZ 6 (vl l p ins).1 0 0 (cJ (I.v (Value.int IntKind.i64 (IntKind.i64.wrap (1+(nx l (vl l p ins).2 4).1))))) (Int.ofNat aa.1))))
theorem ad7 (l:Sq Int) (p:Nat) (ins:Sq aj) (aa:Sq ah) (fuel:Int) (param:Nat) (hl:l.n<=maxLen) (hI:ins.n<=900) (hE:aa.n<=900) (hF:0<=fuel/\fuel<=1000) (hP:param<=1000):LC 16 [.c (.rt 1 0 0)] [aA l p,bf 0 2 ins.n 3 aa.n fuel param,aH ins,bZ aa] (.t []) [aA l (dC l fuel param ⟨p,ins,aa⟩).p,bf 0 5 (dC l fuel param ⟨p,ins,aa⟩).ins.n 4 (dC l fuel param ⟨p,ins,aa⟩).ex.n fuel param,.dead,.dead,bZ (dC l fuel param ⟨p,ins,aa⟩).ex,aH (dC l fuel param ⟨p,ins,aa⟩).ins]:=by
 refine cV aG8 (aQ (by kernel_rfl)) ?_
 show af 16 4 (AM l ⟨p,ins,aa⟩ fuel param (dC l fuel param ⟨p,ins,aa⟩)) _ _
 refine dc (X:=nk l cj cq) (stop:=fG) (az4 _ _ cj cq l p ins aa fuel param ?_)
 refine ⟨eQ l _ _ hl rfl,?_⟩
 refine aq (λh0=>?_) (λh0=>?_)
 .rw [show dC l fuel param ⟨p,ins,aa⟩=k3 l ⟨(nx l p 14).2,ins,aa⟩ from by simp only [dC,show ((nx l p 14).1==0)=true from h0,cond_true,cond_false]]
  exact af.BR 1 4 3 _ _ _ _ _ _ rfl rfl rfl (af.lr (Ji cj cq l ((nx l p 14).2) (ins) (aa) fuel param) (YV ⟨p,ins,aa⟩ l ((nx l p 14).2) (ins) (aa) fuel param hl (by first|omega|(simp only [ju]; omega)) (by first|omega|(simp only [ju]; omega)) hF hP))
 .refine aq (λh1=>?_) (λh1=>?_)
  .rw [show dC l fuel param ⟨p,ins,aa⟩=k7 l fuel param ⟨(nx l p 14).2,ins,aa⟩ from by simp only [dC,show ((nx l p 14).1==0)=false from h0,show ((nx l p 14).1==1)=true from h1,cond_true,cond_false]]
   exact af.lr (yJ cj cq l ((nx l p 14).2) (ins) (aa) fuel param) (HJ ⟨p,ins,aa⟩ l ((nx l p 14).2) (ins) (aa) fuel param hl (by first|omega|(simp only [ju]; omega)) (by first|omega|(simp only [ju]; omega)) hF hP)
  .refine aq (λh2=>?_) (λh2=>?_)
   .rw [show dC l fuel param ⟨p,ins,aa⟩=k7 l fuel param ⟨(nx l p 14).2,ins,aa⟩ from by simp only [dC,show ((nx l p 14).1==0)=false from h0,show ((nx l p 14).1==1)=false from h1,show ((nx l p 14).1==2)=true from h2,cond_true,cond_false]]
    exact af.lr (yJ cj cq l ((nx l p 14).2) (ins) (aa) fuel param) (HJ ⟨p,ins,aa⟩ l ((nx l p 14).2) (ins) (aa) fuel param hl (by first|omega|(simp only [ju]; omega)) (by first|omega|(simp only [ju]; omega)) hF hP)
   .refine aq (λh3=>?_) (λh3=>?_)
    .rw [show dC l fuel param ⟨p,ins,aa⟩=k7 l fuel param ⟨(nx l p 14).2,ins,aa⟩ from by simp only [dC,show ((nx l p 14).1==0)=false from h0,show ((nx l p 14).1==1)=false from h1,show ((nx l p 14).1==2)=false from h2,show ((nx l p 14).1==3)=true from h3,cond_true,cond_false]]
     exact af.lr (yJ cj cq l ((nx l p 14).2) (ins) (aa) fuel param) (HJ ⟨p,ins,aa⟩ l ((nx l p 14).2) (ins) (aa) fuel param hl (by first|omega|(simp only [ju]; omega)) (by first|omega|(simp only [ju]; omega)) hF hP)
    .refine aq (λh4=>?_) (λh4=>?_)
     .rw [show dC l fuel param ⟨p,ins,aa⟩=k11 l fuel param ⟨(nx l p 14).2,ins,aa⟩ from by simp only [dC,show ((nx l p 14).1==0)=false from h0,show ((nx l p 14).1==1)=false from h1,show ((nx l p 14).1==2)=false from h2,show ((nx l p 14).1==3)=false from h3,show ((nx l p 14).1==4)=true from h4,cond_true,cond_false]]
      exact af.lr (D0 cj cq l ((nx l p 14).2) (ins) (aa) fuel param) (Tk ⟨p,ins,aa⟩ l ((nx l p 14).2) (ins) (aa) fuel param hl (by first|omega|(simp only [ju]; omega)) (by first|omega|(simp only [ju]; omega)) hF hP)
     .refine aq (λh5=>?_) (λh5=>?_)
      .rw [show dC l fuel param ⟨p,ins,aa⟩=k15 l fuel param ⟨(nx l p 14).2,ins,aa⟩ from by simp only [dC,show ((nx l p 14).1==0)=false from h0,show ((nx l p 14).1==1)=false from h1,show ((nx l p 14).1==2)=false from h2,show ((nx l p 14).1==3)=false from h3,show ((nx l p 14).1==4)=false from h4,show ((nx l p 14).1==5)=true from h5,cond_true,cond_false]]
       exact af.lr (DH cj cq l ((nx l p 14).2) (ins) (aa) fuel param) (VW ⟨p,ins,aa⟩ l ((nx l p 14).2) (ins) (aa) fuel param hl (by first|omega|(simp only [ju]; omega)) (by first|omega|(simp only [ju]; omega)) hF hP)
      .refine aq (λh6=>?_) (λh6=>?_)
       .rw [show dC l fuel param ⟨p,ins,aa⟩=k23 l fuel param ⟨(nx l p 14).2,ins,aa⟩ from by simp only [dC,show ((nx l p 14).1==0)=false from h0,show ((nx l p 14).1==1)=false from h1,show ((nx l p 14).1==2)=false from h2,show ((nx l p 14).1==3)=false from h3,show ((nx l p 14).1==4)=false from h4,show ((nx l p 14).1==5)=false from h5,show ((nx l p 14).1==6)=true from h6,cond_true,cond_false]]
        exact af.lr (wK cj cq l ((nx l p 14).2) (ins) (aa) fuel param) (Ka ⟨p,ins,aa⟩ l ((nx l p 14).2) (ins) (aa) fuel param hl (by first|omega|(simp only [ju]; omega)) (by first|omega|(simp only [ju]; omega)) hF hP)
       .refine aq (λh7=>?_) (λh7=>?_)
        .rw [show dC l fuel param ⟨p,ins,aa⟩=k23 l fuel param ⟨(nx l p 14).2,ins,aa⟩ from by simp only [dC,show ((nx l p 14).1==0)=false from h0,show ((nx l p 14).1==1)=false from h1,show ((nx l p 14).1==2)=false from h2,show ((nx l p 14).1==3)=false from h3,show ((nx l p 14).1==4)=false from h4,show ((nx l p 14).1==5)=false from h5,show ((nx l p 14).1==6)=false from h6,show ((nx l p 14).1==7)=true from h7,cond_true,cond_false]]
         exact af.lr (wK cj cq l ((nx l p 14).2) (ins) (aa) fuel param) (Ka ⟨p,ins,aa⟩ l ((nx l p 14).2) (ins) (aa) fuel param hl (by first|omega|(simp only [ju]; omega)) (by first|omega|(simp only [ju]; omega)) hF hP)
        .refine aq (λh8=>?_) (λh8=>?_)
         .rw [show dC l fuel param ⟨p,ins,aa⟩=k26 l fuel param ⟨(nx l p 14).2,ins,aa⟩ from by simp only [dC,show ((nx l p 14).1==0)=false from h0,show ((nx l p 14).1==1)=false from h1,show ((nx l p 14).1==2)=false from h2,show ((nx l p 14).1==3)=false from h3,show ((nx l p 14).1==4)=false from h4,show ((nx l p 14).1==5)=false from h5,show ((nx l p 14).1==6)=false from h6,show ((nx l p 14).1==7)=false from h7,show ((nx l p 14).1==8)=true from h8,cond_true,cond_false]]
          exact af.lr (CZ cj cq l ((nx l p 14).2) (ins) (aa) fuel param) (Tv ⟨p,ins,aa⟩ l ((nx l p 14).2) (ins) (aa) fuel param hl (by first|omega|(simp only [ju]; omega)) (by first|omega|(simp only [ju]; omega)) hF hP)
         .refine aq (λh9=>?_) (λh9=>?_)
          .rw [show dC l fuel param ⟨p,ins,aa⟩=k30 l fuel param ⟨(nx l p 14).2,ins,aa⟩ from by simp only [dC,show ((nx l p 14).1==0)=false from h0,show ((nx l p 14).1==1)=false from h1,show ((nx l p 14).1==2)=false from h2,show ((nx l p 14).1==3)=false from h3,show ((nx l p 14).1==4)=false from h4,show ((nx l p 14).1==5)=false from h5,show ((nx l p 14).1==6)=false from h6,show ((nx l p 14).1==7)=false from h7,show ((nx l p 14).1==8)=false from h8,show ((nx l p 14).1==9)=true from h9,cond_true,cond_false]]
           exact af.lr (wg cj cq l ((nx l p 14).2) (ins) (aa) fuel param) (Jp ⟨p,ins,aa⟩ l ((nx l p 14).2) (ins) (aa) fuel param hl (by first|omega|(simp only [ju]; omega)) (by first|omega|(simp only [ju]; omega)) hF hP)
          .refine aq (λqj=>?_) (λqj=>?_)
           .rw [show dC l fuel param ⟨p,ins,aa⟩=k30 l fuel param ⟨(nx l p 14).2,ins,aa⟩ from by simp only [dC,show ((nx l p 14).1==0)=false from h0,show ((nx l p 14).1==1)=false from h1,show ((nx l p 14).1==2)=false from h2,show ((nx l p 14).1==3)=false from h3,show ((nx l p 14).1==4)=false from h4,show ((nx l p 14).1==5)=false from h5,show ((nx l p 14).1==6)=false from h6,show ((nx l p 14).1==7)=false from h7,show ((nx l p 14).1==8)=false from h8,show ((nx l p 14).1==9)=false from h9,show ((nx l p 14).1==10)=true from qj,cond_true,cond_false]]
            exact af.lr (wg cj cq l ((nx l p 14).2) (ins) (aa) fuel param) (Jp ⟨p,ins,aa⟩ l ((nx l p 14).2) (ins) (aa) fuel param hl (by first|omega|(simp only [ju]; omega)) (by first|omega|(simp only [ju]; omega)) hF hP)
           .refine aq (λCn=>?_) (λCn=>?_)
            .rw [show dC l fuel param ⟨p,ins,aa⟩=k37 l fuel param ⟨(nx l p 14).2,ins,aa⟩ from by simp only [dC,show ((nx l p 14).1==0)=false from h0,show ((nx l p 14).1==1)=false from h1,show ((nx l p 14).1==2)=false from h2,show ((nx l p 14).1==3)=false from h3,show ((nx l p 14).1==4)=false from h4,show ((nx l p 14).1==5)=false from h5,show ((nx l p 14).1==6)=false from h6,show ((nx l p 14).1==7)=false from h7,show ((nx l p 14).1==8)=false from h8,show ((nx l p 14).1==9)=false from h9,show ((nx l p 14).1==10)=false from qj,show ((nx l p 14).1==11)=true from Cn,cond_true,cond_false]]
             exact af.lr (DF cj cq l ((nx l p 14).2) (ins) (aa) fuel param) (TU ⟨p,ins,aa⟩ l ((nx l p 14).2) (ins) (aa) fuel param hl (by first|omega|(simp only [ju]; omega)) (by first|omega|(simp only [ju]; omega)) hF hP)
            .refine aq (λJE=>?_) (λJE=>?_)
             .rw [show dC l fuel param ⟨p,ins,aa⟩=k44 l fuel param ⟨(nx l p 14).2,ins,aa⟩ from by simp only [dC,show ((nx l p 14).1==0)=false from h0,show ((nx l p 14).1==1)=false from h1,show ((nx l p 14).1==2)=false from h2,show ((nx l p 14).1==3)=false from h3,show ((nx l p 14).1==4)=false from h4,show ((nx l p 14).1==5)=false from h5,show ((nx l p 14).1==6)=false from h6,show ((nx l p 14).1==7)=false from h7,show ((nx l p 14).1==8)=false from h8,show ((nx l p 14).1==9)=false from h9,show ((nx l p 14).1==10)=false from qj,show ((nx l p 14).1==11)=false from Cn,show ((nx l p 14).1==12)=true from JE,cond_true,cond_false]]
              exact af.lr (BS cj cq l ((nx l p 14).2) (ins) (aa) fuel param) (Ve ⟨p,ins,aa⟩ l ((nx l p 14).2) (ins) (aa) fuel param hl (by first|omega|(simp only [ju]; omega)) (by first|omega|(simp only [ju]; omega)) hF hP)
             .refine aq (λSp=>?_) (λSp=>?_)
              .rw [show dC l fuel param ⟨p,ins,aa⟩=k49 l fuel param ⟨(nx l p 14).2,ins,aa⟩ from by simp only [dC,show ((nx l p 14).1==0)=false from h0,show ((nx l p 14).1==1)=false from h1,show ((nx l p 14).1==2)=false from h2,show ((nx l p 14).1==3)=false from h3,show ((nx l p 14).1==4)=false from h4,show ((nx l p 14).1==5)=false from h5,show ((nx l p 14).1==6)=false from h6,show ((nx l p 14).1==7)=false from h7,show ((nx l p 14).1==8)=false from h8,show ((nx l p 14).1==9)=false from h9,show ((nx l p 14).1==10)=false from qj,show ((nx l p 14).1==11)=false from Cn,show ((nx l p 14).1==12)=false from JE,cond_true,cond_false]]
               exact af.lr (Bp cj cq l ((nx l p 14).2) (ins) (aa) fuel param) (U2 ⟨p,ins,aa⟩ l ((nx l p 14).2) (ins) (aa) fuel param hl (by first|omega|(simp only [ju]; omega)) (by first|omega|(simp only [ju]; omega)) hF hP)
              .exfalso
               obtain ⟨d,hd,dB⟩:=mi (l:=l) (p:=p) (n:=14) (by omega) (by omega)
               have g0:((nx l p 14).1==0)=false:=h0
               have g1:((nx l p 14).1==1)=false:=h1
               have g2:((nx l p 14).1==2)=false:=h2
               have g3:((nx l p 14).1==3)=false:=h3
               have g4:((nx l p 14).1==4)=false:=h4
               have g5:((nx l p 14).1==5)=false:=h5
               have g6:((nx l p 14).1==6)=false:=h6
               have g7:((nx l p 14).1==7)=false:=h7
               have g8:((nx l p 14).1==8)=false:=h8
               have g9:((nx l p 14).1==9)=false:=h9
               have g10:((nx l p 14).1==10)=false:=qj
               have g11:((nx l p 14).1==11)=false:=Cn
               have g12:((nx l p 14).1==12)=false:=JE
               have g13:((nx l p 14).1==13)=false:=Sp
               rw [hd] at g0 g1 g2 g3 g4 g5 g6 g7 g8 g9 g10 g11 g12 g13
               simp only [beq_eq_false_iff_ne,ne_eq] at g0 g1 g2 g3 g4 g5 g6 g7 g8 g9 g10 g11 g12 g13
               omega
theorem ah6 (l:Sq Int) (p:Nat) (ins:Sq aj) (aa:Sq ah) (fuel:Int) (param:Nat) {m q i j:Nat} {RS:List ag} (hl:l.n<=maxLen) (hI:ins.n<=900) (hE:aa.n<=900) (hF:0<=fuel/\fuel<=1000) (hP:param<=1000) (hd:ij [m,q,i,j]=true) (h0:aV RS m=some (aA l p)) (h1:aV RS q=some (bf m i ins.n j aa.n fuel param)) (h2:aV RS i=some (aH ins)) (h3:aV RS j=some (bZ aa)) :
  LC 16 [.c (.rt q 0 0)] RS (.t []) (setAt (setAt (setAt (setAt RS m (aA l (dC l fuel param ⟨p,ins,aa⟩).p)) q (bf m (RS.length+1) (dC l fuel param ⟨p,ins,aa⟩).ins.n RS.length (dC l fuel param ⟨p,ins,aa⟩).ex.n fuel param)) i .dead) j .dead++[bZ (dC l fuel param ⟨p,ins,aa⟩).ex,aH (dC l fuel param ⟨p,ins,aa⟩).ins]):=
 bP.jS (ad7 l p ins aa fuel param hl hI hE hF hP) [m,q,i,j] RS hd ⟨h0,eY h0,h1,eY h1,h2,eY h2,h3,eY h3,rfl⟩
end Go.Proofs.Ytgbbdaegmfjahaa
set_option linter.unusedSectionVars false
namespace Go.Proofs.Ytgbbdaegmfjahaa
open Go Go.V
structure xX (e:ah):Prop where
 frames:e.frames.n<=900
 vars:∀ j,j<e.frames.n->(e.frames.get j).vars.n<=900
 ax:e.ax.n<=900
 names:∀ j,j<e.ax.n->(e.ax.get j).names.n<=900
 items:∀ j,j<e.ax.n->(e.ax.get j).items.n<=900
 pos:0<e.frames.n
structure qp (x:aj):Prop where
 n:x.n<=9223372036854775807
 args:x.args.n<=900
 names:x.names.n<=900
 str:x.k.s.size<=900
structure dE (s s':eL) (c d:Nat):Prop where
 ins:s'.ins.n<=s.ins.n+c
 ex:s'.ex.n<=s.ex.n+d
 gi:(∀ k,k<s.ins.n->qp (s.ins.get k))->∀ k,k<s'.ins.n->qp (s'.ins.get k)
 ge:(∀ k,k<s.ex.n->xX (s.ex.get k))->∀ k,k<s'.ex.n->xX (s'.ex.get k)
theorem dE.refl (s:eL):dE s s 0 0:=⟨bG _,bG _,λh=>h,λh=>h⟩
theorem dE.trans {a b c:eL} {m n m' n':Nat} (h:dE a b m n) (k:dE b c m' n'):dE a c (m+m') (n+n'):=
 ⟨by have:=h.ins; have:=k.ins; omega,by have:=h.ex; have:=k.ex; omega,λq=>k.gi (h.gi q),λq=>k.ge (h.ge q)⟩
theorem dE.le {a b:eL} {m n m' n':Nat} (h:dE a b m n) (h1:m<=m') (h2:n<=n'):dE a b m' n' :=
 ⟨by have:=h.ins; omega,by have:=h.ex; omega,h.gi,h.ge⟩
theorem ue {α:Type} {P:α->Prop} {s:Sq α} {x:α} (h:∀ k,k<s.n->P (s.get k)) (hx:P x):∀ k,k<(ek s ⟨1,λ_=>x⟩).n->P ((ek s ⟨1,λ_=>x⟩).get k):=by
 intro k hk
 show P (Bool.rec x (s.get k) (Nat.blt k s.n))
 cases hb:Nat.blt k s.n with
 | true=>exact h k (by simpa [kD] using hb)
 | false=>exact hx
theorem dE.add (s:eL) (p:Nat) {x:aj} (hx:qp x):dE s ⟨p,cj s.ins x,s.ex⟩ 1 0:=
 ⟨bG _,bG _,λh=>ue h hx,λh=>h⟩
theorem dE.both (s:eL) (p:Nat) {x:aj} {e:ah} (hx:qp x) (he:xX e):dE s ⟨p,cj s.ins x,cq s.ex e⟩ 1 1:=
 ⟨bG _,bG _,λh=>ue h hx,λh=>ue h he⟩
theorem BA (k:Int):IntKind.i64.wrap k<=9223372036854775807:=by
 have e1:(2 ^ IntKind.i64.bits:Int)=18446744073709551616:=by rfl
 have e2:(2 ^ (IntKind.i64.bits-1):Int)=9223372036854775808:=by rfl
 have e4:IntKind.i64.signed=true:=rfl
 unfold IntKind.wrap
 simp only [e1,e2,e4]
 have h1:k%18446744073709551616<18446744073709551616:=Int.emod_lt_of_pos _ (by omega)
 split
 .omega
 .rename_i h
  simp only [Bool.true_and,decide_eq_true_eq] at h
  omega
theorem KH {l:Sq Int} {p:Nat} {n:Int} (h2:n<=900):(nx l p n).1<=900:=by
 by_cases h1:1<=n
 .have:=(Kw (l:=l) (p:=p) h1 (by omega)).2
  omega
 .unfold nx
  rw [show decide (n<1)=true from decide_eq_true (by omega)]
  cases decide ((p:Int)≥(l.n:Int))<;>simp
theorem fy {op a b c n e:Int} (h:n<=9223372036854775807):qp (dZ op a b c n e):=⟨h,bu _,bu _,bu _⟩
theorem qp.exit {x:aj} (h:qp x) (e:Int):qp { x with exit:=e }:=⟨h.n,h.args,h.names,h.str⟩
theorem V5 (l:Sq Int) (ins:Sq aj):∀ (m p:Nat) (h:Sq Int),(W7 l ins m p h).1.n=h.n+m
 | 0,p,h=>rfl
 | m+1,p,h=>by
   show (W7 l ins m _ (ek h ⟨1,λ_=>(vl l p ins).1⟩)).1.n=_
   rw [V5]
   show h.n+1+m=_
   omega
theorem sZ (l:Sq Int) (p:Nat) (ins:Sq aj) (fuel:Int) (param:Nat) (h:param<=900):xX (lv l p ins fuel param).1:=by
 have hv:(W7 l ins param p (bc 0)).1.n<=900:=by rw [V5]; show 0+param<=_; omega
 unfold lv Z5 Vu
 generalize ((nx l (nx l (W7 l ins param p (bc 0)).2 (fuel+1)).2 5).1==0)=b
 cases b with
 | false=>
   refine ⟨by simp,λj _=>hv,bu _,λj hj=>absurd hj (Nat.not_lt_zero j),λj hj=>absurd hj (Nat.not_lt_zero j),by first|exact Nat.zero_lt_succ _|simp⟩
 | true=>
   refine ⟨by show 1+1<=900; omega,?_,bu _,λj hj=>absurd hj (Nat.not_lt_zero j),λj hj=>absurd hj (Nat.not_lt_zero j),by first|exact Nat.zero_lt_succ _|simp⟩
   intro j _
   simp only [cond_true]
   show (Bool.rec (fr2 _) (⟨0,0,(W7 l ins param p (bc 0)).1⟩:cK) (Nat.blt j 1):cK).vars.n<=900
   cases Nat.blt j 1 with
   | true=>exact hv
   | false=>show 2<=900; omega
section
variable (l:Sq Int) (fuel:Int) (param:Nat) (hP:param<=900)
include hP
theorem jM {x:aj} (hx:qp x) (p:Nat) (s:eL):dE s (TN l fuel param x p s) 1 1:=
 dE.both s _ (hx.exit _) (sZ l p s.ins fuel param hP)
theorem GJ (c:Int) (s:eL):dE s (k35 l c s) 1 0:=dE.add s _ (fy (by have:=KH (l:=l) (p:=s.p) (n:=2) (by omega); omega))
theorem RY (c:Int) (s:eL):dE s (k34 l param c s) 2 0:=
 (dE.add s _ (fy (by have:=KH (l:=l) (p:=(nx l s.p (param:Int)).2) (n:=2) (by omega); omega))).trans (GJ l param hP c _)
theorem Qf (s:eL):dE s (k33 l param s) 3 0:=
 (dE.add s s.p (x:={ dZ 16 0 0 0 0 (-1) with names:=zN }) ⟨by decide,bu _,by decide,bu _⟩).trans (RY l param hP _ _)
theorem P8 (c:Int) (s:eL):dE s (k27 l c s) 1 0:=dE.add s _ (fy (by have:=KH (l:=l) (p:=(vl l s.p s.ins).2) (n:=2) (by omega); omega))
theorem QK (x:aj) (s:eL):dE s (k40 l x s) 1 0:=by
 unfold k40
 cases (nx l s.p 2).1==0 with
 | true=>exact dE.add s _ (fy (by omega))
 | false=>exact dE.add s _ (fy (by omega))
theorem M8 (x:aj) (s:eL):dE s (k47 x s) 1 0:=dE.add s _ (fy (by omega))
theorem P4 (x:aj) (s:eL):dE s (k52 l x s) 1 0:=dE.add s _ ⟨by show (0:Int)<=_; omega,bu _,bu _,bu _⟩
theorem Pf (c:Int) (s:eL):dE s (k18 l fuel param c s) 1 1:=jM l fuel param hP (fy (by have:=KH (l:=l) (p:=s.p) (n:=2) (by omega); omega)) _ s
theorem Tp (s:eL):dE s (k3 l s) 1 0:=dE.add s _ ⟨by show (0:Int)<=_; omega,bu _,bu _,by
 show (Z1 _ _).s.size<=900
 unfold Z1
 generalize Nat.beq _ 0=a
 generalize Nat.beq _ 1=b
 generalize Nat.beq _ 2=c
 cases a<;>cases b<;>cases c<;>first|exact bu _|(show 1<=900; omega)⟩
theorem Dv (s:eL):dE s (k7 l fuel param s) 1 1:=jM l fuel param hP (fy (BA _)) _ s
theorem Pj (s:eL):dE s (k11 l fuel param s) 1 1:=jM l fuel param hP (fy (BA _)) _ s
theorem YY (d:Nat):nOf d<=9223372036854775807:=by unfold nOf; cases Nat.beq d 0<;>decide
theorem OO (s:eL):dE s (k15 l fuel param s) 2 2:=(jM l fuel param hP (fy (YY param hP _)) _ s).trans (Pf l fuel param hP _ _)
theorem Gu (s:eL):dE s (ksh l fuel param s) 1 1:=dE.both s _ ⟨by show (0:Int)<=_; omega,bu _,by show 2<=900; omega,bu _⟩ (sZ l _ s.ins fuel param hP)
theorem Gc (s:eL):dE s (k23 l fuel param s) 2 1:=(Gu l fuel param hP s).trans (GJ l param hP _ _)
theorem Rn (s:eL):dE s (k26 l fuel param s) 2 1:=(Gu l fuel param hP s).trans (P8 l param hP _ _)
theorem FM (s:eL):dE s (k30 l fuel param s) 4 1:=(jM l fuel param hP (fy (by omega)) s.p s).trans (Qf l param hP _)
theorem NC (s:eL):dE s (k37 l fuel param s) 2 1:=(jM l fuel param hP (fy (by omega)) _ s).trans (QK l param hP _ _)
theorem N0 (s:eL):dE s (k44 l fuel param s) 2 1:=(jM l fuel param hP (fy (by omega)) _ s).trans (M8 param hP _ _)
theorem Q2 (s:eL):dE s (k49 l fuel param s) 2 1:=(jM l fuel param hP (fy (BA _)) _ s).trans (P4 l param hP _ _)
theorem iQ {s s':eL} {p:Nat} {c d:Nat} (h:dE ⟨p,s.ins,s.ex⟩ s' c d) (h1:c<=4) (h2:d<=2):dE s s' 4 2:=by
 have:=h.ins; have:=h.ex
 refine ⟨?_,?_,h.gi,h.ge⟩
 .have q:s'.ins.n<=s.ins.n+c:=h.ins
  omega
 .have q:s'.ex.n<=s.ex.n+d:=h.ex
  omega
theorem Fg (s:eL):dE s (dC l fuel param s) 4 2:=by
 unfold dC
 generalize (nx l s.p 14).1=t
 have G:∀ {b:Bool} {x y:eL},dE s x 4 2->dE s y 4 2->dE s (bif b then x else y) 4 2:=λ{b x y} h1 h2=>by cases b<;>assumption
 refine G (iQ param hP (Tp l param hP _) (by omega) (by omega)) (G (iQ param hP (Dv l fuel param hP _) (by omega) (by omega)) (G (iQ param hP (Dv l fuel param hP _) (by omega) (by omega)) (G (iQ param hP (Dv l fuel param hP _) (by omega) (by omega)) (G (iQ param hP (Pj l fuel param hP _) (by omega) (by omega)) (G (iQ param hP (OO l fuel param hP _) (by omega) (by omega)) (G (iQ param hP (Gc l fuel param hP _) (by omega) (by omega)) (G (iQ param hP (Gc l fuel param hP _) (by omega) (by omega)) (G (iQ param hP (Rn l fuel param hP _) (by omega) (by omega)) (G (iQ param hP (FM l fuel param hP _) (by omega) (by omega)) (G (iQ param hP (FM l fuel param hP _) (by omega) (by omega)) (G (iQ param hP (NC l fuel param hP _) (by omega) (by omega)) (G (iQ param hP (N0 l fuel param hP _) (by omega) (by omega)) (iQ param hP (Q2 l fuel param hP _) (by omega) (by omega))))))))))))))
end
open Go Go.V
noncomputable def aJ3 (l:Sq Int) (ds:List D) (rs:List ag):Out:=match ds with
 | [.c (.rt q _ _)]=>match aV rs q with
   | some (.box [.rt m a b,c,d,.sa i n,.sa j ne,.im (.v (.int .i64 fu)),.im (.v (.int .i64 pa))])=>match aV rs m,aV rs i,aV rs j with
     | some (.box [y,.im (.v (.int .i64 p))]),some (.arr _ _ k get),some (.arr _ _ ke ge)=>
       (.t [],[(m,.box [y,.im (iI (dC l fu pa.toNat ⟨p.toNat,⟨k,λt=>j6 (get t)⟩,⟨ke,λt=>oT (ge t)⟩⟩).p)]),(q,.box [.rt m a b,c,d,.sa (rs.length+1) (dC l fu pa.toNat ⟨p.toNat,⟨k,λt=>j6 (get t)⟩,⟨ke,λt=>oT (ge t)⟩⟩).ins.n,.sa rs.length (dC l fu pa.toNat ⟨p.toNat,⟨k,λt=>j6 (get t)⟩,⟨ke,λt=>oT (ge t)⟩⟩).ex.n,.im (iI fu),.im (iI pa)]),(i,.dead),(j,.dead)],
        [bZ (dC l fu pa.toNat ⟨p.toNat,⟨k,λt=>j6 (get t)⟩,⟨ke,λt=>oT (ge t)⟩⟩).ex,aH (dC l fu pa.toNat ⟨p.toNat,⟨k,λt=>j6 (get t)⟩,⟨ke,λt=>oT (ge t)⟩⟩).ins])
     | _,_,_=>tF
   | _=>tF
 | _=>tF
noncomputable def aC0 (l:Sq Int) (sn:Sq aj->aj->Sq aj) (sx:Sq ah->ah->Sq ah) (f:FuncId) (ds:List D) (rs:List ag):Out:=match f with
 | 16=>aJ3 l ds rs
 | f=>F67 l sn sx f ds rs
noncomputable def Fa (l:Sq Int) (sn:Sq aj->aj->Sq aj) (sx:Sq ah->ah->Sq ah):fN:={ F:=aC0 l sn sx,W:=W67 l,S:=zn }
noncomputable def K5:ag:=.box [.im (iI 0),.im (iI 0),.im (.v (.slice .none 0 0)),.im (.v (.slice .none 0 0))]
noncomputable def yd:Sq ah:=bc ⟨bc ⟨0,0,bc 0⟩,bc zV,0⟩
noncomputable def nR:Sq aj:=bc zI
noncomputable section
def pI (k:Nat):aj:={ dZ 1 0 0 0 0 (-1) with k:=⟨3,(k:Int),⟨⟨[]⟩⟩⟩ }
def Py:Nat->Nat->Sq aj->Sq aj
 | 0,_,s=>s
 | m+1,k,s=>Py m (k+1) (cj s (pI k))
def zW (l:Sq Int) (ins:Sq aj):Nat->Nat->Nat->Sq Int->Sq Int
 | 0,_,_,h=>h
 | m+1,k,p,h=>bif (nx l p 2).1==0 then zW l ins m (k+1) (nx l p 2).2 (ek h ⟨1,λ_=>(k:Int)⟩) else zW l ins m (k+1) (vl l (nx l p 2).2 ins).2 (ek h ⟨1,λ_=>(vl l (nx l p 2).2 ins).1⟩)
def Zx (s:eL) (h:Sq Int):ae:=⟨⟨0,0⟩,cj s.ins { dZ 20 0 0 0 0 (-1) with args:=h },s.ex⟩
def vJ (l:Sq Int) (fuel:Int) (param:Nat) (s:eL):ae:=bif (nx l s.p 6).1==0 then ⟨⟨0,0⟩,cj s.ins (dZ 21 0 0 0 0 (s.ex.n:Int)),cq s.ex (lv l (nx l s.p 6).2 s.ins fuel param).1⟩ else Zx s (zW l s.ins param 0 (nx l s.p 6).2 (bc 0))
def WG (l:Sq Int) (fuel:Int) (param:Nat):Nat->eL->eL
 | 0,s=>s
 | m+1,s=>WG l fuel param m (dC l fuel param s)
def Wy (l:Sq Int) (fuel:Int) (param:Nat) (p:Nat) (ins:Sq aj) (ex:Sq ah):eL:=⟨(nx l (lv l p ins 0 param).2 14).2,cj ins (dZ 18 0 0 0 fuel (ex.n:Int)),cq ex (lv l p ins 0 param).1⟩
def Ss (l:Sq Int) (param:Nat) (p:Nat) (ins:Sq aj) (ex:Sq ah):ae:=
 vJ l (1+(nx l p 4).1) param (WG l (1+(nx l p 4).1) param (nx l (lv l (nx l p 4).2 ins 0 param).2 14).1.toNat (Wy l (1+(nx l p 4).1) param (nx l p 4).2 ins ex))
def made (l:Sq Int):ae:=Ss l (1+(nx l 0 4).1.toNat) (nx l 0 4).2 (Py (1+(nx l 0 4).1.toNat) 0 nR) yd
end
def ph:Nat->Bool:=λi=>Nat.beq i 4||Nat.beq i 7||Nat.beq i 16||Nat.beq i 19||Nat.beq i 26||Nat.beq i 31
theorem aE7:Fn 5:={}
noncomputable abbrev cQ:ag:=.box [(ci 0),(ci 0),fi,fi]
theorem aA7 (L:LP) (QD:D->Prop) (sn:Sq aj->aj->Sq aj) (sx:Sq ah->ah->Sq ah) (l:Sq Int) (h:(WC 13 [(.c (.rt 1 0 0)),(int 4)] [cQ,(.box [(.im (.sl 1 l.1 (λi=>bA (l.2 i)))),(ci 0)]),(.box [(.rt 1 0 0),(ci 0),(ci 0),fi,fi,(ci 0),(ci 0)])] (int ((nx l 0 4).1)) 1 (aA l ((nx l 0 4).2))/\L (ai 5 4) ⟨[de,fZ,yp],[cQ,(aA l ((nx l 0 4).2)),(.box [(.rt 1 0 0),(ci 0),(ci 0),fi,fi,(ci 0),(ci (IntKind.i64.wrap (1+(nx l 0 4).1)))])],[]⟩)):fx (Fa l sn sx) 5 ph L (bL QD) [iM 1 bA l] []:=km h
noncomputable abbrev il:fp:=(3,.c (.rt 2 0 0),[])
noncomputable def Bu (sn:Sq aj->aj->Sq aj) (sx:Sq ah->ah->Sq ah) (l:Sq Int) (p:Nat) (ins:Sq aj) (aa:Sq ah) (param k:Nat):VS:=⟨[jq,il,(4,int k,[])],[K5,aA l p,bf 1 3 ins.n 4 aa.n 0 param,aH ins,bZ aa],[]⟩
noncomputable abbrev G1 (aw:Sq Int) (aG:Nat) (bk:Sq aj) (bN:Sq ah) (dp:Nat):List ag:=[cQ,(aA aw aG),(bf 1 3 bk.1 4 bN.1 0 (↑dp:Int)),(aH bk),(bZ bN)]
noncomputable abbrev W2 (aw:Sq Int) (aG:Nat) (bk:Sq aj->aj->Sq aj) (bN:Sq aj) (dp:Nat) (fq:Sq ah) (gH:Nat):List ag:=[cQ,(aA aw aG),(bf 1 5 ((bk bN { op:=Int.ofNat 1,a:=Int.ofNat 0,b:=Int.ofNat 0,c:=Int.ofNat 0,n:=Int.ofNat 0,args:={ n:=0,get:=λx=>Int.ofNat 0 },k:={ kind:=Int.ofNat 3,n:=Int.ofNat dp,s:={ data:={ toList:=[] } } },names:={ n:=0,get:=λx=>{ data:={ toList:=[] } } },place:={ fn:=Int.ofNat 0,line:=Int.ofNat 0 },exit:=Int.negSucc 0,once:=false }).1) 4 fq.1 0 (↑gH:Int)),.dead,(bZ fq),(aH (bk bN { op:=Int.ofNat 1,a:=Int.ofNat 0,b:=Int.ofNat 0,c:=Int.ofNat 0,n:=Int.ofNat 0,args:={ n:=0,get:=λx=>Int.ofNat 0 },k:={ kind:=Int.ofNat 3,n:=Int.ofNat dp,s:={ data:={ toList:=[] } } },names:={ n:=0,get:=λx=>{ data:={ toList:=[] } } },place:={ fn:=Int.ofNat 0,line:=Int.ofNat 0 },exit:=Int.negSucc 0,once:=false }))]
theorem Ob (L:LP) (QD:D->Prop) (sn:Sq aj->aj->Sq aj) (sx:Sq ah->ah->Sq ah) (l:Sq Int) (p:Nat) (ins:Sq aj) (aa:Sq ah) (param k:Nat) (h:br (decide ((↑k:Int)<(↑param:Int))) ((LC 14 [(.c (.rt 2 0 0)),(.a [(ci 1),(ci 0),(ci 0),(ci 0),(ci 0),fi,(ci 3),(ci (↑k:Int)),ff,fi,(ci 0),(ci 0),(ci (-1)),dS])] (G1 l p ins aa param) (eh ins) (W2 l p sn ins k aa param)/\L (ai 5 4) ⟨[de,fZ,(4,((int (IntKind.i64.wrap ((↑k:Int)+1))),[]))],(W2 l p sn ins k aa param),[]⟩)) (L (ai 5 7) ⟨[de,fZ,(4,((int (↑k:Int)),[])),(29,((bool false),[]))],(G1 l p ins aa param),[]⟩)):cB (Fa l sn sx) 5 ph L (bL QD) 4 (Bu sn sx l p ins aa param k):=km h
noncomputable def HZ (sn:Sq aj->aj->Sq aj) (sx:Sq ah->ah->Sq ah) (l:Sq Int) (p:Nat) (ins:Sq aj) (aa:Sq ah) (param:Nat):VS:=⟨[jq,il],[K5,aA l p,bf 1 3 ins.n 4 aa.n 0 param,aH ins,bZ aa],[]⟩
noncomputable abbrev zf:List D:=[(.c (.rt 2 0 0))]
noncomputable abbrev mf:fp:=(5,((.c (.rt 5 0 0)),[]))
theorem ZZ (L:LP) (QD:D->Prop) (sn:Sq aj->aj->Sq aj) (sx:Sq ah->ah->Sq ah) (l:Sq Int) (p:Nat) (ins:Sq aj) (aa:Sq ah) (param:Nat) (h:(WC 13 [(.c (.rt 1 0 0)),(int 4)] (G1 l p ins aa param) (int ((nx l p 4).1)) 1 (aA l ((nx l p 4).2))/\(LC 15 zf [cQ,(aA l ((nx l p 4).2)),(bf 1 3 ins.1 4 aa.1 0 (↑param:Int)),(aH ins),(bZ aa),(.box (fL 18 0 0 0 (cJ (I.v (Value.int IntKind.i64 (IntKind.i64.wrap (1+(nx l p 4).1))))) 0))] (je aa) [cQ,(aA l ((lv l (nx l p 4).2 ins 0 param).2)),(bf 1 3 ins.1 6 ((sx aa (lv l (nx l p 4).2 ins 0 param).1).1) 0 (↑param:Int)),(aH ins),.dead,(.box (fL 18 0 0 0 (cJ (I.v (Value.int IntKind.i64 (IntKind.i64.wrap (1+(nx l p 4).1))))) 0)),(bZ (sx aa (lv l (nx l p 4).2 ins 0 param).1))]/\(LC 14 [(.c (.rt 2 0 0)),(.a (fL 18 0 0 0 (cJ (I.v (Value.int IntKind.i64 (IntKind.i64.wrap (1+(nx l p 4).1))))) (Int.ofNat aa.1)))] [cQ,(aA l ((lv l (nx l p 4).2 ins 0 param).2)),(bf 1 3 ins.1 6 ((sx aa (lv l (nx l p 4).2 ins 0 param).1).1) (IntKind.i64.wrap (1+(nx l p 4).1)) (↑param:Int)),(aH ins),.dead,(.box (fL 18 0 0 0 (cJ (I.v (Value.int IntKind.i64 (IntKind.i64.wrap (1+(nx l p 4).1))))) (Int.ofNat aa.1))),(bZ (sx aa (lv l (nx l p 4).2 ins 0 param).1))] (eh ins) [cQ,(aA l ((lv l (nx l p 4).2 ins 0 param).2)),(bf 1 7 ((sn ins (dZ 18 0 0 0 (cJ (I.v (Value.int IntKind.i64 (IntKind.i64.wrap (1+(nx l p 4).1))))) (Int.ofNat aa.1))).1) 6 ((sx aa (lv l (nx l p 4).2 ins 0 param).1).1) (IntKind.i64.wrap (1+(nx l p 4).1)) (↑param:Int)),.dead,.dead,(.box (fL 18 0 0 0 (cJ (I.v (Value.int IntKind.i64 (IntKind.i64.wrap (1+(nx l p 4).1))))) (Int.ofNat aa.1))),(bZ (sx aa (lv l (nx l p 4).2 ins 0 param).1)),(aH (sn ins (dZ 18 0 0 0 (cJ (I.v (Value.int IntKind.i64 (IntKind.i64.wrap (1+(nx l p 4).1))))) (Int.ofNat aa.1))))]/\(WC 13 [(.c (.rt 1 0 0)),(int 14)] [cQ,(aA l ((lv l (nx l p 4).2 ins 0 param).2)),(bf 1 7 ((sn ins (dZ 18 0 0 0 (cJ (I.v (Value.int IntKind.i64 (IntKind.i64.wrap (1+(nx l p 4).1))))) (Int.ofNat aa.1))).1) 6 ((sx aa (lv l (nx l p 4).2 ins 0 param).1).1) (IntKind.i64.wrap (1+(nx l p 4).1)) (↑param:Int)),.dead,.dead,(.box (fL 18 0 0 0 (cJ (I.v (Value.int IntKind.i64 (IntKind.i64.wrap (1+(nx l p 4).1))))) (Int.ofNat aa.1))),(bZ (sx aa (lv l (nx l p 4).2 ins 0 param).1)),(aH (sn ins (dZ 18 0 0 0 (cJ (I.v (Value.int IntKind.i64 (IntKind.i64.wrap (1+(nx l p 4).1))))) (Int.ofNat aa.1))))] (int ((nx l (lv l (nx l p 4).2 ins 0 param).2 14).1)) 1 (aA l ((nx l (lv l (nx l p 4).2 ins 0 param).2 14).2))/\L (ai 5 16) ⟨[de,fZ,mf,(7,((int ((nx l (lv l (nx l p 4).2 ins 0 param).2 14).1)),[])),(8,((int 0),[]))],[cQ,(aA l ((nx l (lv l (nx l p 4).2 ins 0 param).2 14).2)),(bf 1 7 ((sn ins (dZ 18 0 0 0 (cJ (I.v (Value.int IntKind.i64 (IntKind.i64.wrap (1+(nx l p 4).1))))) (Int.ofNat aa.1))).1) 6 ((sx aa (lv l (nx l p 4).2 ins 0 param).1).1) (IntKind.i64.wrap (1+(nx l p 4).1)) (↑param:Int)),.dead,.dead,(.box (fL 18 0 0 0 (cJ (I.v (Value.int IntKind.i64 (IntKind.i64.wrap (1+(nx l p 4).1))))) (Int.ofNat aa.1))),(bZ (sx aa (lv l (nx l p 4).2 ins 0 param).1)),(aH (sn ins (dZ 18 0 0 0 (cJ (I.v (Value.int IntKind.i64 (IntKind.i64.wrap (1+(nx l p 4).1))))) (Int.ofNat aa.1))))],[]⟩))))):cB (Fa l sn sx) 5 ph L (bL QD) 7 (HZ sn sx l p ins aa param):=km h
noncomputable abbrev Ch:fp:=(5,.c (.rt 5 0 0),[])
noncomputable def wx (sn:Sq aj->aj->Sq aj) (sx:Sq ah->ah->Sq ah) (l:Sq Int) (p:Nat) (ins:Sq aj) (aa:Sq ah) (fuel:Int) (param:Nat) (x:aj) (steps k:Nat):VS:=⟨[jq,il,Ch,(7,int steps,[]),(8,int k,[])],[K5,aA l p,bf 1 3 ins.n 4 aa.n fuel param,aH ins,bZ aa,.box (lift (aN x))],[]⟩
noncomputable abbrev nK (aw:Sq aj) (aG:Sq ah) (bk:Int) (bN:Nat):ag:=bf 1 3 aw.1 4 aG.1 bk (↑bN:Int)
noncomputable abbrev D5 (aw:Sq Int) (aG:Nat) (bk:Sq aj) (bN:Sq ah) (dp:Int) (fq:Nat) (gH:aj):List ag:=[cQ,(aA aw aG),(nK bk bN dp fq),(aH bk),(bZ bN),(ez gH)]
noncomputable abbrev Xd (aw:Sq Int) (aG:Int) (bk bN:Nat) (dp:Sq aj) (fq:Sq ah) (gH:aj):List ag:=[cQ,(aA aw ((dC aw aG bk { p:=bN,ins:=dp,ex:=fq }).p)),(bf 1 7 ((dC aw aG bk { p:=bN,ins:=dp,ex:=fq }).ins.1) 6 ((dC aw aG bk { p:=bN,ins:=dp,ex:=fq }).ex.1) aG (↑bk:Int)),.dead,.dead,(ez gH),(bZ ((dC aw aG bk { p:=bN,ins:=dp,ex:=fq }).ex)),(aH ((dC aw aG bk { p:=bN,ins:=dp,ex:=fq }).ins))]
theorem Kv (L:LP) (QD:D->Prop) (sn:Sq aj->aj->Sq aj) (sx:Sq ah->ah->Sq ah) (l:Sq Int) (p:Nat) (ins:Sq aj) (aa:Sq ah) (fuel:Int) (param:Nat) (x:aj) (steps k:Nat) (h:br (decide ((↑k:Int)<(↑steps:Int))) ((LC 16 zf (D5 l p ins aa fuel param x) (.t []) (Xd l fuel param p ins aa x)/\L (ai 5 16) ⟨[de,fZ,mf,(7,((kh steps),[])),(8,((int (IntKind.i64.wrap ((↑k:Int)+1))),[]))],(Xd l fuel param p ins aa x),[]⟩)) (L (ai 5 19) ⟨[de,fZ,mf,(7,((kh steps),[])),(8,((int (↑k:Int)),[])),(75,((bool false),[]))],(D5 l p ins aa fuel param x),[]⟩)):cB (Fa l sn sx) 5 ph L (bL QD) 16 (wx sn sx l p ins aa fuel param x steps k):=km h
noncomputable def DV (sn:Sq aj->aj->Sq aj) (sx:Sq ah->ah->Sq ah) (l:Sq Int) (p:Nat) (ins:Sq aj) (aa:Sq ah) (fuel:Int) (param:Nat) (x:aj):VS:=⟨[jq,il,Ch],[K5,aA l p,bf 1 3 ins.n 4 aa.n fuel param,aH ins,bZ aa,.box (lift (aN x))],[]⟩
theorem Vh (L:LP) (QD:D->Prop) (sn:Sq aj->aj->Sq aj) (sx:Sq ah->ah->Sq ah) (l:Sq Int) (p:Nat) (ins:Sq aj) (aa:Sq ah) (fuel:Int) (param:Nat) (x:aj) (h:(WC 13 [(.c (.rt 1 0 0)),(int 6)] (D5 l p ins aa fuel param x) (int ((nx l p 6).1)) 1 (aA l ((nx l p 6).2))/\br ((nx l p 6).1==0) ((LC 15 zf [cQ,(aA l ((nx l p 6).2)),(nK ins aa fuel param),(aH ins),(bZ aa),(.box (fL 21 0 0 0 0 0))] (je aa) [cQ,(aA l ((lv l (nx l p 6).2 ins fuel param).2)),(bf 1 3 ins.1 6 ((sx aa (lv l (nx l p 6).2 ins fuel param).1).1) fuel (↑param:Int)),(aH ins),.dead,(.box (fL 21 0 0 0 0 0)),(bZ (sx aa (lv l (nx l p 6).2 ins fuel param).1))]/\(LC 14 [(.c (.rt 2 0 0)),(.a (fL 21 0 0 0 0 (Int.ofNat aa.1)))] [cQ,(aA l ((lv l (nx l p 6).2 ins fuel param).2)),(bf 1 3 ins.1 6 ((sx aa (lv l (nx l p 6).2 ins fuel param).1).1) fuel (↑param:Int)),(aH ins),.dead,(.box (fL 21 0 0 0 0 (Int.ofNat aa.1))),(bZ (sx aa (lv l (nx l p 6).2 ins fuel param).1))] (eh ins) [cQ,(aA l ((lv l (nx l p 6).2 ins fuel param).2)),(bf 1 7 ((sn ins (dZ 21 0 0 0 0 (Int.ofNat aa.1))).1) 6 ((sx aa (lv l (nx l p 6).2 ins fuel param).1).1) fuel (↑param:Int)),.dead,.dead,(.box (fL 21 0 0 0 0 (Int.ofNat aa.1))),(bZ (sx aa (lv l (nx l p 6).2 ins fuel param).1)),(aH (sn ins (dZ 21 0 0 0 0 (Int.ofNat aa.1))))]/\QD (.a (lift (az ({ place:={ fn:=Int.ofNat 0,line:=Int.ofNat 0 },ins:=sn ins (dZ 21 0 0 0 0 (Int.ofNat aa.1)),aa:=sx aa (lv l (nx l p 6).2 ins fuel param).1 }))))))) (L (ai 5 26) ⟨[de,fZ,mf,(9,((int 0),[]))],[cQ,(aA l ((nx l p 6).2)),(nK ins aa fuel param),(aH ins),(bZ aa),(.box (fL 20 0 0 0 0 (-1)))],[]⟩))):cB (Fa l sn sx) 5 ph L (bL QD) 19 (DV sn sx l p ins aa fuel param x):=km h
noncomputable def sB (sn:Sq aj->aj->Sq aj) (sx:Sq ah->ah->Sq ah) (l:Sq Int) (p:Nat) (ins:Sq aj) (aa:Sq ah) (fuel:Int) (param:Nat) (hq:Sq Int) (k:Nat):VS:=⟨[jq,il,Ch,(9,int k,[])],[K5,aA l p,bf 1 3 ins.n 4 aa.n fuel param,aH ins,bZ aa,.box [.im (iI 20),.im (iI 0),.im (iI 0),.im (iI 0),.im (iI 0),.sa 6 hq.n,.im (iI 0),.im (iI 0),.im (iS ⟨⟨[]⟩⟩),.im (.v (.slice none 0 0)),.im (iI 0),.im (iI 0),.im (iI (-1)),.im (iB false)],.arr 3 1 hq.n (λi=>bA (hq.get i))],[]⟩
noncomputable abbrev JL (aw:Sq Int):ag:=.box [(ci 20),(ci 0),(ci 0),(ci 0),(ci 0),(.sa 6 aw.1),(ci 0),(ci 0),ff,fi,(ci 0),(ci 0),(ci (-1)),dS]
theorem KD (L:LP) (QD:D->Prop) (sn:Sq aj->aj->Sq aj) (sx:Sq ah->ah->Sq ah) (l:Sq Int) (p:Nat) (ins:Sq aj) (aa:Sq ah) (fuel:Int) (param:Nat) (hq:Sq Int) (k:Nat) (h:br (decide ((↑k:Int)<(↑param:Int))) ((WC 13 [(.c (.rt 1 0 0)),(int 2)] [cQ,(aA l p),(nK ins aa fuel param),(aH ins),(bZ aa),(JL hq),(iN hq)] (mh l p) 1 (aA l ((nx l p 2).2))/\br ((nx l p 2).1==0) (nd (b5 (hq.1+1) 8) (nd (hq.1.beq hq.1) (L (ai 5 26) ⟨[de,fZ,mf,(9,((int (IntKind.i64.wrap ((↑k:Int)+1))),[]))],[cQ,(gg l p),(nK ins aa fuel param),(aH ins),(bZ aa),(.box [(ci 20),(ci 0),(ci 0),(ci 0),(ci 0),(.sa 8 (.succ hq.1)),(ci 0),(ci 0),ff,fi,(ci 0),(ci 0),(ci (-1)),dS]),.dead,(.row 3 1 1 [(ci (↑k:Int))]),(PE hq k)],[]⟩))) ((WC 17 zf [cQ,(gg l p),(nK ins aa fuel param),(aH ins),(bZ aa),(JL hq),(iN hq),.dead,.dead,.dead] (lj l p ins) 1 (aA l ((vl l (nx l p 2).2 ins).2))/\nd (b5 (hq.1+1) 8) (nd (hq.1.beq hq.1) ((WC 17 zf [cQ,(gg l p),(nK ins aa fuel param),(aH ins),(bZ aa),(JL hq),(iN hq),.dead,.dead,.dead] (lj l p ins) 1 (aA l ((vl l (nx l p 2).2 ins).2))/\nd (b5 (hq.1+1) 8) (nd (hq.1.beq hq.1) (L (ai 5 26) ⟨[de,fZ,mf,(9,((int (IntKind.i64.wrap ((↑k:Int)+1))),[]))],[cQ,(oN l p ins),(nK ins aa fuel param),(aH ins),(bZ aa),(.box [(ci 20),(ci 0),(ci 0),(ci 0),(ci 0),(.sa 9 (.succ hq.1)),(ci 0),(ci 0),ff,fi,(ci 0),(ci 0),(ci (-1)),dS]),.dead,.dead,(.row 3 1 1 [(ci ((vl l (nx l p 2).2 ins).1))]),(.arr 3 1 (hq.1+1) (gA hq.1 (λi=>bA (hq.2 i)) (1,flat 1 [I.v (Value.int IntKind.i64 (vl l (nx l p 2).2 ins).1)]).snd))],[]⟩))))))))) (L (ai 5 31) ⟨[de,fZ,mf,(9,((int (↑k:Int)),[])),(103,((bool false),[]))],[cQ,(aA l p),(nK ins aa fuel param),(aH ins),(bZ aa),(JL hq),(iN hq)],[]⟩)):cB (Fa l sn sx) 5 ph L (bL QD) 26 (sB sn sx l p ins aa fuel param hq k):=km h
noncomputable def CO (sn:Sq aj->aj->Sq aj) (sx:Sq ah->ah->Sq ah) (l:Sq Int) (p:Nat) (ins:Sq aj) (aa:Sq ah) (fuel:Int) (param:Nat) (x:aj):VS:=⟨[jq,il,Ch],[K5,aA l p,bf 1 3 ins.n 4 aa.n fuel param,aH ins,bZ aa,.box (lift (aN x))],[]⟩
theorem TC (L:LP) (QD:D->Prop) (sn:Sq aj->aj->Sq aj) (sx:Sq ah->ah->Sq ah) (l:Sq Int) (p:Nat) (ins:Sq aj) (aa:Sq ah) (fuel:Int) (param:Nat) (x:aj) (h:(LC 14 [(.c (.rt 2 0 0)),(.a (lift (aN (x))))] (D5 l p ins aa fuel param x) (eh ins) [cQ,(aA l p),(bf 1 6 ((sn ins x).1) 4 aa.1 fuel (↑param:Int)),.dead,(bZ aa),(ez x),(aH (sn ins x))]/\QD (.a (lift (az ({ place:={ fn:=Int.ofNat 0,line:=Int.ofNat 0 },ins:=sn ins x,aa:=aa })))))):cB (Fa l sn sx) 5 ph L (bL QD) 31 (CO sn sx l p ins aa fuel param x):=km h
theorem UF (l:Sq Int) (p:Nat) (ins:Sq aj) (aa:Sq ah) (fuel:Int) (param:Nat) (x:aj) (hI:ins.n<=1000):af 5 0 (bF (a7 (⟨⟨0,0⟩,cj ins x,aa⟩))) (ai 5 31) (CO cj cq l p ins aa fuel param x):=by
 refine aR (X:=Fa l cj cq) (stop:=ph) (TC _ _ cj cq l p ins aa fuel param x ⟨fg (m:=1) (q:=2) (i:=3) (j:=4) _ _ hI (bh.refl _) rfl (aQ rfl) rfl rfl (aQ rfl),?_⟩)
 exact bh.refl _
theorem Ue (l:Sq Int) (ins:Sq aj) (aa:Sq ah) (fuel:Int) (param:Nat) (hl:l.n<=maxLen) (hI:ins.n<=1000) (hP:param<=900) (o:Sq Int):∀ k,k<=param->∀ (p:Nat) (hq:Sq Int),hq.n<=k->zW l ins (param-k) k p hq=o->af 5 0 (bF (a7 (Zx ⟨0,ins,aa⟩ o))) (ai 5 26) (sB cj cq l p ins aa fuel param hq k):=by
 refine aU (λk hk ih p hq hh ho=>?_) (λp hq hh ho=>?_)
 .have q:param-k=(param-(k+1))+1:=by omega
  rw [q] at ho
  refine aR (X:=Fa l cj cq) (stop:=ph) (KD _ _ cj cq l p ins aa fuel param hq k ?_)
  rw [dr hk (cW hP (by decide))]
  refine aq (λh3=>?_) (λh3=>(dec_lt h3 hk).elim)
  refine ⟨eQ l _ _ hl rfl,aq (λh4=>?_) (λh4=>?_)⟩
  .have e:zW l ins (param-(k+1)+1) k p hq=zW l ins (param-(k+1)) (k+1) (nx l p 2).2 (ek hq ⟨1,λ_=>(k:Int)⟩):=by
    rw [show zW l ins (param-(k+1)+1) k p hq=(bif (nx l p 2).1==0 then zW l ins (param-(k+1)) (k+1) (nx l p 2).2 (ek hq ⟨1,λ_=>(k:Int)⟩) else zW l ins (param-(k+1)) (k+1) (vl l (nx l p 2).2 ins).2 (ek hq ⟨1,λ_=>(vl l (nx l p 2).2 ins).1⟩)) from rfl,show ((nx l p 2).1==0)=true from h4]; rfl
   rw [e] at ho
   refine aC (cZ (by omega) (by omega)) (aC (dq _) ?_)
   exact af.rename [0,1,2,3,4,5,8] rfl (af.lf (sB cj cq l (nx l p 2).2 ins aa fuel param (ek hq ⟨1,λ_=>(k:Int)⟩) (k+1)) (rc (rc (rc (rc (rc (rc (.cons (DS hq _) .nil))))))) (ih _ _ (by show hq.n+1<=_; omega) ho))
  .have e:zW l ins (param-(k+1)+1) k p hq=zW l ins (param-(k+1)) (k+1) (vl l (nx l p 2).2 ins).2 (ek hq ⟨1,λ_=>(vl l (nx l p 2).2 ins).1⟩):=by
    rw [show zW l ins (param-(k+1)+1) k p hq=(bif (nx l p 2).1==0 then zW l ins (param-(k+1)) (k+1) (nx l p 2).2 (ek hq ⟨1,λ_=>(k:Int)⟩) else zW l ins (param-(k+1)) (k+1) (vl l (nx l p 2).2 ins).2 (ek hq ⟨1,λ_=>(vl l (nx l p 2).2 ins).1⟩)) from rfl,show ((nx l p 2).1==0)=false from h4]; rfl
   rw [e] at ho
   refine ⟨fY (m:=1) (q:=2) (i:=3) (j:=4) l _ _ hl,aC (cZ (by omega) (by omega)) (aC (dq _) ⟨fY (m:=1) (q:=2) (i:=3) (j:=4) l _ _ hl,aC (cZ (by omega) (by omega)) (aC (dq _) ?_)⟩)⟩
   exact af.rename [0,1,2,3,4,5,9] rfl (af.lf (sB cj cq l (vl l (nx l p 2).2 ins).2 ins aa fuel param (ek hq ⟨1,λ_=>(vl l (nx l p 2).2 ins).1⟩) (k+1)) (rc (rc (rc (rc (rc (rc (.cons (DS hq _) .nil))))))) (ih _ _ (by show hq.n+1<=_; omega) ho))
 .rw [Nat.sub_self] at ho
  refine aR (X:=Fa l cj cq) (stop:=ph) (KD _ _ cj cq l p ins aa fuel param hq _ ?_)
  refine aq (λh3=>bS h3) (λh3=>?_)
  have ho:hq=o:=ho
  subst ho
  exact af.freeze 6 rfl (af.rename [0,1,2,3,4,5] rfl (af.lf (CO cj cq l p ins aa fuel param { dZ 20 0 0 0 0 (-1) with args:=hq }) (rc (rc (rc (rc (rc (.cons (aO.box (by repeat' (first|exact aB.nil|refine aB.cons ?_ ?_|exact jg.refl _|exact jg.nil _ _))) .nil)))))) (UF l p ins aa fuel param _ hI)))
theorem TW (l:Sq Int) (p:Nat) (ins:Sq aj) (aa:Sq ah) (fuel:Int) (param:Nat) (x:aj) (hl:l.n<=maxLen) (hI:ins.n<=900) (hE:aa.n<=900) (hF:0<=fuel/\fuel<=1000) (hP:param<=900):af 5 0 (bF (a7 (vJ l fuel param ⟨p,ins,aa⟩))) (ai 5 19) (DV cj cq l p ins aa fuel param x):=by
 refine aR (X:=Fa l cj cq) (stop:=ph) (Vh _ _ cj cq l p ins aa fuel param x ⟨eQ l _ _ hl rfl,aq (λh=>?_) (λh=>?_)⟩)
 .rw [show vJ l fuel param ⟨p,ins,aa⟩=⟨⟨0,0⟩,cj ins (dZ 21 0 0 0 0 (aa.n:Int)),cq aa (lv l (nx l p 6).2 ins fuel param).1⟩ from by unfold vJ; rw [show ((nx l p 6).1==0)=true from h]; rfl]
  exact ⟨ot (m:=1) (q:=2) (i:=3) (j:=4) l _ _ _ hl,fg (m:=1) (q:=2) (i:=3) (j:=6) _ _,bh.refl _⟩
 .rw [show vJ l fuel param ⟨p,ins,aa⟩=Zx ⟨0,ins,aa⟩ (zW l ins param 0 (nx l p 6).2 (bc 0)) from by unfold vJ; rw [show ((nx l p 6).1==0)=false from h]; rfl]
  exact af.hX 5 5 3 1 _ rfl rfl (af.lf (sB cj cq l (nx l p 6).2 ins aa fuel param (bc 0) 0) (rc (rc (rc (rc (rc (rc (.cons (ug 3 1 _ _) .nil))))))) (Ue l ins aa fuel param hl (by omega) hP _ 0 (bu _) _ (bc 0) (bu _) rfl))
theorem VP (l:Sq Int) (fuel:Int) (param:Nat) (x:aj) (steps:Nat) (hl:l.n<=maxLen) (hF:0<=fuel/\fuel<=1000) (hP:param<=900) (hS:steps<=1000) (o:ae):∀ k,k<=steps->∀ (p:Nat) (ins:Sq aj) (aa:Sq ah),ins.n+4*(steps-k)<=900->aa.n+2*(steps-k)<=900->vJ l fuel param (WG l fuel param (steps-k) ⟨p,ins,aa⟩)=o->af 5 0 (bF (a7 (o))) (ai 5 16) (wx cj cq l p ins aa fuel param x steps k):=by
 refine aU (λk hk ih p ins aa hI hE ho=>?_) (λp ins aa hI hE ho=>?_)
 .have q:steps-k=(steps-(k+1))+1:=by omega
  rw [q] at ho hI hE
  refine aR (X:=Fa l cj cq) (stop:=ph) (Kv _ _ cj cq l p ins aa fuel param x steps k ?_)
  rw [dr hk (cW hS (by decide))]
  refine aq (λh3=>?_) (λh3=>(dec_lt h3 hk).elim)
  refine ⟨ah6 (m:=1) (q:=2) (i:=3) (j:=4) l p ins aa fuel param hl (by omega) (by omega) hF (by omega) rfl rfl rfl rfl rfl,?_⟩
  have g:=Fg l fuel param hP ⟨p,ins,aa⟩
  have g1:=g.ins
  have g2:=g.ex
  exact af.rename [0,1,2,7,6,5] rfl (af.lr (wx cj cq l (dC l fuel param ⟨p,ins,aa⟩).p (dC l fuel param ⟨p,ins,aa⟩).ins (dC l fuel param ⟨p,ins,aa⟩).ex fuel param x steps (k+1)) (ih _ _ _ (by show _+_<=_; have g1:_<=ins.n+4:=g1; omega) (by have g2:_<=aa.n+2:=g2; omega) ho))
 .rw [Nat.sub_self] at ho hI hE
  refine aR (X:=Fa l cj cq) (stop:=ph) (Kv _ _ cj cq l p ins aa fuel param x steps _ ?_)
  refine aq (λh3=>bS h3) (λh3=>?_)
  have ho:vJ l fuel param ⟨p,ins,aa⟩=o:=ho
  subst ho
  exact af.lr (DV cj cq l p ins aa fuel param x) (TW l p ins aa fuel param x hl (by omega) (by omega) hF hP)
theorem Zn (l:Sq Int) (p:Nat) (ins:Sq aj) (aa:Sq ah) (param:Nat) (hl:l.n<=maxLen) (hI:ins.n<=800) (hE:aa.n<=800) (hP:param<=900):af 5 0 (bF (a7 (Ss l param p ins aa))) (ai 5 7) (HZ cj cq l p ins aa param):=by
 obtain ⟨d,hd,dB⟩:=mi (l:=l) (p:=(lv l (nx l p 4).2 ins 0 param).2) (n:=14) (by omega) (by omega)
 have hf:=Kw (l:=l) (p:=p) (n:=4) (by omega) (by omega)
 have hF:(0:Int)<=0/\(0:Int)<=1000:=by omega
 refine aR (X:=Fa l cj cq) (stop:=ph) (ZZ _ _ cj cq l p ins aa param ?_)
 rw [iV (k:=1+(nx l p 4).1) (by omega) (by omega)]
 refine ⟨eQ l _ _ hl rfl,ot (m:=1) (q:=2) (i:=3) (j:=4) l _ _ _ hl,fg (m:=1) (q:=2) (i:=3) (j:=6) _ _,eQ l _ _ hl rfl,?_⟩
 rw [show Ss l param p ins aa=vJ l (1+(nx l p 4).1) param (WG l (1+(nx l p 4).1) param d (Wy l (1+(nx l p 4).1) param (nx l p 4).2 ins aa)) from by unfold Ss; rw [hd]; rfl]
 refine af.rename [0,1,2,7,6,5] rfl (af.le (wx cj cq l (Wy l (1+(nx l p 4).1) param (nx l p 4).2 ins aa).p (Wy l (1+(nx l p 4).1) param (nx l p 4).2 ins aa).ins (Wy l (1+(nx l p 4).1) param (nx l p 4).2 ins aa).ex (1+(nx l p 4).1) param (dZ 18 0 0 0 (1+(nx l p 4).1) (aa.n:Int)) d 0) ⟨⟨rfl,_,rfl,bh.refl _⟩,⟨rfl,_,rfl,bh.refl _⟩,⟨rfl,_,rfl,bh.refl _⟩,⟨rfl,_,rfl,by rw [hd]; exact bh.refl _⟩,⟨rfl,_,rfl,bh.refl _⟩,trivial⟩ (rc (rc (rc (rc (rc (.cons (aO.box (by repeat' (first|exact aB.nil|refine aB.cons ?_ ?_|exact jg.refl _|exact jg.nil _ _))) .nil)))))) rfl (VP l _ param _ d hl (by omega) hP (by omega) _ 0 (bu _) _ _ _ (by show ins.n+1+4*(d-0)<=900; omega) (by show aa.n+1+2*(d-0)<=900; omega) rfl))
theorem Zu (l:Sq Int) (p:Nat) (aa:Sq ah) (param:Nat) (hl:l.n<=maxLen) (hE:aa.n<=800) (hP:param<=500) (o:ae):∀ k,k<=param->∀ (ins:Sq aj),ins.n<=k->Ss l param p (Py (param-k) k ins) aa=o->af 5 0 (bF (a7 (o))) (ai 5 4) (Bu cj cq l p ins aa param k):=by
 refine aU (λk hk ih ins hI ho=>?_) (λins hI ho=>?_)
 .have q:param-k=(param-(k+1))+1:=by omega
  rw [q] at ho
  refine aR (X:=Fa l cj cq) (stop:=ph) (Ob _ _ cj cq l p ins aa param k ?_)
  rw [dr hk (cW hP (by decide))]
  refine aq (λh3=>?_) (λh3=>(dec_lt h3 hk).elim)
  refine ⟨fg (m:=1) (q:=2) (i:=3) (j:=4) _ (pI k) (by omega) (by first|exact bh.refl _|exact Un (by repeat' (first|exact aB.nil|refine aB.cons ?_ ?_|exact jg.refl _|exact jg.nil _ _))) rfl (aQ rfl) rfl rfl (aQ rfl),?_⟩
  exact af.rename [0,1,2,5,4] rfl (af.lr (Bu cj cq l p (cj ins (pI k)) aa param (k+1)) (ih _ (by show ins.n+1<=_; omega) ho))
 .rw [Nat.sub_self] at ho
  refine aR (X:=Fa l cj cq) (stop:=ph) (Ob _ _ cj cq l p ins aa param _ ?_)
  refine aq (λh3=>bS h3) (λh3=>?_)
  have ho:Ss l param p ins aa=o:=ho
  subst ho
  exact af.lr (HZ cj cq l p ins aa param) (Zn l p ins aa param hl (by omega) hE (by omega))
theorem WK (l:Sq Int) (hl:l.n<=maxLen):LC 5 [iM 1 bA l] [] (a7 (made l)) []:=by
 obtain ⟨d,hd,dB⟩:=mi (l:=l) (p:=0) (n:=4) (by omega) (by omega)
 refine pv (X:=Fa l cj cq) (stop:=ph) aE7 (aA7 _ _ cj cq l ⟨eQ l 0 _ hl rfl,?_⟩)
 rw [hd,show IntKind.i64.wrap (1+(d:Int))=((1+d:Nat):Int) from by rw [show 1+(d:Int)=((1+d:Nat):Int) by omega,mC (by omega)]]
 rw [show made l=Ss l (1+d) (nx l 0 4).2 (Py (1+d) 0 nR) yd from by unfold made; rw [hd]; rfl]
 exact af.hX 2 3 56 14 _ rfl rfl (af.hX 2 4 72 3 _ rfl rfl (af.lf (Bu cj cq l (nx l 0 4).2 nR yd (1+d) 0) (rc (rc (rc (.cons (ug 56 14 _ _) (.cons (ug 72 3 _ _) .nil))))) (Zu l _ yd (1+d) hl (bu _) (by omega) _ 0 (bu _) nR (bu _) rfl)))
end Go.Proofs.Ytgbbdaegmfjahaa
namespace Go.V
noncomputable section
def SE (l:List O):Nat->O:=List.rec (λ_=>.im (.v (.bool false))) (λx _ ih k=>Nat.rec x (λm _=>ih m) k) l
def yY (s:Sq Int):O:=.ar 3 1 s.n λi=>bA (s.get i)
def Nw (s:Sq ByteArray):O:=.ar 9 1 s.n λi=>cw (s.get i)
def aA0 (x:aj):List O:=[.im (iI x.op),.im (iI x.a),.im (iI x.b),.im (iI x.c),.im (iI x.n),yY x.args,.im (iI x.k.kind),.im (iI x.k.n),.im (iS x.k.s),Nw x.names,.im (iI x.place.fn),.im (iI x.place.line),.im (iI x.exit),.im (iB x.once)]
def j9 (x:aj):Nat->O:=SE (aA0 x)
def du (x:cK):Nat->O:=SE [.im (iI x.fn),.im (iI x.line),yY x.vars]
def o6 (x:cG):Nat->O:=SE [.im (iI x.value),.im (iI x.cls),Nw x.names,yY x.items]
def vO (s:Sq cK):O:=.ns 74 3 s.n λi=>du (s.get i)
def FE (s:Sq cG):O:=.ns 77 4 s.n λi=>o6 (s.get i)
def iU (x:ah):Nat->O:=SE [vO x.frames,FE x.ax,.im (iI x.back)]
def zq (s:Sq cK):ag:=.bt 74 3 s.n (λi=>du (s.get i)) none
def aJ8 (s:Sq cG):ag:=.bt 77 4 s.n (λi=>o6 (s.get i)) none
def kg (s:Sq aj):ag:=.bt 56 14 s.n (λi=>j9 (s.get i)) none
def rM (s:Sq ah):ag:=.bt 72 3 s.n (λi=>iU (s.get i)) none
def mz (s:Sq Int):ag:=.arr 3 1 s.n (λi=>bA (s.get i))
def aJ4 (s:Sq ByteArray):ag:=.arr 9 1 s.n (λi=>cw (s.get i))
def IJ (f:Nat->O):List Fc->Nat->Prop
 | [],_=>True
 | c::l,j=>aW c (.o (f j))/\IJ f l (j+1)
end
def oF (x y:O):Prop:=∀ (av:Nat->Prop) (base:Nat) (w:World) (K:Nat->Prop) (v:Value),fb av base w x K v->fb av base w y K v
theorem oF.refl (x:O):oF x x:=λ_ _ _ _ _ h=>h
theorem oF.im {x y:I} (h:cH x y):oF (.im x) (.im y):=λav _ w _ v q=>h av w v q
theorem oF.ar {e sz n:Nat} {g g':Nat->Nat->I} (h:∀ i,i<n->∀ j,j<sz->cH (g i j) (g' i j)):oF (.ar e sz n g) (.ar e sz n g'):=by
 rintro av base w K v ⟨h0,xs,h1,h2⟩
 refine ⟨h0,xs,h1,λi hi j hj=>?_⟩
 obtain ⟨x,q1,q2⟩:=h2 i hi j hj
 exact ⟨x,q1,h i hi j hj _ _ _ q2⟩
theorem oF.ns {e sz n:Nat} {g g':Nat->Nat->O} (h:∀ i,i<n->∀ j,j<sz->oF (g i j) (g' i j)):oF (.ns e sz n g) (.ns e sz n g'):=by
 rintro av base w K v ⟨h0,xs,h1,Ks,hp,h2⟩
 refine ⟨h0,xs,h1,Ks,hp,λi hi j hj=>?_⟩
 obtain ⟨x,q1,q2⟩:=h2 i hi j hj
 exact ⟨x,q1,h i hi j hj _ _ _ _ _ q2⟩
theorem aW.o {x y:O} (h:oF x y):aW (.o x) (.o y):=λ_ av base w K v q=>h av base w K v q
theorem aW.trans {x y z:Fc} (h:aW x y) (k:aW y z):aW x z:=λE av base w K v q=>k _ _ _ _ _ _ (h _ _ _ _ _ _ q)
theorem KL {f:Nat->O}:∀ {l:List Fc} {j0:Nat},IJ f l j0->∀ (j:Nat) (c:Fc),l[j]?=some c->aW c (.o (f (j0+j)))
 | [],_,_,j,c,h=>by simp at h
 | x::l,j0,hf,0,c,h=>by
   simp only [List.getElem?_cons_zero,ak] at h
   subst h
   exact hf.1
 | x::l,j0,hf,j+1,c,h=>by
   have:=KL hf.2 j c (by simpa using h)
   rwa [show j0+1+j=j0+(j+1) by omega] at this
theorem aO.bt {el sz n:Nat} {get get':Nat->Nat->O} (h:∀ i,i<n->∀ j,j<sz->oF (get i j) (get' i j)):aO (.bt el sz n get none) (.bt el sz n get' none):=
 ⟨λ_=>trivial,λbase E w e av q=>BU (λx hx=>by cases hx) (λi hi j hj c hc=>by
  simp only [fS,ak] at hc
  subst hc
  exact ⟨_,rfl,aW.o (h i hi j hj)⟩) q⟩
theorem aO.tE {el sz n:Nat} {get:Nat->Nat->I} {get':Nat->Nat->O} (h:∀ i,i<n->∀ j,j<sz->get' i j=.im (get i j)):aO (.arr el sz n get) (.bt el sz n get' none):=
 ⟨λ_=>trivial,λbase E w e av q=>JT h q⟩
theorem aO.WR {el sz n k:Nat} {get get':Nat->Nat->O} {l:List Fc} (h:IJ (get' k) l 0) (h2:∀ i,i<n->i≠k->∀ j,j<sz->oF (get i j) (get' i j)):aO (.bt el sz n get (some (k,l))) (.bt el sz n get' none):=
 ⟨λ_=>trivial,λbase E w e av q=>BU (λx hx=>by cases hx) (λi hi j hj c hc=>by
  unfold fS at hc
  cases hb:Nat.beq i k with
  | true=>
    have:=Nat.eq_of_beq_eq_true hb
    subst this
    simp only [hb,bp] at hc
    exact ⟨_,rfl,by have:=KL h j c hc; rwa [Nat.zero_add] at this⟩
  | false=>
    simp only [hb,ak] at hc
    subst hc
    exact ⟨_,rfl,aW.o (h2 i hi (λe=>by subst e; rw [dq] at hb; cases hb) j hj)⟩) q⟩
theorem aO.Il {el sz n k:Nat} {get:Nat->Nat->O} {l:List Fc} (h:IJ (get k) l 0):aO (.bt el sz n get (some (k,l))) (.bt el sz n get none):=aO.WR h λ_ _ _ _ _=>oF.refl _
theorem aO.own {L L':List O} (h:aB oF L L'):aO (.own L) (.own L'):=⟨λ_=>trivial,by
 rintro base E w e av ⟨p1,p2,vs,p3,p4,Ks,p5,p6,p7⟩
 refine ⟨p1,λq=>?_,vs,p3,by rw [p4,h.length],Ks,p5,p6,λi o ho=>?_⟩
 .subst q
  cases h
  exact p2 rfl
 .have hi:i<L.length:=by rw [h.length]; exact (List.getElem?_eq_some_iff.1 ho).1
  have hx:=eK hi
  obtain ⟨v,g1,g2⟩:=p7 i _ hx
  exact ⟨v,g1,h.get hx ho _ _ _ _ _ g2⟩⟩
end Go.V
namespace Go.Proofs.Ytgbbdaegmfjahaa
open Go Go.V
section
variable {f:FuncId} {n0:Nat} {Q:D->List ag->Prop} {todo:List Item} {s:VS}
theorem af.focus (r k:Nat) {el sz n:Nat} {get:Nat->Nat->O} (hr:aV s.rs r=some (.bt el sz n get none)) (hk:k<n)
  (g:af f n0 Q todo ⟨s.sl,setAt s.rs r (.bt el sz n get (some (k,iY (get k) sz 0))),s.df⟩):af f n0 Q todo s:=
 λb cs hb=>Goal.focus hr hk (g b cs hb)
theorem af.open (r j:Nat) {k el sz n:Nat} {get:Nat->Nat->O} {l:List Fc} {x:O} (hr:aV s.rs r=some (.bt el sz n get (some (k,l)))) (hj:aV l j=some (.o x)) (hx:(gx x).live)
  (g:af f n0 Q todo ⟨s.sl,setAt s.rs r (.bt el sz n get (some (k,setAt l j (.c (.sa s.rs.length (lH x))))))++[gx x],s.df⟩):af f n0 Q todo s:=
 λb cs hb=>Goal.open hr hj hx (g b cs hb)
theorem af.close (r j q:Nat) {m k el sz n:Nat} {get:Nat->Nat->O} {l:List Fc} {x:ag} {o:O} (hr:aV s.rs r=some (.bt el sz n get (some (k,l)))) (hj:aV l j=some (.c (.sa q m))) (hq:aV s.rs q=some x) (ho:L7 x=some o) (hm:m=lH o) (LY:Nat.beq r q=false)
  (g:af f n0 Q todo ⟨s.sl,setAt (setAt s.rs q .dead) r (.bt el sz n get (some (k,setAt l j (.o o)))),s.df⟩):af f n0 Q todo s:=
 λb cs hb=>Goal.close hr hj hq ho hm (λe=>by rw [e,dq] at LY; cases LY) (g b cs hb)
theorem af.split (r q:Nat) {k el sz n:Nat} {get:Nat->Nat->O} {l:List Fc} {L:List O} (hr:aV s.rs r=some (.bt el sz n get (some (k,l)))) (hq:aV s.rs q=some (.own L)) (hL:∀ o∈L,(gx o).live)
  (g:af f n0 Q todo ⟨s.sl,setAt (setAt s.rs q .dead++L.map gx) r (.bt el sz n get (some (k,l.map (La q s.rs.length L)))),s.df⟩):af f n0 Q todo s:=
 λb cs hb=>Goal.split hr hq hL (g b cs hb)
theorem af.Wk (r p q:Nat) {o o':O} {x x':ag} (hp:aV s.rs p=some x) (ho:L7 x=some o) (hq:aV s.rs q=some x') (Rh:L7 x'=some o') (hpq:Nat.beq p q=false) (hrp:Nat.beq r p=false) (LY:Nat.beq r q=false) {l l':List C} (hr:aV s.rs r=some (.box l)) (hl:aB (Th s.rs.length [p,q] [o,o']) l l')
  (g:af f n0 Q todo ⟨s.sl,setAt (setAt (setAt s.rs p .dead) q .dead++[.own [o,o']]) r (.box l'),s.df⟩):af f n0 Q todo s:=
 λb cs hb=>by
  have npq:p≠q:=λe=>by rw [e,dq] at hpq; cases hpq
  have nrp:r≠p:=λe=>by rw [e,dq] at hrp; cases hrp
  have nrq:r≠q:=λe=>by rw [e,dq] at LY; cases LY
  rw [bV] at hp hq hr
  have Gb:=(List.getElem?_eq_some_iff.1 hp).1
  have hql:=(List.getElem?_eq_some_iff.1 hq).1
  refine Goal.pack (ps:=[p,q]) (L:=[o,o']) (by simp) (.cons ⟨x,hp,ho⟩ (.cons ⟨x',hq,Rh⟩ .nil)) ?_ (fa:=setAt (setAt s.rs p .dead) q .dead) (by simp [aT]) ?_ (r:=r) (l:=l) ?_ hl (g b cs hb)
  .intro i j z h1 h2
   match i,j,h1,h2 with
   | 0,0,_,_=>rfl
   | 1,1,_,_=>rfl
   | 0,1,h1,h2=>simp at h1 h2; exact (npq (h1.trans h2.symm)).elim
   | 1,0,h1,h2=>simp at h1 h2; exact (npq (h2.trans h1.symm)).elim
   | i+2,_,h1,_=>simp at h1
   | 0,j+2,_,h2=>simp at h2
   | 1,j+2,_,h2=>simp at h2
  .intro i y h1 h2
   rw [aT,aT,dI,dI] at h1
   split at h1
   .split at h1
    .simp only [ak] at h1; subst h1; exact h2.elim
    .simp at h1
   .rename_i hiq
    split at h1
    .first
     | (simp only [ak] at h1; subst h1; exact h2.elim)
     | (split at h1
        .simp only [ak] at h1; subst h1; exact h2.elim
        .simp at h1)
    .rename_i hip
     refine ⟨h1,λhm=>?_⟩
     simp only [List.mem_cons,List.not_mem_nil,or_false] at hm
     rcases hm with e|e
     .exact hip e.symm
     .exact hiq e.symm
  .rw [aT,aT,dI,if_neg (λe=>nrq e.symm),dI,if_neg (λe=>nrp e.symm)]; exact hr
end
theorem jv (n:Nat) (ps:List Nat) (L:List O) (c:C):Th n ps L c c:=.inl rfl
theorem DK {n:Nat} {ps:List Nat} {L:List O} (i p m:Nat) {o:O} (h1:ps[i]?=some p) (h2:L[i]?=some o) (hm:m=lH o):Th n ps L (.sa p m) (.ow n i):=.inr ⟨i,p,o,by rw [hm],h1,h2,rfl⟩
open Go Go.V
noncomputable section
def XC:fN:={ F:=vh }
end
def qo:Nat->Bool:=λi=>Nat.beq i 1||Nat.beq i 3
theorem ad4:Fn 60:={}
theorem at5 (L:LP) (QE:D->List ag->Prop) (x:Sq Int) (h:L (ai 60 1) ⟨[(0,((nj x),[]))],[],[]⟩):fx XC 60 qo L QE [iM 1 bA x] []:=km h
noncomputable def Ey (n:Nat) (g:Nat->Int)  : VS:=⟨[(0,(.c (.im (.sl 1 n.succ (λi=>bA (g i))))),[])],[],[]⟩
noncomputable abbrev qD:fp:=(4,((bool false),[]))
theorem Pm (L:LP) (QE:D->List ag->Prop) (n:Nat) (g:Nat->Int)  (h:L (ai 60 3) ⟨[(0,((.c (.im (.sl 1 n.succ (λi=>bA (g i))))),[])),qD],[],[]⟩):cB XC 60 qo L QE 1 (Ey n g ):=km h
noncomputable abbrev tI (aw:Nat):VS:=⟨[(0,(.c (.im (.v (.slice .none 0 aw)))),[])],[],[]⟩
noncomputable def Gq (cap:Nat)  : VS:=(tI cap)
theorem NQ (L:LP) (QE:D->List ag->Prop) (cap:Nat)  (h:QE (.c (.im (.v (.slice .none 0 0)))) []):cB XC 60 qo L QE 1 (Gq cap ):=km h
noncomputable abbrev tR (aw:Addr) (aG:Nat):VS:=⟨[(0,(.c (.im (.v (.slice (.some aw) 0 aG)))),[])],[],[]⟩
noncomputable def EN (a:Addr) (cap:Nat)  : VS:=(tR a cap)
noncomputable abbrev A3 (aw:Addr) (aG:Nat):VS:=⟨[(0,((.c (.im (.v (.slice (.some aw) 0 aG)))),[])),qD],[],[]⟩
theorem Oz (L:LP) (QE:D->List ag->Prop) (a:Addr) (cap:Nat)  (h:L (ai 60 3) (A3 a cap)):cB XC 60 qo L QE 1 (EN a cap ):=km h
noncomputable def tk (n:Nat) (g:Nat->Nat->Go.V.I)  : VS:=⟨[(0,.c (.im (.sl 1 n g)),[])],[],[]⟩
theorem Qb (L:LP) (QE:D->List ag->Prop) (n:Nat) (g:Nat->Nat->Go.V.I)  (h:nd (b5 (0+n) 8) (QE (.c (.sa 1 (0+n))) [.dead,(.arr 3 1 (0+n) (gA 0 iW g))])):cB XC 60 qo L QE 3 (tk n g ):=km h
theorem sb {x y:Go.V.I} (h:cH x y):bh (.c (.im x)) (.c (.im y)):=λE av w v q=>h av w v q
theorem af.wJ {f:FuncId} {n0:Nat} {Q:D->List ag->Prop} {todo:List Item} {s:VS} {t:Tmp} {sz:Nat} {get:Nat->Nat->Go.V.I} (ht:eJ s.sl t=some (.c (.im (.sl sz 0 get)))) (g:∀ (ad:Option Addr) (cap:Nat),af f n0 Q todo ⟨(t,.c (.im (.v (.slice ad 0 cap))),[])::s.sl,s.rs,s.df⟩):af f n0 Q todo s:=
 λb cs hb=>Goal.wJ ht λad cap=>g ad cap b cs hb
theorem mA {f:FuncId} (hf:Fn f) {ds:List D} {rs:List ag} {d:D} {aJ:List ag} (hl:ds.length<=(wv f).ntmps) (h:af f rs.length (Go.V.mZ rs d aJ) [.code (oo f)] ⟨dk 0 ds,rs,[]⟩):LC f ds rs d aJ:=by
 obtain ⟨h1,h2⟩:=A4 f _ hf.my
 exact Rv qi h1 h2 hf.body hl h
theorem KT (n:Nat) (g:Nat->Int) (hx:n<=1000):af 60 0 (mZ [] (.c (.sa 0 (n))) [.arr 3 1 (n) (λi=>bA (g i))]) (ai 60 3) (tk n λi=>bA (g i)):=by
 refine aF (X:=XC) (stop:=qo) (Qb _ _ n _ ?_)
 refine aC (cZ (by omega) (by omega)) ?_
 refine .inl ?_
 rw [Nat.zero_add]
 exact ⟨[1],.c (.sa 0 n),_,_,rfl,(.cons (aO.arr λi _ j _=>cH.refl _) .nil),⟨1,aQ rfl,aQ rfl,rfl,rfl,bh.refl _,⟨rfl,trivial⟩⟩⟩
theorem Vy (n:Nat) (g:Nat->Int) (hx:n<=1000):af 60 0 (mZ [] (.c (.sa 0 (n))) [.arr 3 1 (n) (λi=>bA (g i))]) (ai 60 1) ⟨[(0,iM 1 bA ⟨n,g⟩,[])],[],[]⟩:=by
 cases n with
 | zero=>
   refine af.wJ (t:=0) rfl λad cap=>?_
   cases ad with
   | none=>
     refine af.lr (Gq cap) ((aF (X:=XC) (stop:=qo) (NQ _ _ cap ?_)))
     exact .inr ⟨rfl,rfl,rfl,_,_,_,rfl⟩
   | some a=>
     refine af.lr (EN a cap) (aF (X:=XC) (stop:=qo) (Oz _ _ a cap ?_))
     exact af.le (tk 0 λi=>bA (g i)) ⟨⟨rfl,_,rfl,sb lA⟩,trivial⟩ .nil rfl (KT 0 g (by omega))
 | succ n=>
   refine af.lr (Ey n g) (aF (X:=XC) (stop:=qo) (Pm _ _ n g ?_))
   exact af.lr (tk (n+1) λi=>bA (g i)) (KT (n+1) g hx)
theorem w8 (x:Sq Int) (hx:x.n<=1000):LC 60 [iM 1 bA x] [] (.c (.sa 0 x.n)) [.arr 3 1 x.n (λi=>bA (x.get i))]:=
 mA ad4 (aQ (by kernel_rfl)) (dc (X:=XC) (stop:=qo) (at5 _ _ x (Vy x.n x.get hx)))
def qt:Nat->Bool:=λi=>Nat.beq i 1||Nat.beq i 3
theorem ad8:Fn 61:={}
theorem an1 (L:LP) (QD:D->Prop) (x:Sq ByteArray) (h:L (ai 61 1) ⟨[(nV x)],[],[]⟩):fx XC 61 qt L (bL QD) [iM 1 cw x] []:=km h
noncomputable def En (n:Nat) (g:Nat->ByteArray)  : VS:=⟨[(0,(.c (.im (.sl 1 n.succ (λi=>cw (g i))))),[])],[],[]⟩
theorem Q3 (L:LP) (QD:D->Prop) (n:Nat) (g:Nat->ByteArray)  (h:L (ai 61 3) ⟨[(0,((.c (.im (.sl 1 n.succ (λi=>cw (g i))))),[])),qD],[],[]⟩):cB XC 61 qt L (bL QD) 1 (En n g ):=km h
noncomputable def FF (cap:Nat)  : VS:=(tI cap)
theorem RK (L:LP) (QD:D->Prop) (cap:Nat)  (h:QD (.c fi)):cB XC 61 qt L (bL QD) 1 (FF cap ):=km h
noncomputable def GI (a:Addr) (cap:Nat)  : VS:=(tR a cap)
theorem RM (L:LP) (QD:D->Prop) (a:Addr) (cap:Nat)  (h:L (ai 61 3) (A3 a cap)):cB XC 61 qt L (bL QD) 1 (GI a cap ):=km h
noncomputable def tl (n:Nat) (g:Nat->Nat->Go.V.I)  : VS:=⟨[(0,.c (.im (.sl 1 n g)),[])],[],[]⟩
theorem Ns (L:LP) (QD:D->Prop) (n:Nat) (g:Nat->Nat->Go.V.I)  (h:nd (b5 (0+n) 16) (QD (.c (.im (.sl 1 (0+n) (gA 0 iW g)))))):cB XC 61 qt L (bL QD) 3 (tl n g ):=km h
theorem KM (n:Nat) (g:Nat->ByteArray) (hx:n<=1000):af 61 0 (bF (iM 1 cw ⟨n,g⟩)) (ai 61 3) (tl n λi=>cw (g i)):=by
 refine aR (X:=XC) (stop:=qt) (Ns _ _ n _ ?_)
 refine aC (cZ (by omega) (by omega)) ?_
 rw [Nat.zero_add]
 exact sb (cH.sl λi _ j _=>cH.refl _)
theorem Vq (n:Nat) (g:Nat->ByteArray) (hx:n<=1000):af 61 0 (bF (iM 1 cw ⟨n,g⟩)) (ai 61 1) ⟨[(0,iM 1 cw ⟨n,g⟩,[])],[],[]⟩:=by
 cases n with
 | zero=>
   refine af.wJ (t:=0) rfl λad cap=>?_
   cases ad with
   | none=>
     refine af.lr (FF cap) ((aR (X:=XC) (stop:=qt) (RK _ _ cap ?_)))
     exact λE av w v q=>jg.nil 1 _ E av w v q
   | some a=>
     refine af.lr (GI a cap) (aR (X:=XC) (stop:=qt) (RM _ _ a cap ?_))
     exact af.le (tl 0 λi=>cw (g i)) ⟨⟨rfl,_,rfl,sb lA⟩,trivial⟩ .nil rfl (KM 0 g (by omega))
 | succ n=>
   refine af.lr (En n g) (aR (X:=XC) (stop:=qt) (Q3 _ _ n g ?_))
   exact af.lr (tl (n+1) λi=>cw (g i)) (KM (n+1) g hx)
theorem Dd (x:Sq ByteArray) (hx:x.n<=1000):LC 61 [iM 1 cw x] [] (iM 1 cw x) []:=
 pv (X:=XC) (stop:=qt) ad8 (an1 _ _ x (Vq x.n x.get hx))
def qu:Nat->Bool:=λi=>Nat.beq i 1||Nat.beq i 3
theorem ah0:Fn 58:={}
theorem at8 (L:LP) (QE:D->List ag->Prop) (x:Sq aj) (h:L (ai 58 1) ⟨[(0,((Cx x),[]))],[],[]⟩):fx XC 58 qu L QE [iM 14 fT x] []:=km h
noncomputable def FQ (n:Nat) (g:Nat->aj)  : VS:=⟨[(0,(.c (.im (.sl 14 n.succ (λi=>fT (g i))))),[])],[],[]⟩
theorem PC (L:LP) (QE:D->List ag->Prop) (n:Nat) (g:Nat->aj)  (h:L (ai 58 3) ⟨[(0,((.c (.im (.sl 14 n.succ (λi=>fT (g i))))),[])),qD],[],[]⟩):cB XC 58 qu L QE 1 (FQ n g ):=km h
noncomputable def FV (cap:Nat)  : VS:=(tI cap)
theorem R8 (L:LP) (QE:D->List ag->Prop) (cap:Nat)  (h:QE (.c (.im (.v (.slice .none 0 0)))) []):cB XC 58 qu L QE 1 (FV cap ):=km h
noncomputable def FO (a:Addr) (cap:Nat)  : VS:=(tR a cap)
theorem Qh (L:LP) (QE:D->List ag->Prop) (a:Addr) (cap:Nat)  (h:L (ai 58 3) (A3 a cap)):cB XC 58 qu L QE 1 (FO a cap ):=km h
noncomputable def sM (n:Nat) (g:Nat->Nat->Go.V.I)  : VS:=⟨[(0,.c (.im (.sl 14 n g)),[])],[],[]⟩
theorem PL (L:LP) (QE:D->List ag->Prop) (n:Nat) (g:Nat->Nat->Go.V.I)  (h:nd (b5 (0+n) 152) (QE (.c (.sa 1 (0+n))) [.dead,(.arr 56 14 (0+n) (gA 0 iW g))])):cB XC 58 qu L QE 3 (sM n g ):=km h
theorem JC (n:Nat) (g:Nat->aj) (hx:n<=1000):af 58 0 (mZ [] (.c (.sa 0 (n))) [.arr 56 14 (n) (λi=>fT (g i))]) (ai 58 3) (sM n λi=>fT (g i)):=by
 refine aF (X:=XC) (stop:=qu) (PL _ _ n _ ?_)
 refine aC (cZ (by omega) (by omega)) ?_
 refine .inl ?_
 rw [Nat.zero_add]
 exact ⟨[1],.c (.sa 0 n),_,_,rfl,(.cons (aO.arr λi _ j _=>cH.refl _) .nil),⟨1,aQ rfl,aQ rfl,rfl,rfl,bh.refl _,⟨rfl,trivial⟩⟩⟩
theorem Vo (n:Nat) (g:Nat->aj) (hx:n<=1000):af 58 0 (mZ [] (.c (.sa 0 (n))) [.arr 56 14 (n) (λi=>fT (g i))]) (ai 58 1) ⟨[(0,iM 14 fT ⟨n,g⟩,[])],[],[]⟩:=by
 cases n with
 | zero=>
   refine af.wJ (t:=0) rfl λad cap=>?_
   cases ad with
   | none=>
     refine af.lr (FV cap) ((aF (X:=XC) (stop:=qu) (R8 _ _ cap ?_)))
     exact .inr ⟨rfl,rfl,rfl,_,_,_,rfl⟩
   | some a=>
     refine af.lr (FO a cap) (aF (X:=XC) (stop:=qu) (Qh _ _ a cap ?_))
     exact af.le (sM 0 λi=>fT (g i)) ⟨⟨rfl,_,rfl,sb lA⟩,trivial⟩ .nil rfl (JC 0 g (by omega))
 | succ n=>
   refine af.lr (FQ n g) (aF (X:=XC) (stop:=qu) (PC _ _ n g ?_))
   exact af.lr (sM (n+1) λi=>fT (g i)) (JC (n+1) g hx)
theorem Rx (x:Sq aj) (hx:x.n<=1000):LC 58 [iM 14 fT x] [] (.c (.sa 0 x.n)) [.arr 56 14 x.n (λi=>fT (x.get i))]:=
 mA ah0 (aQ (by kernel_rfl)) (dc (X:=XC) (stop:=qu) (at8 _ _ x (Vo x.n x.get hx)))
def qq:Nat->Bool:=λi=>Nat.beq i 1||Nat.beq i 3
theorem ar7:Fn 59:={}
theorem ae7 (L:LP) (QE:D->List ag->Prop) (x:Sq ah) (h:L (ai 59 1) ⟨[(0,((.c (.im (.sl 3 x.1 (λi=>dw (x.2 i))))),[]))],[],[]⟩):fx XC 59 qq L QE [iM 3 dw x] []:=km h
noncomputable def Gf (n:Nat) (g:Nat->ah)  : VS:=⟨[(0,(.c (.im (.sl 3 n.succ (λi=>dw (g i))))),[])],[],[]⟩
theorem RD (L:LP) (QE:D->List ag->Prop) (n:Nat) (g:Nat->ah)  (h:L (ai 59 3) ⟨[(0,((.c (.im (.sl 3 n.succ (λi=>dw (g i))))),[])),qD],[],[]⟩):cB XC 59 qq L QE 1 (Gf n g ):=km h
noncomputable def ET (cap:Nat)  : VS:=(tI cap)
theorem Nc (L:LP) (QE:D->List ag->Prop) (cap:Nat)  (h:QE (.c (.im (.v (.slice .none 0 0)))) []):cB XC 59 qq L QE 1 (ET cap ):=km h
noncomputable def GB (a:Addr) (cap:Nat)  : VS:=(tR a cap)
theorem NX (L:LP) (QE:D->List ag->Prop) (a:Addr) (cap:Nat)  (h:L (ai 59 3) (A3 a cap)):cB XC 59 qq L QE 1 (GB a cap ):=km h
noncomputable def rT (n:Nat) (g:Nat->Nat->Go.V.I)  : VS:=⟨[(0,.c (.im (.sl 3 n g)),[])],[],[]⟩
theorem Re (L:LP) (QE:D->List ag->Prop) (n:Nat) (g:Nat->Nat->Go.V.I)  (h:nd (b5 (0+n) 56) (QE (.c (.sa 1 (0+n))) [.dead,(.arr 72 3 (0+n) (gA 0 iW g))])):cB XC 59 qq L QE 3 (rT n g ):=km h
theorem JQ (n:Nat) (g:Nat->ah) (hx:n<=1000):af 59 0 (mZ [] (.c (.sa 0 (n))) [.arr 72 3 (n) (λi=>dw (g i))]) (ai 59 3) (rT n λi=>dw (g i)):=by
 refine aF (X:=XC) (stop:=qq) (Re _ _ n _ ?_)
 refine aC (cZ (by omega) (by omega)) ?_
 refine .inl ?_
 rw [Nat.zero_add]
 exact ⟨[1],.c (.sa 0 n),_,_,rfl,(.cons (aO.arr λi _ j _=>cH.refl _) .nil),⟨1,aQ rfl,aQ rfl,rfl,rfl,bh.refl _,⟨rfl,trivial⟩⟩⟩
theorem TX (n:Nat) (g:Nat->ah) (hx:n<=1000):af 59 0 (mZ [] (.c (.sa 0 (n))) [.arr 72 3 (n) (λi=>dw (g i))]) (ai 59 1) ⟨[(0,iM 3 dw ⟨n,g⟩,[])],[],[]⟩:=by
 cases n with
 | zero=>
   refine af.wJ (t:=0) rfl λad cap=>?_
   cases ad with
   | none=>
     refine af.lr (ET cap) ((aF (X:=XC) (stop:=qq) (Nc _ _ cap ?_)))
     exact .inr ⟨rfl,rfl,rfl,_,_,_,rfl⟩
   | some a=>
     refine af.lr (GB a cap) (aF (X:=XC) (stop:=qq) (NX _ _ a cap ?_))
     exact af.le (rT 0 λi=>dw (g i)) ⟨⟨rfl,_,rfl,sb lA⟩,trivial⟩ .nil rfl (JQ 0 g (by omega))
 | succ n=>
   refine af.lr (Gf n g) (aF (X:=XC) (stop:=qq) (RD _ _ n g ?_))
   exact af.lr (rT (n+1) λi=>dw (g i)) (JQ (n+1) g hx)
theorem OK (x:Sq ah) (hx:x.n<=1000):LC 59 [iM 3 dw x] [] (.c (.sa 0 x.n)) [.arr 72 3 x.n (λi=>dw (x.get i))]:=
 mA ar7 (aQ (by kernel_rfl)) (dc (X:=XC) (stop:=qq) (ae7 _ _ x (TX x.n x.get hx)))
def qg:Nat->Bool:=λi=>Nat.beq i 1||Nat.beq i 3
theorem at1:Fn 62:={}
theorem ah3 (L:LP) (QE:D->List ag->Prop) (x:Sq cK) (h:L (ai 62 1) ⟨[(0,((.c (.im (.sl 3 x.1 (λi=>dg (x.2 i))))),[]))],[],[]⟩):fx XC 62 qg L QE [iM 3 dg x] []:=km h
noncomputable def Fl (n:Nat) (g:Nat->cK)  : VS:=⟨[(0,(.c (.im (.sl 3 n.succ (λi=>dg (g i))))),[])],[],[]⟩
theorem RO (L:LP) (QE:D->List ag->Prop) (n:Nat) (g:Nat->cK)  (h:L (ai 62 3) ⟨[(0,((.c (.im (.sl 3 n.succ (λi=>dg (g i))))),[])),qD],[],[]⟩):cB XC 62 qg L QE 1 (Fl n g ):=km h
noncomputable def Gp (cap:Nat)  : VS:=(tI cap)
theorem OT (L:LP) (QE:D->List ag->Prop) (cap:Nat)  (h:QE (.c (.im (.v (.slice .none 0 0)))) []):cB XC 62 qg L QE 1 (Gp cap ):=km h
noncomputable def Fo (a:Addr) (cap:Nat)  : VS:=(tR a cap)
theorem QS (L:LP) (QE:D->List ag->Prop) (a:Addr) (cap:Nat)  (h:L (ai 62 3) (A3 a cap)):cB XC 62 qg L QE 1 (Fo a cap ):=km h
noncomputable def tn (n:Nat) (g:Nat->Nat->Go.V.I)  : VS:=⟨[(0,.c (.im (.sl 3 n g)),[])],[],[]⟩
theorem QY (L:LP) (QE:D->List ag->Prop) (n:Nat) (g:Nat->Nat->Go.V.I)  (h:nd (b5 (0+n) 40) (QE (.c (.sa 1 (0+n))) [.dead,(.arr 74 3 (0+n) (gA 0 iW g))])):cB XC 62 qg L QE 3 (tn n g ):=km h
theorem J0 (n:Nat) (g:Nat->cK) (hx:n<=1000):af 62 0 (mZ [] (.c (.sa 0 (n))) [.arr 74 3 (n) (λi=>dg (g i))]) (ai 62 3) (tn n λi=>dg (g i)):=by
 refine aF (X:=XC) (stop:=qg) (QY _ _ n _ ?_)
 refine aC (cZ (by omega) (by omega)) ?_
 refine .inl ?_
 rw [Nat.zero_add]
 exact ⟨[1],.c (.sa 0 n),_,_,rfl,(.cons (aO.arr λi _ j _=>cH.refl _) .nil),⟨1,aQ rfl,aQ rfl,rfl,rfl,bh.refl _,⟨rfl,trivial⟩⟩⟩
theorem Tw (n:Nat) (g:Nat->cK) (hx:n<=1000):af 62 0 (mZ [] (.c (.sa 0 (n))) [.arr 74 3 (n) (λi=>dg (g i))]) (ai 62 1) ⟨[(0,iM 3 dg ⟨n,g⟩,[])],[],[]⟩:=by
 cases n with
 | zero=>
   refine af.wJ (t:=0) rfl λad cap=>?_
   cases ad with
   | none=>
     refine af.lr (Gp cap) ((aF (X:=XC) (stop:=qg) (OT _ _ cap ?_)))
     exact .inr ⟨rfl,rfl,rfl,_,_,_,rfl⟩
   | some a=>
     refine af.lr (Fo a cap) (aF (X:=XC) (stop:=qg) (QS _ _ a cap ?_))
     exact af.le (tn 0 λi=>dg (g i)) ⟨⟨rfl,_,rfl,sb lA⟩,trivial⟩ .nil rfl (J0 0 g (by omega))
 | succ n=>
   refine af.lr (Fl n g) (aF (X:=XC) (stop:=qg) (RO _ _ n g ?_))
   exact af.lr (tn (n+1) λi=>dg (g i)) (J0 (n+1) g hx)
theorem Qi (x:Sq cK) (hx:x.n<=1000):LC 62 [iM 3 dg x] [] (.c (.sa 0 x.n)) [.arr 74 3 x.n (λi=>dg (x.get i))]:=
 mA at1 (aQ (by kernel_rfl)) (dc (X:=XC) (stop:=qg) (ah3 _ _ x (Tw x.n x.get hx)))
def qv:Nat->Bool:=λi=>Nat.beq i 1||Nat.beq i 3
theorem aj6:Fn 63:={}
theorem aj4 (L:LP) (QE:D->List ag->Prop) (x:Sq cG) (h:L (ai 63 1) ⟨[(0,((.c (.im (.sl 4 x.1 (λi=>eX (x.2 i))))),[]))],[],[]⟩):fx XC 63 qv L QE [iM 4 eX x] []:=km h
noncomputable def Eg (n:Nat) (g:Nat->cG)  : VS:=⟨[(0,(.c (.im (.sl 4 n.succ (λi=>eX (g i))))),[])],[],[]⟩
theorem QJ (L:LP) (QE:D->List ag->Prop) (n:Nat) (g:Nat->cG)  (h:L (ai 63 3) ⟨[(0,((.c (.im (.sl 4 n.succ (λi=>eX (g i))))),[])),qD],[],[]⟩):cB XC 63 qv L QE 1 (Eg n g ):=km h
noncomputable def Gx (cap:Nat)  : VS:=(tI cap)
theorem MT (L:LP) (QE:D->List ag->Prop) (cap:Nat)  (h:QE (.c (.im (.v (.slice .none 0 0)))) []):cB XC 63 qv L QE 1 (Gx cap ):=km h
noncomputable def E7 (a:Addr) (cap:Nat)  : VS:=(tR a cap)
theorem OB (L:LP) (QE:D->List ag->Prop) (a:Addr) (cap:Nat)  (h:L (ai 63 3) (A3 a cap)):cB XC 63 qv L QE 1 (E7 a cap ):=km h
noncomputable def sI (n:Nat) (g:Nat->Nat->Go.V.I)  : VS:=⟨[(0,.c (.im (.sl 4 n g)),[])],[],[]⟩
theorem On (L:LP) (QE:D->List ag->Prop) (n:Nat) (g:Nat->Nat->Go.V.I)  (h:nd (b5 (0+n) 64) (QE (.c (.sa 1 (0+n))) [.dead,(.arr 77 4 (0+n) (gA 0 iW g))])):cB XC 63 qv L QE 3 (sI n g ):=km h
theorem KC (n:Nat) (g:Nat->cG) (hx:n<=1000):af 63 0 (mZ [] (.c (.sa 0 (n))) [.arr 77 4 (n) (λi=>eX (g i))]) (ai 63 3) (sI n λi=>eX (g i)):=by
 refine aF (X:=XC) (stop:=qv) (On _ _ n _ ?_)
 refine aC (cZ (by omega) (by omega)) ?_
 refine .inl ?_
 rw [Nat.zero_add]
 exact ⟨[1],.c (.sa 0 n),_,_,rfl,(.cons (aO.arr λi _ j _=>cH.refl _) .nil),⟨1,aQ rfl,aQ rfl,rfl,rfl,bh.refl _,⟨rfl,trivial⟩⟩⟩
theorem S2 (n:Nat) (g:Nat->cG) (hx:n<=1000):af 63 0 (mZ [] (.c (.sa 0 (n))) [.arr 77 4 (n) (λi=>eX (g i))]) (ai 63 1) ⟨[(0,iM 4 eX ⟨n,g⟩,[])],[],[]⟩:=by
 cases n with
 | zero=>
   refine af.wJ (t:=0) rfl λad cap=>?_
   cases ad with
   | none=>
     refine af.lr (Gx cap) ((aF (X:=XC) (stop:=qv) (MT _ _ cap ?_)))
     exact .inr ⟨rfl,rfl,rfl,_,_,_,rfl⟩
   | some a=>
     refine af.lr (E7 a cap) (aF (X:=XC) (stop:=qv) (OB _ _ a cap ?_))
     exact af.le (sI 0 λi=>eX (g i)) ⟨⟨rfl,_,rfl,sb lA⟩,trivial⟩ .nil rfl (KC 0 g (by omega))
 | succ n=>
   refine af.lr (Eg n g) (aF (X:=XC) (stop:=qv) (QJ _ _ n g ?_))
   exact af.lr (sI (n+1) λi=>eX (g i)) (KC (n+1) g hx)
theorem P1 (x:Sq cG) (hx:x.n<=1000):LC 63 [iM 4 eX x] [] (.c (.sa 0 x.n)) [.arr 77 4 x.n (λi=>eX (x.get i))]:=
 mA aj6 (aQ (by kernel_rfl)) (dc (X:=XC) (stop:=qv) (aj4 _ _ x (S2 x.n x.get hx)))
open Go Go.V
noncomputable def X84:fN:={ F:=vh }
noncomputable section
def Ex (x:aj) (q:Nat):List C:=[(.im (iI x.op)),(.im (iI x.a)),(.im (iI x.b)),(.im (iI x.c)),(.im (iI x.n)),(.ow q 0),(.im (iI x.k.kind)),(.im (iI x.k.n)),(.im (iS x.k.s)),(.ow q 1),(.im (iI x.place.fn)),(.im (iI x.place.line)),(.im (iI x.exit)),(.im (iB x.once))]
end
def T2:Nat->Bool:=λi=>Nat.beq i 4
theorem aE6:Fn 42:={}
noncomputable abbrev fW:fp:=(2,((.c (.rt 1 0 0)),[]))
theorem ax9 (L:LP) (QE:D->List ag->Prop) (x:aj) (h:nd (b5 (0+x.6.1) 8) (nd (b5 (0+x.8.1) 16) (L (ai 42 4) ⟨[fW,fZ],[(ez x),(.box (fL 0 0 0 0 0 0)),(.box [(ci x.1),(ci x.2),(ci x.3),(ci x.4),(ci x.5),(.sa 4 (0+x.6.1)),(ci x.7.1),(ci x.7.2),(.im (.v (.string x.7.3))),(.sa 6 (0+x.8.1)),(ci x.9.1),(ci x.9.2),(ci x.10),(.im (.v (.bool x.11)))]),.dead,(.arr 3 1 (0+x.6.1) (gA 0 iW (x.6.1,λi=>bA (x.6.2 i)).snd)),.dead,(.arr 9 1 (0+x.8.1) (gA 0 iW (x.8.1,λi=>cw (x.8.2 i)).snd))],[]⟩))):fx X84 42 T2 L QE [gL x] []:=km h
noncomputable abbrev l9:fp:=(2,.c (.rt 1 0 0),[])
noncomputable def Na (x:aj)  : VS:=⟨[l9,il],[.box (lift (aN x)),.box (fL 0 0 0 0 0 0),.box (Ex x 3),.own [yY x.args,Nw x.names]],[]⟩
theorem XE (L:LP) (QE:D->List ag->Prop) (x:aj)  (h:QE (.a [(ci x.1),(ci x.2),(ci x.3),(ci x.4),(ci x.5),(.ow 3 0),(ci x.7.1),(ci x.7.2),(.im (.v (.string x.7.3))),(.ow 3 1),(ci x.9.1),(ci x.9.2),(ci x.10),(.im (.v (.bool x.11)))]) [(.box (lift (aN (x)))),(.box [(ci x.1),(ci x.2),(ci x.3),(ci x.4),(ci x.5),(.ow 3 0),(ci x.7.1),(ci x.7.2),(.im (.v (.string x.7.3))),(.ow 3 1),(ci x.9.1),(ci x.9.2),(ci x.10),(.im (.v (.bool x.11)))]),(.box [(ci x.1),(ci x.2),(ci x.3),(ci x.4),(ci x.5),(.ow 3 0),(ci x.7.1),(ci x.7.2),(.im (.v (.string x.7.3))),(.ow 3 1),(ci x.9.1),(ci x.9.2),(ci x.10),(.im (.v (.bool x.11)))]),(.own [(.ar 3 1 x.6.1 (λi=>bA (x.6.2 i))),(.ar 9 1 x.8.1 (λi=>cw (x.8.2 i)))])]):cB X84 42 T2 L QE 4 (Na x ):=km h
set_option maxHeartbeats 4000000 in
theorem au6 (x:aj) (hr:b5 x.args.n 8=true) (hs:b5 x.names.n 16=true):LC 42 [gL x] [] (.a (Ex x 0)) [.own [yY x.args,Nw x.names]]:=by
 refine cV aE6 (aQ (by kernel_rfl)) (dc (X:=X84) (stop:=T2) (ax9 _ _ x ?_))
 rw [Nat.zero_add,Nat.zero_add]
 refine aC hr (aC hs ?_)
 refine af.Wk 2 4 6 rfl rfl rfl rfl rfl rfl rfl rfl (l':=Ex x 7) (.cons (jv _ _ _ _) (.cons (jv _ _ _ _) (.cons (jv _ _ _ _) (.cons (jv _ _ _ _) (.cons (jv _ _ _ _) (.cons (DK 0 _ _ rfl rfl rfl) (.cons (jv _ _ _ _) (.cons (jv _ _ _ _) (.cons (jv _ _ _ _) (.cons (DK 1 _ _ rfl rfl rfl) (.cons (jv _ _ _ _) (.cons (jv _ _ _ _) (.cons (jv _ _ _ _) (.cons (jv _ _ _ _) .nil)))))))))))))) ?_
 refine af.rename [0,1,2,7] rfl (af.lf (Na x) (rc (rc (rc (.cons (aO.own (.cons (oF.ar λi _ j _=>cH.refl _) (.cons (oF.ar λi _ j _=>cH.refl _) .nil))) .nil)))) ?_)
 refine aF (X:=X84) (stop:=T2) (XE _ _ x ?_)
 exact ⟨[3],.a (Ex x 0),_,_,rfl,(rc .nil),⟨1,aQ rfl,aQ rfl,rfl,rfl,bh.refl _,⟨rfl,trivial⟩⟩⟩
open Go Go.V
noncomputable def Sw:fN:={ F:=vh }
noncomputable section
def ED (e:ah) (q:Nat):List C:=[.ow q 0,.ow q 1,.im (iI e.back)]
def pZ:C:=.im (.v (.slice none 0 0))
def frK (e:ah) (k:Nat):ag:=.bt 74 3 k (λi=>du (e.frames.get i)) none
def obK (e:ah) (k:Nat):ag:=.bt 77 4 k (λi=>o6 (e.ax.get i)) none
end
def zZ:Nat->Bool:=λi=>Nat.beq i 3||Nat.beq i 9||Nat.beq i 15
theorem aH5:Fn 43:={}
noncomputable abbrev xk:ag:=.box [fi,fi,(ci 0)]
theorem aE8 (L:LP) (QE:D->List ag->Prop) (e:ah) (h:L (ai 43 3) ⟨[dN,fW,fZ,yp],[(cP e),xk,(.box [fi,fi,(ci e.3)])],[]⟩):fx Sw 43 zZ L QE [qw e] []:=km h
noncomputable abbrev l4:fp:=(1,.c (.rt 0 0 0),[])
noncomputable def DO (e:ah) (k:Nat):VS:=⟨[l4,l9,il,(4,int k,[])],[.box (lift (bn e)),.box [pZ,pZ,.im (iI 0)],.box [.sa 3 k,pZ,.im (iI e.back)],frK e k],[]⟩
theorem PQ (L:LP) (QE:D->List ag->Prop) (e:ah) (k:Nat) (h:br (decide ((↑k:Int)<(↑e.1.1:Int))) (nd (cM (↑k:Int) e.1.1) (nd (b5 (0+(e.1.2 k).3.1) 8) (nd (b5 (k+1) 40) (nd (k.beq k) (L (ai 43 3) ⟨[dN,fW,fZ,(4,((int (IntKind.i64.wrap ((↑k:Int)+1))),[]))],[(cP e),xk,(.box [(.sa 8 (.succ k)),fi,(ci e.3)]),.dead,(.box [(ci ((e.1.2 k).1)),(ci ((e.1.2 k).2)),(.sa 6 (0+(e.1.2 k).3.1))]),.dead,(.arr 3 1 (0+(e.1.2 k).3.1) (gA 0 iW ((e.1.2 k).3.1,λi=>bA ((e.1.2 k).3.2 i)).snd)),(.row 74 3 1 [(ci ((e.1.2 k).1)),(ci ((e.1.2 k).2)),(.sa 6 (0+(e.1.2 k).3.1))]),(.bt 74 3 (k+1) (λi=>du (e.1.2 i)) (.some (k,[(.c (ci ((e.1.2 k).1))),(.c (ci ((e.1.2 k).2))),(.c (.sa 6 (0+(e.1.2 k).3.1)))])))],[]⟩))))) (L (ai 43 9) ⟨[dN,fW,fZ,(6,((int 0),[]))],[(cP e),xk,(.box [(.sa 3 k),fi,(ci e.3)]),(.bt 74 3 k (λi=>du (e.1.2 i)) .none)],[]⟩)):cB Sw 43 zZ L QE 3 (DO e k):=km h
noncomputable def Cz (e:ah) (k:Nat):VS:=⟨[l4,l9,il,(6,int k,[])],[.box (lift (bn e)),.box [pZ,pZ,.im (iI 0)],.box [.sa 3 e.frames.n,.sa 4 k,.im (iI e.back)],zq e.frames,obK e k],[]⟩
noncomputable abbrev Iz (aw:ah):ag:=.bt 74 3 aw.1.1 (λi=>du (aw.1.2 i)) .none
noncomputable abbrev RA (aw:ah) (aG:Nat):List C:=[(ci ((aw.2.2 aG).1)),(ci ((aw.2.2 aG).2)),(.sa 7 (0+(aw.2.2 aG).3.1)),(.sa 9 (0+(aw.2.2 aG).4.1))]
theorem P9 (L:LP) (QE:D->List ag->Prop) (e:ah) (k:Nat) (h:br (decide ((↑k:Int)<(↑e.2.1:Int))) (nd (cM (↑k:Int) e.2.1) (nd (b5 (0+(e.2.2 k).3.1) 16) (nd (b5 (0+(e.2.2 k).4.1) 8) (nd (b5 (k+1) 64) (nd (k.beq k) (L (ai 43 9) ⟨[dN,fW,fZ,(6,((int (IntKind.i64.wrap ((↑k:Int)+1))),[]))],[(cP e),xk,(.box [(.sa 3 e.1.1),(.sa 11 (.succ k)),(ci e.3)]),(Iz e),.dead,(.box (RA e k)),.dead,(.arr 9 1 (0+(e.2.2 k).3.1) (gA 0 iW ((e.2.2 k).3.1,λi=>cw ((e.2.2 k).3.2 i)).snd)),.dead,(.arr 3 1 (0+(e.2.2 k).4.1) (gA 0 iW ((e.2.2 k).4.1,λi=>bA ((e.2.2 k).4.2 i)).snd)),(.row 77 4 1 (RA e k)),(.bt 77 4 (k+1) (λi=>o6 (e.2.2 i)) (.some (k,[(.c (ci ((e.2.2 k).1))),(.c (ci ((e.2.2 k).2))),(.c (.sa 7 (0+(e.2.2 k).3.1))),(.c (.sa 9 (0+(e.2.2 k).4.1)))])))],[]⟩)))))) (L (ai 43 15) ⟨[dN,fW,fZ,(6,((int (↑k:Int)),[])),(38,((bool false),[]))],[(cP e),xk,(.box [(.sa 3 e.1.1),(.sa 4 k),(ci e.3)]),(Iz e),(.bt 77 4 k (λi=>o6 (e.2.2 i)) .none)],[]⟩)):cB Sw 43 zZ L QE 9 (Cz e k):=km h
noncomputable def Cv (e:ah)  : VS:=⟨[l9,il],[.box (lift (bn e)),.box [pZ,pZ,.im (iI 0)],.box (ED e 3),.own [vO e.frames,FE e.ax]],[]⟩
theorem VK (L:LP) (QE:D->List ag->Prop) (e:ah)  (h:QE (.a [(.ow 3 0),(.ow 3 1),(ci e.3)]) [(.box (lift (bn (e)))),(.box [(.ow 3 0),(.ow 3 1),(ci e.3)]),(.box [(.ow 3 0),(.ow 3 1),(ci e.3)]),(.own [(.ns 74 3 e.1.1 (λi=>du (e.1.2 i))),(.ns 77 4 e.2.1 (λi=>o6 (e.2.2 i)))])]):cB Sw 43 zZ L QE 15 (Cv e ):=km h
theorem Ta (e:ah):af 43 0 (b8 [] (.a (ED e 0)) [.own [vO e.frames,FE e.ax]]) (ai 43 15) (Cv e):=by
 refine aF (X:=Sw) (stop:=zZ) (VK _ _ e ?_)
 exact ⟨[3],.a (ED e 0),_,_,rfl,(rc .nil),⟨1,aQ rfl,aQ rfl,rfl,rfl,bh.refl _,⟨rfl,trivial⟩⟩⟩
theorem XL (e:ah) (hS:gS e):∀ k,k<=e.ax.n->af 43 0 (b8 [] (.a (ED e 0)) [.own [vO e.frames,FE e.ax]]) (ai 43 9) (Cz e k):=by
 have hN:=hS.ax
 refine aU (λk hk ih=>?_) ?_
 .refine aF (X:=Sw) (stop:=zZ) (P9 _ _ e k ?_)
  refine aq (λh=>?_) (λh=>(dec_lt h hk).elim)
  rw [Nat.zero_add,Nat.zero_add]
  have h1:=hS.names k hk
  have h2:=hS.items k hk
  refine aC (a8 hk) (aC (cZ (by omega) (by omega)) (aC (cZ (by omega) (by omega)) (aC (cZ (by omega) (by omega)) (aC (dq k) ?_))))
  rw [dr hk (by unfold maxLen; omega)]
  refine af.close 11 2 7 rfl rfl rfl rfl rfl rfl (af.close 11 3 9 rfl rfl rfl rfl rfl rfl ?_)
  exact af.rename [0,1,2,3,11] rfl (af.lf (Cz e (k+1)) (rc (rc (rc (rc (.cons (aO.Il ⟨aW.aE _,aW.aE _,aW.o (oF.ar λi _ j _=>cH.refl _),aW.o (oF.ar λi _ j _=>cH.refl _),trivial⟩) .nil))))) ih)
 .refine aF (X:=Sw) (stop:=zZ) (P9 _ _ e _ ?_)
  refine aq (λh=>bS h) (λh=>?_)
  refine af.Wk 2 3 4 rfl rfl rfl rfl rfl rfl rfl rfl (l':=ED e 5) (.cons (DK 0 _ _ rfl rfl rfl) (.cons (DK 1 _ _ rfl rfl rfl) (.cons (jv _ _ _ _) .nil))) ?_
  exact af.rename [0,1,2,5] rfl (af.lr (Cv e) (Ta e))
theorem XU (e:ah) (hS:gS e):∀ k,k<=e.frames.n->af 43 0 (b8 [] (.a (ED e 0)) [.own [vO e.frames,FE e.ax]]) (ai 43 3) (DO e k):=by
 have hN:=hS.frames
 refine aU (λk hk ih=>?_) ?_
 .refine aF (X:=Sw) (stop:=zZ) (PQ _ _ e k ?_)
  refine aq (λh=>?_) (λh=>(dec_lt h hk).elim)
  rw [Nat.zero_add]
  have h1:=hS.vars k hk
  refine aC (a8 hk) (aC (cZ (by omega) (by omega)) (aC (cZ (by omega) (by omega)) (aC (dq k) ?_)))
  rw [dr hk (by unfold maxLen; omega)]
  refine af.close 8 2 6 rfl rfl rfl rfl rfl rfl ?_
  exact af.rename [0,1,2,8] rfl (af.lf (DO e (k+1)) (rc (rc (rc (.cons (aO.Il ⟨aW.aE _,aW.aE _,aW.o (oF.ar λi _ j _=>cH.refl _),trivial⟩) .nil)))) ih)
 .refine aF (X:=Sw) (stop:=zZ) (PQ _ _ e _ ?_)
  refine aq (λh=>bS h) (λh=>?_)
  exact af.hX 2 1 77 4 _ rfl rfl (af.lf (Cz e 0) (rc (rc (rc (rc (.cons (aO.tE λi hi=>absurd hi (Nat.not_lt_zero i)) .nil))))) (XL e hS 0 (bu _)))
theorem ak9 (e:ah) (hS:gS e):LC 43 [qw e] [] (.a (ED e 0)) [.own [vO e.frames,FE e.ax]]:=by
 refine cV aH5 (aQ (by kernel_rfl)) (dc (X:=Sw) (stop:=zZ) (aE8 _ _ e ?_))
 exact af.hX 2 0 74 3 _ rfl rfl (af.lf (DO e 0) (rc (rc (rc (.cons (aO.tE λi hi=>absurd hi (Nat.not_lt_zero i)) .nil)))) (XU e hS 0 (bu _)))
open Go Go.V
noncomputable section
def A84 (x:aj):Out:=(.a (Ex x 0),[],[.own [yY x.args,Nw x.names]])
def A85 (e:ah):Out:=(.a (ED e 0),[],[.own [vO e.frames,FE e.ax]])
def F46:FuncId->List D->List ag->Out:=ext vh [(42,λds _=>A84 (Dk ds 0)),(43,λds _=>A85 (RZ ds 0))]
def Wd:fN:={ F:=F46 }
def jG (t:ae) (p q:Nat):List C:=[.im (iI t.place.fn),.im (iI t.place.line),.sa p t.ins.n,.sa q t.aa.n]
def aK8 (t:ae) (k:Nat):ag:=.bt 56 14 k (λi=>j9 (t.ins.get i)) none
def exK (t:ae) (k:Nat):ag:=.bt 72 3 k (λi=>iU (t.aa.get i)) none
end
def Gz:Nat->Bool:=λi=>Nat.beq i 3||Nat.beq i 7
theorem aE9:Fn 22:={}
theorem aD0 (L:LP) (QE:D->List ag->Prop) (t:ae) (h:L (ai 22 3) ⟨[dN,fW,fZ,yp],[(cu t),cQ,(.box [(ci t.1.1),(ci t.1.2),fi,fi])],[]⟩):fx Wd 22 Gz L QE [a7 t] []:=km h
noncomputable def DD (t:ae) (k:Nat):VS:=⟨[l4,l9,il,(4,int k,[])],[.box (lift (az t)),.box [.im (iI 0),.im (iI 0),pZ,pZ],.box [.im (iI t.place.fn),.im (iI t.place.line),.sa 3 k,pZ],aK8 t k],[]⟩
noncomputable abbrev rK (aw:ae) (aG:Nat):D:=.a (lift (aN (aw.2.2 aG)))
noncomputable abbrev mQ (aw:ae) (aG:Nat):C:=.im (.v (.string ((aw.2.2 aG).7.3)))
noncomputable abbrev jy (aw:ae) (aG:Nat):C:=.im (.v (.bool ((aw.2.2 aG).11)))
noncomputable abbrev QP (aw:ae) (aG:Nat):D:=.a [(ci ((aw.2.2 aG).1)),(ci ((aw.2.2 aG).2)),(ci ((aw.2.2 aG).3)),(ci ((aw.2.2 aG).4)),(ci ((aw.2.2 aG).5)),(.ow 0 0),(ci ((aw.2.2 aG).7.1)),(ci ((aw.2.2 aG).7.2)),(mQ aw aG),(.ow 0 1),(ci ((aw.2.2 aG).9.1)),(ci ((aw.2.2 aG).9.2)),(ci ((aw.2.2 aG).10)),(jy aw aG)]
noncomputable abbrev om (aw:ae) (aG:Nat):O:=.ar 3 1 ((aw.2.2 aG).6.1) (λi=>bA ((aw.2.2 aG).6.2 i))
noncomputable abbrev oz (aw:ae) (aG:Nat):O:=.ar 9 1 ((aw.2.2 aG).8.1) (λi=>cw ((aw.2.2 aG).8.2 i))
noncomputable abbrev kW (aw:ae) (aG:Nat):Fc:=.c (ci ((aw.2.2 aG).1))
noncomputable abbrev lz (aw:ae) (aG:Nat):Fc:=.c (ci ((aw.2.2 aG).2))
noncomputable abbrev lC (aw:ae) (aG:Nat):Fc:=.c (ci ((aw.2.2 aG).3))
noncomputable abbrev jX (aw:ae) (aG:Nat):Fc:=.c (ci ((aw.2.2 aG).4))
noncomputable abbrev lE (aw:ae) (aG:Nat):Fc:=.c (ci ((aw.2.2 aG).5))
noncomputable abbrev la (aw:ae) (aG:Nat):Fc:=.c (ci ((aw.2.2 aG).7.1))
noncomputable abbrev kU (aw:ae) (aG:Nat):Fc:=.c (ci ((aw.2.2 aG).7.2))
noncomputable abbrev jY (aw:ae) (aG:Nat):Fc:=.c (ci ((aw.2.2 aG).9.1))
noncomputable abbrev j8 (aw:ae) (aG:Nat):Fc:=.c (ci ((aw.2.2 aG).9.2))
noncomputable abbrev ln (aw:ae) (aG:Nat):Fc:=.c (ci ((aw.2.2 aG).10))
theorem MX (L:LP) (QE:D->List ag->Prop) (t:ae) (k:Nat) (h:br (decide ((↑k:Int)<(↑t.2.1:Int))) (nd (cM (↑k:Int) t.2.1) ((LC 42 [(rK t k)] [] (QP t k) [(.own [(om t k),(oz t k)])]/\nd (b5 (k+1) 152) (nd (k.beq k) (nd (cM (↑k:Int) t.2.1) ((LC 42 [(rK t k)] [] (QP t k) [(.own [(om t k),(oz t k)])]/\nd (b5 (k+1) 152) (nd (k.beq k) (L (ai 22 3) ⟨[dN,fW,fZ,(4,((int (IntKind.i64.wrap ((↑k:Int)+1))),[]))],[(cu t),cQ,(.box [(ci t.1.1),(ci t.1.2),(.sa 6 (.succ k)),fi]),.dead,(.own [(om t k),(oz t k)]),(.row 56 14 1 [(ci ((t.2.2 k).1)),(ci ((t.2.2 k).2)),(ci ((t.2.2 k).3)),(ci ((t.2.2 k).4)),(ci ((t.2.2 k).5)),(.ow 4 0),(ci ((t.2.2 k).7.1)),(ci ((t.2.2 k).7.2)),(mQ t k),(.ow 4 1),(ci ((t.2.2 k).9.1)),(ci ((t.2.2 k).9.2)),(ci ((t.2.2 k).10)),(jy t k)]),(.bt 56 14 (k+1) (λi=>j9 (t.2.2 i)) (.some (k,[(kW t k),(lz t k),(lC t k),(jX t k),(lE t k),(.c (.ow 4 0)),(la t k),(kU t k),(.c (mQ t k)),(.c (.ow 4 1)),(jY t k),(j8 t k),(ln t k),(.c (jy t k))])))],[]⟩))))))))) (L (ai 22 7) ⟨[dN,fW,fZ,yF],[(cu t),cQ,(.box [(ci t.1.1),(ci t.1.2),(.sa 3 k),fi]),(.bt 56 14 k (λi=>j9 (t.2.2 i)) .none)],[]⟩)):cB Wd 22 Gz L QE 3 (DD t k):=km h
noncomputable def DJ (t:ae) (k:Nat):VS:=⟨[l4,l9,il,(5,int k,[])],[.box (lift (az t)),.box [.im (iI 0),.im (iI 0),pZ,pZ],.box [.im (iI t.place.fn),.im (iI t.place.line),.sa 3 t.ins.n,.sa 4 k],kg t.ins,exK t k],[]⟩
noncomputable abbrev nz (aw:ae) (aG:Nat):C:=ci ((aw.3.2 aG).3)
noncomputable abbrev uG (aw:ae) (aG:Nat):O:=.ns 74 3 ((aw.3.2 aG).1.1) (λi=>du ((aw.3.2 aG).1.2 i))
noncomputable abbrev uA (aw:ae) (aG:Nat):O:=.ns 77 4 ((aw.3.2 aG).2.1) (λi=>o6 ((aw.3.2 aG).2.2 i))
noncomputable abbrev kp (aw:ae):ag:=.bt 56 14 aw.2.1 (λi=>j9 (aw.2.2 i)) .none
theorem QT (L:LP) (QE:D->List ag->Prop) (t:ae) (k:Nat) (h:br (decide ((↑k:Int)<(↑t.3.1:Int))) (nd (cM (↑k:Int) t.3.1) ((LC 43 [(.a (lift (bn (t.3.2 k))))] [] (.a [(.ow 0 0),(.ow 0 1),(nz t k)]) [(.own [(uG t k),(uA t k)])]/\nd (b5 (k+1) 56) (nd (k.beq k) (nd (cM (↑k:Int) t.3.1) ((LC 43 [(.a (lift (bn (t.3.2 k))))] [] (.a [(.ow 0 0),(.ow 0 1),(nz t k)]) [(.own [(uG t k),(uA t k)])]/\nd (b5 (k+1) 56) (nd (k.beq k) (L (ai 22 7) ⟨[dN,fW,fZ,(5,((int (IntKind.i64.wrap ((↑k:Int)+1))),[]))],[(cu t),cQ,(.box [(ci t.1.1),(ci t.1.2),(.sa 3 t.2.1),(.sa 7 (.succ k))]),(kp t),.dead,(.own [(uG t k),(uA t k)]),(.row 72 3 1 [(.ow 5 0),(.ow 5 1),(nz t k)]),(.bt 72 3 (k+1) (λi=>iU (t.3.2 i)) (.some (k,[(.c (.ow 5 0)),(.c (.ow 5 1)),(.c (nz t k))])))],[]⟩))))))))) (QE (.a [(ci t.1.1),(ci t.1.2),(.sa 3 t.2.1),(.sa 4 k)]) [(.box (lift (az (t)))),(.box [(ci t.1.1),(ci t.1.2),(.sa 3 t.2.1),(.sa 4 k)]),(.box [(ci t.1.1),(ci t.1.2),(.sa 3 t.2.1),(.sa 4 k)]),(.bt 56 14 t.2.1 (λi=>j9 (t.2.2 i)) .none),(.bt 72 3 k (λi=>iU (t.3.2 i)) .none)])):cB Wd 22 Gz L QE 7 (DJ t k):=km h
set_option maxHeartbeats 4000000
theorem Xn (t:ae) (hS:bj t):∀ k,k<=t.aa.n->af 22 0 (b8 [] (.a (jG t 0 1)) [kg t.ins,rM t.aa]) (ai 22 7) (DJ t k):=by
 have hN:=hS.aa
 refine aU (λk hk ih=>?_) ?_
 .refine aF (X:=Wd) (stop:=Gz) (QT _ _ t k ?_)
  refine aq (λh=>?_) (λh=>(dec_lt h hk).elim)
  have h1:=ak9 _ (hS.ex k hk)
  have h2:=cZ (n:=k+1) (b:=56) (by omega) (by omega)
  refine aC (a8 hk) ⟨h1,aC h2 (aC (dq k) (aC (a8 hk) ⟨h1,aC h2 (aC (dq k) ?_)⟩))⟩
  rw [dr hk (by unfold maxLen; omega)]
  refine af.split 7 5 rfl rfl (List.forall_mem_cons.2 ⟨trivial,List.forall_mem_cons.2 ⟨trivial,List.forall_mem_nil _⟩⟩) ?_
  refine af.close 7 0 8 rfl rfl rfl rfl rfl rfl (af.close 7 1 9 rfl rfl rfl rfl rfl rfl ?_)
  exact af.rename [0,1,2,3,7] rfl (af.lf (DJ t (k+1)) (rc (rc (rc (rc (.cons (aO.Il ⟨aW.refl _,aW.refl _,aW.aE _,trivial⟩) .nil))))) ih)
 .refine aF (X:=Wd) (stop:=Gz) (QT _ _ t _ ?_)
  refine aq (λh=>bS h) (λh=>?_)
  exact ⟨[3,4],.a (jG t 0 1),_,_,rfl,(rc (rc .nil)),⟨2,aQ rfl,aQ rfl,rfl,rfl,bh.refl _,⟨rfl,⟨rfl,trivial⟩⟩⟩⟩
theorem XY (t:ae) (hS:bj t):∀ k,k<=t.ins.n->af 22 0 (b8 [] (.a (jG t 0 1)) [kg t.ins,rM t.aa]) (ai 22 3) (DD t k):=by
 have hN:=hS.ins
 refine aU (λk hk ih=>?_) ?_
 .refine aF (X:=Wd) (stop:=Gz) (MX _ _ t k ?_)
  refine aq (λh=>?_) (λh=>(dec_lt h hk).elim)
  have q1:=hS.args k hk
  have q2:=hS.names k hk
  have h1:=au6 (t.ins.get k) (cZ (by omega) (by omega)) (cZ (by omega) (by omega))
  have h2:=cZ (n:=k+1) (b:=152) (by omega) (by omega)
  refine aC (a8 hk) ⟨h1,aC h2 (aC (dq k) (aC (a8 hk) ⟨h1,aC h2 (aC (dq k) ?_)⟩))⟩
  rw [dr hk (by unfold maxLen; omega)]
  refine af.split 6 4 rfl rfl (List.forall_mem_cons.2 ⟨trivial,List.forall_mem_cons.2 ⟨trivial,List.forall_mem_nil _⟩⟩) ?_
  refine af.close 6 5 7 rfl rfl rfl rfl rfl rfl (af.close 6 9 8 rfl rfl rfl rfl rfl rfl ?_)
  exact af.rename [0,1,2,6] rfl (af.lf (DD t (k+1)) (rc (rc (rc (.cons (aO.Il ⟨aW.aE _,aW.aE _,aW.aE _,aW.aE _,aW.aE _,aW.refl _,aW.aE _,aW.aE _,aW.aE _,aW.refl _,aW.aE _,aW.aE _,aW.aE _,aW.aE _,trivial⟩) .nil)))) ih)
 .refine aF (X:=Wd) (stop:=Gz) (MX _ _ t _ ?_)
  refine aq (λh=>bS h) (λh=>?_)
  exact af.hX 2 3 72 3 _ rfl rfl (af.lf (DJ t 0) (rc (rc (rc (rc (.cons (aO.tE λi hi=>absurd hi (Nat.not_lt_zero i)) .nil))))) (Xn t hS 0 (bu _)))
theorem ae4 (t:ae) (hS:bj t):LC 22 [a7 t] [] (.a (jG t 0 1)) [kg t.ins,rM t.aa]:=by
 refine cV aE9 (aQ (by kernel_rfl)) (dc (X:=Wd) (stop:=Gz) (aD0 _ _ t ?_))
 exact af.hX 2 2 56 14 _ rfl rfl (af.lf (DD t 0) (rc (rc (rc (.cons (aO.tE λi hi=>absurd hi (Nat.not_lt_zero i)) .nil)))) (XY t hS 0 (bu _)))
end Go.Proofs.Ytgbbdaegmfjahaa
