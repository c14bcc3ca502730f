/- Loops: what is to be shown. -/
import Derived.Test.YtghfgcfabbbbbaaDoorP6
import Derived.Test.YtghfgcfabbbbbaaDoorP5
import Derived.Test.YtghfgcfabbbbbaaDoorP4
set_option linter.unusedVariables false
set_option linter.unusedSimpArgs false
set_option maxRecDepth 1000000
namespace Go.Proofs.YtghfgcfabbbbbaaDoor
open Go Go.V
noncomputable def au8 (l:Sq Int) (sn:Sq aj→aj→Sq aj) (sx:Sq ai→ai→Sq ai) (ds:List D) (rs:List ah):Out:=match ds with
 | [.c (.rt q _ _)]=>match aV rs q with
   | some (.box [.rt m a b,c,d,.sa i n,.sa j ne,.im (.v (.int .i64 fu)),.im (.v (.int .i64 pa))])=>match aV rs m,aV rs i,aV rs j with
     | some (.box [y,.im (.v (.int .i64 p))]),some (.arr _ _ k get),some (.arr _ _ ke ge)=>
       (int (iO l p.toNat ⟨k,fun t=>jo (get t)⟩ pa.toNat).1,[(m,.box [y,.im (iI (fJ l p.toNat ⟨k,fun t=>jo (get t)⟩ fu pa.toNat).2)]),(q,.box [.rt m a b,c,d,.sa (rs.length+1) (sn ⟨k,fun t=>jo (get t)⟩ (ji l p.toNat ⟨k,fun t=>jo (get t)⟩ pa.toNat ne)).n,.sa rs.length (sx ⟨ke,fun t=>o6 (ge t)⟩ (fJ l p.toNat ⟨k,fun t=>jo (get t)⟩ fu pa.toNat).1).n,.im (iI fu),.im (iI pa)]),(i,.dead),(j,.dead)],
        [l6 (sx ⟨ke,fun t=>o6 (ge t)⟩ (fJ l p.toNat ⟨k,fun t=>jo (get t)⟩ fu pa.toNat).1),dJ (sn ⟨k,fun t=>jo (get t)⟩ (ji l p.toNat ⟨k,fun t=>jo (get t)⟩ pa.toNat ne))])
     | _,_,_=>uX
   | _=>uX
 | _=>uX
noncomputable def al4 (l:Sq Int) (sn:Sq aj→aj→Sq aj) (sx:Sq ai→ai→Sq ai) (f:FuncId) (ds:List D) (rs:List ah):Out:=match f with
 | 34=>au8 l sn sx ds rs
 | f=>F67 l sn sx f ds rs
noncomputable def mW (l:Sq Int) (sn:Sq aj→aj→Sq aj) (sx:Sq ai→ai→Sq ai):hX:={ F:=al4 l sn sx,W:=W67 l,S:=TA }
structure eU where
 p:Nat
 ins:Sq aj
 ex:Sq ai
noncomputable section
def Wr (d:Nat) (n:Int):pZ:=bif Nat.beq d 0 then ⟨3,IntKind.i64.wrap (n-2),⟨⟨[]⟩⟩⟩ else bif Nat.beq d 1 then ⟨1,0,⟨⟨[]⟩⟩⟩ else bif Nat.beq d 2 then ⟨2,1,⟨⟨[]⟩⟩⟩ else ⟨4,0,⟨⟨[115]⟩⟩⟩
def YP (d:Nat):Int:=bif Nat.beq d 0 then 10 else 11
def Sy (l:Sq Int) (fuel:Int) (param:Nat) (x:aj) (p:Nat) (s:eU):eU:=⟨(lv l p s.ins fuel param).2,cx s.ins { x with exit:=(s.ex.n:Int) },cG s.ex (lv l p s.ins fuel param).1⟩
def k35 (l:Sq Int) (c:Int) (s:eU):eU:=⟨(nx l s.p 2).2,cx s.ins (dt 10 c 0 0 (nx l s.p 2).1 (-1)),s.ex⟩
def k34 (l:Sq Int) (param:Nat) (c:Int) (s:eU):eU:=k35 l c ⟨(nx l (nx l s.p (param:Int)).2 2).2,cx s.ins (dt 11 c (nx l s.p (param:Int)).1 0 (nx l (nx l s.p (param:Int)).2 2).1 (-1)),s.ex⟩
def k33 (l:Sq Int) (param:Nat) (s:eU):eU:=k34 l param (s.ins.n:Int) ⟨s.p,cx s.ins { dt 16 0 0 0 0 (-1) with names:=yt },s.ex⟩
def k27 (l:Sq Int) (c:Int) (s:eU):eU:=⟨(nx l (vl l s.p s.ins).2 2).2,cx s.ins (dt 11 c (vl l s.p s.ins).1 0 (nx l (vl l s.p s.ins).2 2).1 (-1)),s.ex⟩
def XY (l:Sq Int) (x:aj) (s:eU):eU:=bif (nx l s.p 2).1==0 then ⟨(nx l s.p 2).2,cx s.ins (dt 12 x.a x.b 0 0 (-1)),s.ex⟩ else ⟨(vl l (nx l s.p 2).2 s.ins).2,cx s.ins (dt 13 x.a x.b (vl l (nx l s.p 2).2 s.ins).1 0 (-1)),s.ex⟩
def k47 (x:aj) (s:eU):eU:=⟨s.p,cx s.ins (dt 14 x.a 0 0 0 (-1)),s.ex⟩
def k52 (l:Sq Int) (x:aj) (s:eU):eU:=⟨(nx l s.p 3).2,cx s.ins { dt 19 x.a 0 0 0 (-1) with place:=⟨0,(nx l s.p 3).1⟩ },s.ex⟩
def k18 (l:Sq Int) (fuel:Int) (param:Nat) (c:Int) (s:eU):eU:=Sy l fuel param (dt 5 c 0 0 (nx l s.p 2).1 0) (nx l s.p 2).2 s
def k3 (l:Sq Int) (s:eU):eU:=⟨(nx l (nx l s.p 7).2 4).2,cx s.ins { dt 2 0 0 0 0 (-1) with k:=Wr (nx l (nx l s.p 7).2 4).1.toNat (nx l s.p 7).1 },s.ex⟩
def ab (l:Sq Int) (p:Nat) (ins:Sq aj):Int×Int×Nat:=((vl l p ins).1,(vl l (vl l p ins).2 ins).1,(vl l (vl l p ins).2 ins).2)
def k7 (l:Sq Int) (fuel:Int) (param:Nat) (s:eU):eU:=Sy l fuel param (dt 4 (ab l (nx l s.p 10).2 s.ins).1 (ab l (nx l s.p 10).2 s.ins).2.1 0 (IntKind.i64.wrap (5+(nx l s.p 10).1)) 0) (ab l (nx l s.p 10).2 s.ins).2.2 s
def k11 (l:Sq Int) (fuel:Int) (param:Nat) (s:eU):eU:=Sy l fuel param (dt 3 (vl l (nx l s.p 2).2 s.ins).1 0 0 (IntKind.i64.wrap (3+(nx l s.p 2).1)) 0) (vl l (nx l s.p 2).2 s.ins).2 s
def X1 (l:Sq Int) (fuel:Int) (param:Nat) (s:eU):eU:=k18 l fuel param (s.ins.n:Int) (Sy l fuel param (dt 4 (ab l (nx l s.p 2).2 s.ins).1 (ab l (nx l s.p 2).2 s.ins).2.1 0 (YP (nx l s.p 2).1.toNat) 0) (ab l (nx l s.p 2).2 s.ins).2.2 s)
def ksh (l:Sq Int) (fuel:Int) (param:Nat) (s:eU):eU:=⟨(fJ l s.p s.ins fuel param).2,cx s.ins (ji l s.p s.ins param s.ex.n),cG s.ex (fJ l s.p s.ins fuel param).1⟩
def XW (l:Sq Int) (fuel:Int) (param:Nat) (s:eU):eU:=k35 l (iO l s.p s.ins param).1 (ksh l fuel param s)
def k26 (l:Sq Int) (fuel:Int) (param:Nat) (s:eU):eU:=k27 l (iO l s.p s.ins param).1 (ksh l fuel param s)
def X2 (l:Sq Int) (fuel:Int) (param:Nat) (s:eU):eU:=k33 l param (Sy l fuel param (dt 15 0 0 0 32 0) s.p s)
def k37 (l:Sq Int) (fuel:Int) (param:Nat) (s:eU):eU:=XY l (dt 9 (ab l s.p s.ins).1 (ab l s.p s.ins).2.1 0 0 (s.ex.n:Int)) (Sy l fuel param (dt 9 (ab l s.p s.ins).1 (ab l s.p s.ins).2.1 0 0 0) (ab l s.p s.ins).2.2 s)
def k44 (l:Sq Int) (fuel:Int) (param:Nat) (s:eU):eU:=k47 (dt 8 (vl l s.p s.ins).1 0 0 0 (s.ex.n:Int)) (Sy l fuel param (dt 8 (vl l s.p s.ins).1 0 0 0 0) (vl l s.p s.ins).2 s)
def k49 (l:Sq Int) (fuel:Int) (param:Nat) (s:eU):eU:=k52 l (dt 6 (vl l s.p s.ins).1 0 0 (IntKind.i64.wrap (1+(nx l (vl l s.p s.ins).2 4).1)) (s.ex.n:Int)) (Sy l fuel param (dt 6 (vl l s.p s.ins).1 0 0 (IntKind.i64.wrap (1+(nx l (vl l s.p s.ins).2 4).1)) 0) (nx l (vl l s.p s.ins).2 4).2 s)
def iT (l:Sq Int) (fuel:Int) (param:Nat) (s:eU):eU:=
 bif (nx l s.p 14).1==0 then k3 l ⟨(nx l s.p 14).2,s.ins,s.ex⟩
 else bif (nx l s.p 14).1==1 then k7 l fuel param ⟨(nx l s.p 14).2,s.ins,s.ex⟩
 else bif (nx l s.p 14).1==2 then k7 l fuel param ⟨(nx l s.p 14).2,s.ins,s.ex⟩
 else bif (nx l s.p 14).1==3 then k7 l fuel param ⟨(nx l s.p 14).2,s.ins,s.ex⟩
 else bif (nx l s.p 14).1==4 then k11 l fuel param ⟨(nx l s.p 14).2,s.ins,s.ex⟩
 else bif (nx l s.p 14).1==5 then X1 l fuel param ⟨(nx l s.p 14).2,s.ins,s.ex⟩
 else bif (nx l s.p 14).1==6 then XW l fuel param ⟨(nx l s.p 14).2,s.ins,s.ex⟩
 else bif (nx l s.p 14).1==7 then XW l fuel param ⟨(nx l s.p 14).2,s.ins,s.ex⟩
 else bif (nx l s.p 14).1==8 then k26 l fuel param ⟨(nx l s.p 14).2,s.ins,s.ex⟩
 else bif (nx l s.p 14).1==9 then X2 l fuel param ⟨(nx l s.p 14).2,s.ins,s.ex⟩
 else bif (nx l s.p 14).1==10 then X2 l fuel param ⟨(nx l s.p 14).2,s.ins,s.ex⟩
 else bif (nx l s.p 14).1==11 then k37 l fuel param ⟨(nx l s.p 14).2,s.ins,s.ex⟩
 else bif (nx l s.p 14).1==12 then k44 l fuel param ⟨(nx l s.p 14).2,s.ins,s.ex⟩
 else k49 l fuel param ⟨(nx l s.p 14).2,s.ins,s.ex⟩
def zC (l:Sq Int) (s0:eU) (fuel:Int) (param:Nat) (o:eU):D→List ah→Prop:=lF [aE l s0.p,bf 0 2 s0.ins.n 3 s0.ex.n fuel param,dJ s0.ins,l6 s0.ex] (.t []) [aE l o.p,bf 0 5 o.ins.n 4 o.ex.n fuel param,.dead,.dead,l6 o.ex,dJ o.ins]
end
theorem RF {l:Sq Int} {p:Nat} (h0:Nat.beq (nx l p 4).1.toNat 0=false) (h1:Nat.beq (nx l p 4).1.toNat 1=false) (h2:Nat.beq (nx l p 4).1.toNat 2=false) (h3:Nat.beq (nx l p 4).1.toNat 3=false):False:=by
 obtain ⟨d,hd,dD⟩:=l8 (l:=l) (p:=p) (n:=4) (by omega) (by omega)
 rw [hd] at h0 h1 h2 h3
 have g:∀ k,Nat.beq (d:Int).toNat k=false→d≠k:=fun k hk e=>by
  subst e
  rw [show Nat.beq (d:Int).toNat d=true from cf d] at hk
  cases hk
 have:=g 0 h0; have:=g 1 h1; have:=g 2 h2; have:=g 3 h3
 omega
theorem QG {l:Sq Int} {p:Nat} (h0:Nat.beq (nx l p 2).1.toNat 0=false) (h1:Nat.beq (nx l p 2).1.toNat 1=false):False:=by
 obtain ⟨d,hd,dD⟩:=l8 (l:=l) (p:=p) (n:=2) (by omega) (by omega)
 rw [hd] at h0 h1
 have g:∀ k,Nat.beq (d:Int).toNat k=false→d≠k:=fun k hk e=>by
  subst e
  rw [show Nat.beq (d:Int).toNat d=true from cf d] at hk
  cases hk
 have:=g 0 h0; have:=g 1 h1
 omega
theorem uh {l:Sq Int} {p:Nat} (n:Nat) (h1:1≤n) (h2:n≤1000):cd (nx l p (n:Int)).1 n=true:=by
 obtain ⟨d,hd,dD⟩:=l8 (l:=l) (p:=p) (n:=(n:Int)) (by omega) (by omega)
 rw [hd]
 exact aA (by omega)
def fV:Nat→Bool:=fun i=>Nat.beq i 3||Nat.beq i 7||Nat.beq i 11||Nat.beq i 15||Nat.beq i 18||Nat.beq i 23||Nat.beq i 24||Nat.beq i 26||Nat.beq i 27||Nat.beq i 30||Nat.beq i 33||Nat.beq i 34||Nat.beq i 35||Nat.beq i 37||Nat.beq i 40||Nat.beq i 44||Nat.beq i 47||Nat.beq i 49||Nat.beq i 52
theorem aq5:Fn 22:=⟨by kernel_rfl,by kernel_rfl⟩
noncomputable abbrev ld (ax:Sq Int) (aF:Nat):gF:=(20,((int ((nx ax aF 14).1)),[]))
noncomputable abbrev lN (ax:Sq Int) (aF:Nat) (aR:Sq aj) (bZ:Sq ai) (ct:Int) (dX:Nat):List ah:=[(aE ax ((nx ax aF 14).2)),(da aR bZ ct dX),(bD aR),(bU bZ)]
noncomputable abbrev GV (ax:Sq Int) (aF:Nat):aN:=[eC,dW,(ld ax aF),(38,((bool true),[]))]
theorem aq8 (L:LP) (QE:D→List ah→Prop) (sn:Sq aj→aj→Sq aj) (sx:Sq ai→ai→Sq ai) (l:Sq Int) (p:Nat) (ins:Sq aj) (aa:Sq ai) (fuel:Int) (param:Nat) (h:(WC 19 [(.c (.rt 0 0 0)),(int 14)] (nc l p ins aa fuel param) (int ((nx l p 14).1)) 0 (aE l ((nx l p 14).2))∧br ((nx l p 14).1==0) (L (ag 22 3) ⟨[eC,dW,(ld l p),(21,((bool true),[]))],(lN l p ins aa fuel param),[]⟩) (br ((nx l p 14).1==1) (L (ag 22 7) ⟨(GV l p),(lN l p ins aa fuel param),[]⟩) (br ((nx l p 14).1==2) (L (ag 22 7) ⟨(GV l p),(lN l p ins aa fuel param),[]⟩) (br ((nx l p 14).1==3) (L (ag 22 7) ⟨(GV l p),(lN l p ins aa fuel param),[]⟩) (br ((nx l p 14).1==4) (L (ag 22 11) ⟨[eC,dW,(ld l p),(56,((bool true),[]))],(lN l p ins aa fuel param),[]⟩) (br ((nx l p 14).1==5) (L (ag 22 15) ⟨[eC,dW,(ld l p),(70,((bool true),[]))],(lN l p ins aa fuel param),[]⟩) (br ((nx l p 14).1==6) (L (ag 22 23) ⟨[eC,dW,(ld l p),(98,((bool true),[]))],(lN l p ins aa fuel param),[]⟩) (br ((nx l p 14).1==7) (L (ag 22 23) ⟨[eC,dW,(ld l p),(98,((bool true),[]))],(lN l p ins aa fuel param),[]⟩) (br ((nx l p 14).1==8) (L (ag 22 26) ⟨[eC,dW,(ld l p),(109,((bool true),[]))],(lN l p ins aa fuel param),[]⟩) (br ((nx l p 14).1==9) (L (ag 22 30) ⟨[eC,dW,(ld l p),(121,((bool true),[]))],(lN l p ins aa fuel param),[]⟩) (br ((nx l p 14).1==10) (L (ag 22 30) ⟨[eC,dW,(ld l p),(121,((bool true),[]))],(lN l p ins aa fuel param),[]⟩) (br ((nx l p 14).1==11) (L (ag 22 37) ⟨[eC,dW,(ld l p),(153,((bool true),[]))],(lN l p ins aa fuel param),[]⟩) (br ((nx l p 14).1==12) (L (ag 22 44) ⟨[eC,dW,(ld l p),(185,((bool true),[]))],(lN l p ins aa fuel param),[]⟩) (br ((nx l p 14).1==13) (L (ag 22 49) ⟨[eC,dW,(201,((bool true),[]))],(lN l p ins aa fuel param),[]⟩) (QE (.t []) [(aE l ((nx l p 14).2)),(bf 0 2 ins.1 3 aa.1 fuel (↑param:Int)),(.arr 40 14 ins.1 (fun i=>cy (ins.2 i))),(.arr 73 3 aa.1 (fun i=>dS (aa.2 i)))])))))))))))))))):fS (mW l sn sx) 22 fV L QE [.c (.rt 1 0 0)] [aE l p,bf 0 2 ins.n 3 aa.n fuel param,dJ ins,l6 aa]:=Eq.mp (by kernel_rfl) h
noncomputable abbrev kI:gF:=(0,.c (.rt 1 0 0),[])
noncomputable abbrev ki:gF:=(2,.c (.rt 0 0 0),[])
noncomputable def HV (sn:Sq aj→aj→Sq aj) (sx:Sq ai→ai→Sq ai) (l:Sq Int) (p:Nat) (ins:Sq aj) (aa:Sq ai) (fuel:Int) (param:Nat)  : VS:=⟨[kI,ki],[aE l p,bf 0 2 ins.n 4 aa.n fuel param,dJ ins,.dead,l6 aa],[]⟩
noncomputable abbrev qe:C:=.im (.v (.string ({ data := #[115] })))
noncomputable abbrev oO (ax:Sq Int) (aF:Nat):ah:=aE ax ((nx ax (nx ax aF 7).2 4).2)
theorem W1 (L:LP) (QE:D→List ah→Prop) (sn:Sq aj→aj→Sq aj) (sx:Sq ai→ai→Sq ai) (l:Sq Int) (p:Nat) (ins:Sq aj) (aa:Sq ai) (fuel:Int) (param:Nat)  (h:(WC 19 [(.c (.rt 0 0 0)),(int 7)] [(aE l p),(bf 0 2 ins.1 4 aa.1 fuel (↑param:Int)),(bD ins),.dead,(bU aa)] (int ((nx l p 7).1)) 0 (aE l ((nx l p 7).2))∧(WC 19 [(.c (.rt 0 0 0)),(int 4)] [(aE l ((nx l p 7).2)),(bf 0 2 ins.1 4 aa.1 fuel (↑param:Int)),(bD ins),.dead,(bU aa),(.row 37 3 4 [(ci 3),(ci (IntKind.i64.wrap ((nx l p 7).1-2))),dk,(ci 1),(ci 0),dk,(ci 2),(ci 1),dk,(ci 4),(ci 0),qe])] (int ((nx l (nx l p 7).2 4).1)) 0 (aE l ((nx l (nx l p 7).2 4).2))∧nd (cd (nx l (nx l p 7).2 4).1 4) (br ((nx l (nx l p 7).2 4).1.toNat.beq 0) ((LC 20 [(.c (.rt 1 0 0)),(.a [(ci 2),(ci 0),(ci 0),(ci 0),(ci 0),b6,(ci 3),(ci (IntKind.i64.wrap ((nx l p 7).1-2))),dk,b6,(ci 0),(ci 0),(ci (-1)),fK])] [(oO l p),(bf 0 2 ins.1 4 aa.1 fuel (↑param:Int)),(bD ins),.dead,(bU aa),(.row 37 3 4 [(ci 3),(ci (IntKind.i64.wrap ((nx l p 7).1-2))),dk,(ci 1),(ci 0),dk,(ci 2),(ci 1),dk,(ci 4),(ci 0),qe])] (ep ins) [(oO l p),(bf 0 6 ((sn ins { op:=Int.ofNat 2,a:=Int.ofNat 0,b:=Int.ofNat 0,c:=Int.ofNat 0,n:=Int.ofNat 0,args:={ n:=0,get:=fun x=>Int.ofNat 0 },k:={ kind:=Int.ofNat 3,n:=cE (I.v (Value.int IntKind.i64 (IntKind.i64.wrap ((nx l p 7).1-2)))),s:={ data:={ toList:=[] } } },names:={ n:=0,get:=fun x=>{ data:={ toList:=[] } } },place:={ fn:=Int.ofNat 0,line:=Int.ofNat 0 },exit:=Int.negSucc 0,once:=false }).1) 4 aa.1 fuel (↑param:Int)),.dead,.dead,(bU aa),(.row 37 3 4 [(ci 3),(ci (IntKind.i64.wrap ((nx l p 7).1-2))),dk,(ci 1),(ci 0),dk,(ci 2),(ci 1),dk,(ci 4),(ci 0),qe]),(.arr 40 14 ((sn ins { op:=Int.ofNat 2,a:=Int.ofNat 0,b:=Int.ofNat 0,c:=Int.ofNat 0,n:=Int.ofNat 0,args:={ n:=0,get:=fun x=>Int.ofNat 0 },k:={ kind:=Int.ofNat 3,n:=cE (I.v (Value.int IntKind.i64 (IntKind.i64.wrap ((nx l p 7).1-2)))),s:={ data:={ toList:=[] } } },names:={ n:=0,get:=fun x=>{ data:={ toList:=[] } } },place:={ fn:=Int.ofNat 0,line:=Int.ofNat 0 },exit:=Int.negSucc 0,once:=false }).1) (fun i=>cy ((sn ins { op:=Int.ofNat 2,a:=Int.ofNat 0,b:=Int.ofNat 0,c:=Int.ofNat 0,n:=Int.ofNat 0,args:={ n:=0,get:=fun x=>Int.ofNat 0 },k:={ kind:=Int.ofNat 3,n:=cE (I.v (Value.int IntKind.i64 (IntKind.i64.wrap ((nx l p 7).1-2)))),s:={ data:={ toList:=[] } } },names:={ n:=0,get:=fun x=>{ data:={ toList:=[] } } },place:={ fn:=Int.ofNat 0,line:=Int.ofNat 0 },exit:=Int.negSucc 0,once:=false }).2 i)))]∧QE (.t []) [(aE l ((nx l (nx l p 7).2 4).2)),(bf 0 6 ((sn ins { op:=Int.ofNat 2,a:=Int.ofNat 0,b:=Int.ofNat 0,c:=Int.ofNat 0,n:=Int.ofNat 0,args:={ n:=0,get:=fun x=>Int.ofNat 0 },k:={ kind:=Int.ofNat 3,n:=cE (I.v (Value.int IntKind.i64 (IntKind.i64.wrap ((nx l p 7).1-2)))),s:={ data:={ toList:=[] } } },names:={ n:=0,get:=fun x=>{ data:={ toList:=[] } } },place:={ fn:=Int.ofNat 0,line:=Int.ofNat 0 },exit:=Int.negSucc 0,once:=false }).1) 4 aa.1 fuel (↑param:Int)),.dead,.dead,(.arr 73 3 aa.1 (fun i=>dS (aa.2 i))),(.row 37 3 4 [(ci 3),(ci (IntKind.i64.wrap ((nx l p 7).1-2))),(.im (.v (.string ⟨⟨[]⟩⟩))),(ci 1),(ci 0),(.im (.v (.string ⟨⟨[]⟩⟩))),(ci 2),(ci 1),(.im (.v (.string ⟨⟨[]⟩⟩))),(ci 4),(ci 0),(.im (.v (.string ({ data := #[115] }))))]),(.arr 40 14 ((sn ins { op:=Int.ofNat 2,a:=Int.ofNat 0,b:=Int.ofNat 0,c:=Int.ofNat 0,n:=Int.ofNat 0,args:={ n:=0,get:=fun x=>Int.ofNat 0 },k:={ kind:=Int.ofNat 3,n:=cE (I.v (Value.int IntKind.i64 (IntKind.i64.wrap ((nx l p 7).1-2)))),s:={ data:={ toList:=[] } } },names:={ n:=0,get:=fun x=>{ data:={ toList:=[] } } },place:={ fn:=Int.ofNat 0,line:=Int.ofNat 0 },exit:=Int.negSucc 0,once:=false }).1) (fun i=>cy ((sn ins { op:=Int.ofNat 2,a:=Int.ofNat 0,b:=Int.ofNat 0,c:=Int.ofNat 0,n:=Int.ofNat 0,args:={ n:=0,get:=fun x=>Int.ofNat 0 },k:={ kind:=Int.ofNat 3,n:=cE (I.v (Value.int IntKind.i64 (IntKind.i64.wrap ((nx l p 7).1-2)))),s:={ data:={ toList:=[] } } },names:={ n:=0,get:=fun x=>{ data:={ toList:=[] } } },place:={ fn:=Int.ofNat 0,line:=Int.ofNat 0 },exit:=Int.negSucc 0,once:=false }).2 i)))])) (br ((nx l (nx l p 7).2 4).1.toNat.beq 1) ((LC 20 [(.c (.rt 1 0 0)),(.a [(ci 2),(ci 0),(ci 0),(ci 0),(ci 0),b6,(ci 1),(ci 0),dk,b6,(ci 0),(ci 0),(ci (-1)),fK])] [(oO l p),(bf 0 2 ins.1 4 aa.1 fuel (↑param:Int)),(bD ins),.dead,(bU aa),(.row 37 3 4 [(ci 3),(ci (IntKind.i64.wrap ((nx l p 7).1-2))),dk,(ci 1),(ci 0),dk,(ci 2),(ci 1),dk,(ci 4),(ci 0),qe])] (ep ins) [(oO l p),(bf 0 6 ((sn ins { op:=Int.ofNat 2,a:=Int.ofNat 0,b:=Int.ofNat 0,c:=Int.ofNat 0,n:=Int.ofNat 0,args:={ n:=0,get:=fun x=>Int.ofNat 0 },k:={ kind:=Int.ofNat 1,n:=Int.ofNat 0,s:={ data:={ toList:=[] } } },names:={ n:=0,get:=fun x=>{ data:={ toList:=[] } } },place:={ fn:=Int.ofNat 0,line:=Int.ofNat 0 },exit:=Int.negSucc 0,once:=false }).1) 4 aa.1 fuel (↑param:Int)),.dead,.dead,(bU aa),(.row 37 3 4 [(ci 3),(ci (IntKind.i64.wrap ((nx l p 7).1-2))),dk,(ci 1),(ci 0),dk,(ci 2),(ci 1),dk,(ci 4),(ci 0),qe]),(.arr 40 14 ((sn ins { op:=Int.ofNat 2,a:=Int.ofNat 0,b:=Int.ofNat 0,c:=Int.ofNat 0,n:=Int.ofNat 0,args:={ n:=0,get:=fun x=>Int.ofNat 0 },k:={ kind:=Int.ofNat 1,n:=Int.ofNat 0,s:={ data:={ toList:=[] } } },names:={ n:=0,get:=fun x=>{ data:={ toList:=[] } } },place:={ fn:=Int.ofNat 0,line:=Int.ofNat 0 },exit:=Int.negSucc 0,once:=false }).1) (fun i=>cy ((sn ins { op:=Int.ofNat 2,a:=Int.ofNat 0,b:=Int.ofNat 0,c:=Int.ofNat 0,n:=Int.ofNat 0,args:={ n:=0,get:=fun x=>Int.ofNat 0 },k:={ kind:=Int.ofNat 1,n:=Int.ofNat 0,s:={ data:={ toList:=[] } } },names:={ n:=0,get:=fun x=>{ data:={ toList:=[] } } },place:={ fn:=Int.ofNat 0,line:=Int.ofNat 0 },exit:=Int.negSucc 0,once:=false }).2 i)))]∧QE (.t []) [(aE l ((nx l (nx l p 7).2 4).2)),(bf 0 6 ((sn ins { op:=Int.ofNat 2,a:=Int.ofNat 0,b:=Int.ofNat 0,c:=Int.ofNat 0,n:=Int.ofNat 0,args:={ n:=0,get:=fun x=>Int.ofNat 0 },k:={ kind:=Int.ofNat 1,n:=Int.ofNat 0,s:={ data:={ toList:=[] } } },names:={ n:=0,get:=fun x=>{ data:={ toList:=[] } } },place:={ fn:=Int.ofNat 0,line:=Int.ofNat 0 },exit:=Int.negSucc 0,once:=false }).1) 4 aa.1 fuel (↑param:Int)),.dead,.dead,(.arr 73 3 aa.1 (fun i=>dS (aa.2 i))),(.row 37 3 4 [(ci 3),(ci (IntKind.i64.wrap ((nx l p 7).1-2))),(.im (.v (.string ⟨⟨[]⟩⟩))),(ci 1),(ci 0),(.im (.v (.string ⟨⟨[]⟩⟩))),(ci 2),(ci 1),(.im (.v (.string ⟨⟨[]⟩⟩))),(ci 4),(ci 0),(.im (.v (.string ({ data := #[115] }))))]),(.arr 40 14 ((sn ins { op:=Int.ofNat 2,a:=Int.ofNat 0,b:=Int.ofNat 0,c:=Int.ofNat 0,n:=Int.ofNat 0,args:={ n:=0,get:=fun x=>Int.ofNat 0 },k:={ kind:=Int.ofNat 1,n:=Int.ofNat 0,s:={ data:={ toList:=[] } } },names:={ n:=0,get:=fun x=>{ data:={ toList:=[] } } },place:={ fn:=Int.ofNat 0,line:=Int.ofNat 0 },exit:=Int.negSucc 0,once:=false }).1) (fun i=>cy ((sn ins { op:=Int.ofNat 2,a:=Int.ofNat 0,b:=Int.ofNat 0,c:=Int.ofNat 0,n:=Int.ofNat 0,args:={ n:=0,get:=fun x=>Int.ofNat 0 },k:={ kind:=Int.ofNat 1,n:=Int.ofNat 0,s:={ data:={ toList:=[] } } },names:={ n:=0,get:=fun x=>{ data:={ toList:=[] } } },place:={ fn:=Int.ofNat 0,line:=Int.ofNat 0 },exit:=Int.negSucc 0,once:=false }).2 i)))])) (br ((nx l (nx l p 7).2 4).1.toNat.beq 2) ((LC 20 [(.c (.rt 1 0 0)),(.a [(ci 2),(ci 0),(ci 0),(ci 0),(ci 0),b6,(ci 2),(ci 1),dk,b6,(ci 0),(ci 0),(ci (-1)),fK])] [(oO l p),(bf 0 2 ins.1 4 aa.1 fuel (↑param:Int)),(bD ins),.dead,(bU aa),(.row 37 3 4 [(ci 3),(ci (IntKind.i64.wrap ((nx l p 7).1-2))),dk,(ci 1),(ci 0),dk,(ci 2),(ci 1),dk,(ci 4),(ci 0),qe])] (ep ins) [(oO l p),(bf 0 6 ((sn ins { op:=Int.ofNat 2,a:=Int.ofNat 0,b:=Int.ofNat 0,c:=Int.ofNat 0,n:=Int.ofNat 0,args:={ n:=0,get:=fun x=>Int.ofNat 0 },k:={ kind:=Int.ofNat 2,n:=Int.ofNat 1,s:={ data:={ toList:=[] } } },names:={ n:=0,get:=fun x=>{ data:={ toList:=[] } } },place:={ fn:=Int.ofNat 0,line:=Int.ofNat 0 },exit:=Int.negSucc 0,once:=false }).1) 4 aa.1 fuel (↑param:Int)),.dead,.dead,(bU aa),(.row 37 3 4 [(ci 3),(ci (IntKind.i64.wrap ((nx l p 7).1-2))),dk,(ci 1),(ci 0),dk,(ci 2),(ci 1),dk,(ci 4),(ci 0),qe]),(.arr 40 14 ((sn ins { op:=Int.ofNat 2,a:=Int.ofNat 0,b:=Int.ofNat 0,c:=Int.ofNat 0,n:=Int.ofNat 0,args:={ n:=0,get:=fun x=>Int.ofNat 0 },k:={ kind:=Int.ofNat 2,n:=Int.ofNat 1,s:={ data:={ toList:=[] } } },names:={ n:=0,get:=fun x=>{ data:={ toList:=[] } } },place:={ fn:=Int.ofNat 0,line:=Int.ofNat 0 },exit:=Int.negSucc 0,once:=false }).1) (fun i=>cy ((sn ins { op:=Int.ofNat 2,a:=Int.ofNat 0,b:=Int.ofNat 0,c:=Int.ofNat 0,n:=Int.ofNat 0,args:={ n:=0,get:=fun x=>Int.ofNat 0 },k:={ kind:=Int.ofNat 2,n:=Int.ofNat 1,s:={ data:={ toList:=[] } } },names:={ n:=0,get:=fun x=>{ data:={ toList:=[] } } },place:={ fn:=Int.ofNat 0,line:=Int.ofNat 0 },exit:=Int.negSucc 0,once:=false }).2 i)))]∧QE (.t []) [(aE l ((nx l (nx l p 7).2 4).2)),(bf 0 6 ((sn ins { op:=Int.ofNat 2,a:=Int.ofNat 0,b:=Int.ofNat 0,c:=Int.ofNat 0,n:=Int.ofNat 0,args:={ n:=0,get:=fun x=>Int.ofNat 0 },k:={ kind:=Int.ofNat 2,n:=Int.ofNat 1,s:={ data:={ toList:=[] } } },names:={ n:=0,get:=fun x=>{ data:={ toList:=[] } } },place:={ fn:=Int.ofNat 0,line:=Int.ofNat 0 },exit:=Int.negSucc 0,once:=false }).1) 4 aa.1 fuel (↑param:Int)),.dead,.dead,(.arr 73 3 aa.1 (fun i=>dS (aa.2 i))),(.row 37 3 4 [(ci 3),(ci (IntKind.i64.wrap ((nx l p 7).1-2))),(.im (.v (.string ⟨⟨[]⟩⟩))),(ci 1),(ci 0),(.im (.v (.string ⟨⟨[]⟩⟩))),(ci 2),(ci 1),(.im (.v (.string ⟨⟨[]⟩⟩))),(ci 4),(ci 0),(.im (.v (.string ({ data := #[115] }))))]),(.arr 40 14 ((sn ins { op:=Int.ofNat 2,a:=Int.ofNat 0,b:=Int.ofNat 0,c:=Int.ofNat 0,n:=Int.ofNat 0,args:={ n:=0,get:=fun x=>Int.ofNat 0 },k:={ kind:=Int.ofNat 2,n:=Int.ofNat 1,s:={ data:={ toList:=[] } } },names:={ n:=0,get:=fun x=>{ data:={ toList:=[] } } },place:={ fn:=Int.ofNat 0,line:=Int.ofNat 0 },exit:=Int.negSucc 0,once:=false }).1) (fun i=>cy ((sn ins { op:=Int.ofNat 2,a:=Int.ofNat 0,b:=Int.ofNat 0,c:=Int.ofNat 0,n:=Int.ofNat 0,args:={ n:=0,get:=fun x=>Int.ofNat 0 },k:={ kind:=Int.ofNat 2,n:=Int.ofNat 1,s:={ data:={ toList:=[] } } },names:={ n:=0,get:=fun x=>{ data:={ toList:=[] } } },place:={ fn:=Int.ofNat 0,line:=Int.ofNat 0 },exit:=Int.negSucc 0,once:=false }).2 i)))])) (br ((nx l (nx l p 7).2 4).1.toNat.beq 3) ((LC 20 [(.c (.rt 1 0 0)),(.a [(ci 2),(ci 0),(ci 0),(ci 0),(ci 0),b6,(ci 4),(ci 0),qe,b6,(ci 0),(ci 0),(ci (-1)),fK])] [(oO l p),(bf 0 2 ins.1 4 aa.1 fuel (↑param:Int)),(bD ins),.dead,(bU aa),(.row 37 3 4 [(ci 3),(ci (IntKind.i64.wrap ((nx l p 7).1-2))),dk,(ci 1),(ci 0),dk,(ci 2),(ci 1),dk,(ci 4),(ci 0),qe])] (ep ins) [(oO l p),(bf 0 6 ((sn ins { op:=Int.ofNat 2,a:=Int.ofNat 0,b:=Int.ofNat 0,c:=Int.ofNat 0,n:=Int.ofNat 0,args:={ n:=0,get:=fun x=>Int.ofNat 0 },k:={ kind:=Int.ofNat 4,n:=Int.ofNat 0,s:={ data := #[115] } },names:={ n:=0,get:=fun x=>{ data:={ toList:=[] } } },place:={ fn:=Int.ofNat 0,line:=Int.ofNat 0 },exit:=Int.negSucc 0,once:=false }).1) 4 aa.1 fuel (↑param:Int)),.dead,.dead,(bU aa),(.row 37 3 4 [(ci 3),(ci (IntKind.i64.wrap ((nx l p 7).1-2))),dk,(ci 1),(ci 0),dk,(ci 2),(ci 1),dk,(ci 4),(ci 0),qe]),(.arr 40 14 ((sn ins { op:=Int.ofNat 2,a:=Int.ofNat 0,b:=Int.ofNat 0,c:=Int.ofNat 0,n:=Int.ofNat 0,args:={ n:=0,get:=fun x=>Int.ofNat 0 },k:={ kind:=Int.ofNat 4,n:=Int.ofNat 0,s:={ data := #[115] } },names:={ n:=0,get:=fun x=>{ data:={ toList:=[] } } },place:={ fn:=Int.ofNat 0,line:=Int.ofNat 0 },exit:=Int.negSucc 0,once:=false }).1) (fun i=>cy ((sn ins { op:=Int.ofNat 2,a:=Int.ofNat 0,b:=Int.ofNat 0,c:=Int.ofNat 0,n:=Int.ofNat 0,args:={ n:=0,get:=fun x=>Int.ofNat 0 },k:={ kind:=Int.ofNat 4,n:=Int.ofNat 0,s:={ data := #[115] } },names:={ n:=0,get:=fun x=>{ data:={ toList:=[] } } },place:={ fn:=Int.ofNat 0,line:=Int.ofNat 0 },exit:=Int.negSucc 0,once:=false }).2 i)))]∧QE (.t []) [(aE l ((nx l (nx l p 7).2 4).2)),(bf 0 6 ((sn ins { op:=Int.ofNat 2,a:=Int.ofNat 0,b:=Int.ofNat 0,c:=Int.ofNat 0,n:=Int.ofNat 0,args:={ n:=0,get:=fun x=>Int.ofNat 0 },k:={ kind:=Int.ofNat 4,n:=Int.ofNat 0,s:={ data := #[115] } },names:={ n:=0,get:=fun x=>{ data:={ toList:=[] } } },place:={ fn:=Int.ofNat 0,line:=Int.ofNat 0 },exit:=Int.negSucc 0,once:=false }).1) 4 aa.1 fuel (↑param:Int)),.dead,.dead,(.arr 73 3 aa.1 (fun i=>dS (aa.2 i))),(.row 37 3 4 [(ci 3),(ci (IntKind.i64.wrap ((nx l p 7).1-2))),(.im (.v (.string ⟨⟨[]⟩⟩))),(ci 1),(ci 0),(.im (.v (.string ⟨⟨[]⟩⟩))),(ci 2),(ci 1),(.im (.v (.string ⟨⟨[]⟩⟩))),(ci 4),(ci 0),(.im (.v (.string ({ data := #[115] }))))]),(.arr 40 14 ((sn ins { op:=Int.ofNat 2,a:=Int.ofNat 0,b:=Int.ofNat 0,c:=Int.ofNat 0,n:=Int.ofNat 0,args:={ n:=0,get:=fun x=>Int.ofNat 0 },k:={ kind:=Int.ofNat 4,n:=Int.ofNat 0,s:={ data := #[115] } },names:={ n:=0,get:=fun x=>{ data:={ toList:=[] } } },place:={ fn:=Int.ofNat 0,line:=Int.ofNat 0 },exit:=Int.negSucc 0,once:=false }).1) (fun i=>cy ((sn ins { op:=Int.ofNat 2,a:=Int.ofNat 0,b:=Int.ofNat 0,c:=Int.ofNat 0,n:=Int.ofNat 0,args:={ n:=0,get:=fun x=>Int.ofNat 0 },k:={ kind:=Int.ofNat 4,n:=Int.ofNat 0,s:={ data := #[115] } },names:={ n:=0,get:=fun x=>{ data:={ toList:=[] } } },place:={ fn:=Int.ofNat 0,line:=Int.ofNat 0 },exit:=Int.negSucc 0,once:=false }).2 i)))])) (False)))))))):dq (mW l sn sx) 22 fV L QE 3 (HV sn sx l p ins aa fuel param ):=Eq.mp (by kernel_rfl) h
noncomputable abbrev sM (ax:Sq Int) (aF:Nat) (aR:Sq aj) (bZ:Sq ai) (ct:Int) (dX:Nat):VS:=⟨[kI,ki],[aE ax aF,bf 0 2 aR.n 3 bZ.n ct dX,dJ aR,l6 bZ],[]⟩
noncomputable def yj (sn:Sq aj→aj→Sq aj) (sx:Sq ai→ai→Sq ai) (l:Sq Int) (p:Nat) (ins:Sq aj) (aa:Sq ai) (fuel:Int) (param:Nat)  : VS:=(sM l p ins aa fuel param)
noncomputable abbrev G9 (ax:Sq ai→ai→Sq ai) (aF:Sq ai) (aR:Sq Int) (bZ:Nat) (ct:Sq aj) (dX:Int) (eR:Nat):ah:=.arr 73 3 ((ax aF (lv aR (vl aR (vl aR (nx aR bZ 10).2 ct).2 ct).2 ct dX eR).1).1) (fun i=>dS ((ax aF (lv aR (vl aR (vl aR (nx aR bZ 10).2 ct).2 ct).2 ct dX eR).1).2 i))
theorem Wh (L:LP) (QE:D→List ah→Prop) (sn:Sq aj→aj→Sq aj) (sx:Sq ai→ai→Sq ai) (l:Sq Int) (p:Nat) (ins:Sq aj) (aa:Sq ai) (fuel:Int) (param:Nat)  (h:(WC 19 [(.c (.rt 0 0 0)),(int 10)] (nc l p ins aa fuel param) (int ((nx l p 10).1)) 0 (aE l ((nx l p 10).2))∧(WC 23 dO [(aE l ((nx l p 10).2)),(da ins aa fuel param),(bD ins),(bU aa)] (int ((vl l (nx l p 10).2 ins).1)) 0 (aE l ((vl l (nx l p 10).2 ins).2))∧(WC 23 dO [(aE l ((vl l (nx l p 10).2 ins).2)),(da ins aa fuel param),(bD ins),(bU aa)] (int ((vl l (vl l (nx l p 10).2 ins).2 ins).1)) 0 (aE l ((vl l (vl l (nx l p 10).2 ins).2 ins).2))∧(LC 21 dO [(aE l ((vl l (vl l (nx l p 10).2 ins).2 ins).2)),(da ins aa fuel param),(bD ins),(bU aa),(.box (iC 4 (vl l (nx l p 10).2 ins).1 (vl l (vl l (nx l p 10).2 ins).2 ins).1 0 (cE (I.v (Value.int IntKind.i64 (IntKind.i64.wrap (5+(nx l p 10).1))))) 0))] (iY aa) [(aE l ((lv l (vl l (vl l (nx l p 10).2 ins).2 ins).2 ins fuel param).2)),(bf 0 2 ins.1 5 ((sx aa (lv l (vl l (vl l (nx l p 10).2 ins).2 ins).2 ins fuel param).1).1) fuel (↑param:Int)),(bD ins),.dead,(.box (iC 4 (vl l (nx l p 10).2 ins).1 (vl l (vl l (nx l p 10).2 ins).2 ins).1 0 (cE (I.v (Value.int IntKind.i64 (IntKind.i64.wrap (5+(nx l p 10).1))))) 0)),(G9 sx aa l p ins fuel param)]∧(LC 20 [(.c (.rt 1 0 0)),(.a (iC 4 (vl l (nx l p 10).2 ins).1 (vl l (vl l (nx l p 10).2 ins).2 ins).1 0 (cE (I.v (Value.int IntKind.i64 (IntKind.i64.wrap (5+(nx l p 10).1))))) (Int.ofNat aa.1)))] [(aE l ((lv l (vl l (vl l (nx l p 10).2 ins).2 ins).2 ins fuel param).2)),(bf 0 2 ins.1 5 ((sx aa (lv l (vl l (vl l (nx l p 10).2 ins).2 ins).2 ins fuel param).1).1) fuel (↑param:Int)),(bD ins),.dead,(.box (iC 4 (vl l (nx l p 10).2 ins).1 (vl l (vl l (nx l p 10).2 ins).2 ins).1 0 (cE (I.v (Value.int IntKind.i64 (IntKind.i64.wrap (5+(nx l p 10).1))))) (Int.ofNat aa.1))),(G9 sx aa l p ins fuel param)] (ep ins) [(aE l ((lv l (vl l (vl l (nx l p 10).2 ins).2 ins).2 ins fuel param).2)),(bf 0 6 ((sn ins (dt 4 (vl l (nx l p 10).2 ins).1 (vl l (vl l (nx l p 10).2 ins).2 ins).1 0 (cE (I.v (Value.int IntKind.i64 (IntKind.i64.wrap (5+(nx l p 10).1))))) (Int.ofNat aa.1))).1) 5 ((sx aa (lv l (vl l (vl l (nx l p 10).2 ins).2 ins).2 ins fuel param).1).1) fuel (↑param:Int)),.dead,.dead,(.box (iC 4 (vl l (nx l p 10).2 ins).1 (vl l (vl l (nx l p 10).2 ins).2 ins).1 0 (cE (I.v (Value.int IntKind.i64 (IntKind.i64.wrap (5+(nx l p 10).1))))) (Int.ofNat aa.1))),(G9 sx aa l p ins fuel param),(.arr 40 14 ((sn ins (dt 4 (vl l (nx l p 10).2 ins).1 (vl l (vl l (nx l p 10).2 ins).2 ins).1 0 (cE (I.v (Value.int IntKind.i64 (IntKind.i64.wrap (5+(nx l p 10).1))))) (Int.ofNat aa.1))).1) (fun i=>cy ((sn ins (dt 4 (vl l (nx l p 10).2 ins).1 (vl l (vl l (nx l p 10).2 ins).2 ins).1 0 (cE (I.v (Value.int IntKind.i64 (IntKind.i64.wrap (5+(nx l p 10).1))))) (Int.ofNat aa.1))).2 i)))]∧QE (.t []) [(aE l ((lv l (vl l (vl l (nx l p 10).2 ins).2 ins).2 ins fuel param).2)),(bf 0 6 ((sn ins (dt 4 (vl l (nx l p 10).2 ins).1 (vl l (vl l (nx l p 10).2 ins).2 ins).1 0 (cE (I.v (Value.int IntKind.i64 (IntKind.i64.wrap (5+(nx l p 10).1))))) (Int.ofNat aa.1))).1) 5 ((sx aa (lv l (vl l (vl l (nx l p 10).2 ins).2 ins).2 ins fuel param).1).1) fuel (↑param:Int)),.dead,.dead,(.box (iC 4 (vl l (nx l p 10).2 ins).1 (vl l (vl l (nx l p 10).2 ins).2 ins).1 0 (cE (I.v (Value.int IntKind.i64 (IntKind.i64.wrap (5+(nx l p 10).1))))) (Int.ofNat aa.1))),(.arr 73 3 ((sx aa (lv l (vl l (vl l (nx l p 10).2 ins).2 ins).2 ins fuel param).1).1) (fun i=>dS ((sx aa (lv l (vl l (vl l (nx l p 10).2 ins).2 ins).2 ins fuel param).1).2 i))),(.arr 40 14 ((sn ins (dt 4 (vl l (nx l p 10).2 ins).1 (vl l (vl l (nx l p 10).2 ins).2 ins).1 0 (cE (I.v (Value.int IntKind.i64 (IntKind.i64.wrap (5+(nx l p 10).1))))) (Int.ofNat aa.1))).1) (fun i=>cy ((sn ins (dt 4 (vl l (nx l p 10).2 ins).1 (vl l (vl l (nx l p 10).2 ins).2 ins).1 0 (cE (I.v (Value.int IntKind.i64 (IntKind.i64.wrap (5+(nx l p 10).1))))) (Int.ofNat aa.1))).2 i)))])))))):dq (mW l sn sx) 22 fV L QE 7 (yj sn sx l p ins aa fuel param ):=Eq.mp (by kernel_rfl) h
noncomputable def Az (sn:Sq aj→aj→Sq aj) (sx:Sq ai→ai→Sq ai) (l:Sq Int) (p:Nat) (ins:Sq aj) (aa:Sq ai) (fuel:Int) (param:Nat)  : VS:=(sM l p ins aa fuel param)
noncomputable abbrev lg (ax:Sq Int) (aF:Nat) (aR:Sq aj):D:=int ((vl ax (nx ax aF 2).2 aR).1)
noncomputable abbrev oq (ax:Sq Int) (aF:Nat) (aR:Sq aj):ah:=aE ax ((vl ax (nx ax aF 2).2 aR).2)
noncomputable abbrev Hm (ax:Sq ai→ai→Sq ai) (aF:Sq ai) (aR:Sq Int) (bZ:Nat) (ct:Sq aj) (dX:Int) (eR:Nat):ah:=.arr 73 3 ((ax aF (lv aR (vl aR (nx aR bZ 2).2 ct).2 ct dX eR).1).1) (fun i=>dS ((ax aF (lv aR (vl aR (nx aR bZ 2).2 ct).2 ct dX eR).1).2 i))
theorem R3 (L:LP) (QE:D→List ah→Prop) (sn:Sq aj→aj→Sq aj) (sx:Sq ai→ai→Sq ai) (l:Sq Int) (p:Nat) (ins:Sq aj) (aa:Sq ai) (fuel:Int) (param:Nat)  (h:(WC 19 kf (nc l p ins aa fuel param) (lX l p) 0 (aE l ((nx l p 2).2))∧(WC 23 dO [(gQ l p),(da ins aa fuel param),(bD ins),(bU aa)] (lg l p ins) 0 (aE l ((vl l (nx l p 2).2 ins).2))∧(LC 21 dO [(oq l p ins),(da ins aa fuel param),(bD ins),(bU aa),(.box (iC 3 (vl l (nx l p 2).2 ins).1 0 0 (cE (I.v (Value.int IntKind.i64 (IntKind.i64.wrap (3+(nx l p 2).1))))) 0))] (iY aa) [(aE l ((lv l (vl l (nx l p 2).2 ins).2 ins fuel param).2)),(bf 0 2 ins.1 5 ((sx aa (lv l (vl l (nx l p 2).2 ins).2 ins fuel param).1).1) fuel (↑param:Int)),(bD ins),.dead,(.box (iC 3 (vl l (nx l p 2).2 ins).1 0 0 (cE (I.v (Value.int IntKind.i64 (IntKind.i64.wrap (3+(nx l p 2).1))))) 0)),(Hm sx aa l p ins fuel param)]∧(LC 20 [(.c (.rt 1 0 0)),(.a (iC 3 (vl l (nx l p 2).2 ins).1 0 0 (cE (I.v (Value.int IntKind.i64 (IntKind.i64.wrap (3+(nx l p 2).1))))) (Int.ofNat aa.1)))] [(aE l ((lv l (vl l (nx l p 2).2 ins).2 ins fuel param).2)),(bf 0 2 ins.1 5 ((sx aa (lv l (vl l (nx l p 2).2 ins).2 ins fuel param).1).1) fuel (↑param:Int)),(bD ins),.dead,(.box (iC 3 (vl l (nx l p 2).2 ins).1 0 0 (cE (I.v (Value.int IntKind.i64 (IntKind.i64.wrap (3+(nx l p 2).1))))) (Int.ofNat aa.1))),(Hm sx aa l p ins fuel param)] (ep ins) [(aE l ((lv l (vl l (nx l p 2).2 ins).2 ins fuel param).2)),(bf 0 6 ((sn ins (dt 3 (vl l (nx l p 2).2 ins).1 0 0 (cE (I.v (Value.int IntKind.i64 (IntKind.i64.wrap (3+(nx l p 2).1))))) (Int.ofNat aa.1))).1) 5 ((sx aa (lv l (vl l (nx l p 2).2 ins).2 ins fuel param).1).1) fuel (↑param:Int)),.dead,.dead,(.box (iC 3 (vl l (nx l p 2).2 ins).1 0 0 (cE (I.v (Value.int IntKind.i64 (IntKind.i64.wrap (3+(nx l p 2).1))))) (Int.ofNat aa.1))),(Hm sx aa l p ins fuel param),(.arr 40 14 ((sn ins (dt 3 (vl l (nx l p 2).2 ins).1 0 0 (cE (I.v (Value.int IntKind.i64 (IntKind.i64.wrap (3+(nx l p 2).1))))) (Int.ofNat aa.1))).1) (fun i=>cy ((sn ins (dt 3 (vl l (nx l p 2).2 ins).1 0 0 (cE (I.v (Value.int IntKind.i64 (IntKind.i64.wrap (3+(nx l p 2).1))))) (Int.ofNat aa.1))).2 i)))]∧QE (.t []) [(aE l ((lv l (vl l (nx l p 2).2 ins).2 ins fuel param).2)),(bf 0 6 ((sn ins (dt 3 (vl l (nx l p 2).2 ins).1 0 0 (cE (I.v (Value.int IntKind.i64 (IntKind.i64.wrap (3+(nx l p 2).1))))) (Int.ofNat aa.1))).1) 5 ((sx aa (lv l (vl l (nx l p 2).2 ins).2 ins fuel param).1).1) fuel (↑param:Int)),.dead,.dead,(.box (iC 3 (vl l (nx l p 2).2 ins).1 0 0 (cE (I.v (Value.int IntKind.i64 (IntKind.i64.wrap (3+(nx l p 2).1))))) (Int.ofNat aa.1))),(.arr 73 3 ((sx aa (lv l (vl l (nx l p 2).2 ins).2 ins fuel param).1).1) (fun i=>dS ((sx aa (lv l (vl l (nx l p 2).2 ins).2 ins fuel param).1).2 i))),(.arr 40 14 ((sn ins (dt 3 (vl l (nx l p 2).2 ins).1 0 0 (cE (I.v (Value.int IntKind.i64 (IntKind.i64.wrap (3+(nx l p 2).1))))) (Int.ofNat aa.1))).1) (fun i=>cy ((sn ins (dt 3 (vl l (nx l p 2).2 ins).1 0 0 (cE (I.v (Value.int IntKind.i64 (IntKind.i64.wrap (3+(nx l p 2).1))))) (Int.ofNat aa.1))).2 i)))]))))):dq (mW l sn sx) 22 fV L QE 11 (Az sn sx l p ins aa fuel param ):=Eq.mp (by kernel_rfl) h
noncomputable def Al (sn:Sq aj→aj→Sq aj) (sx:Sq ai→ai→Sq ai) (l:Sq Int) (p:Nat) (ins:Sq aj) (aa:Sq ai) (fuel:Int) (param:Nat)  : VS:=(sM l p ins aa fuel param)
noncomputable abbrev jW:ah:=.row 3 1 2 [(ci 10),(ci 11)]
noncomputable abbrev tf (ax:Sq Int) (aF:Nat) (aR:Sq aj):D:=int ((vl ax (vl ax (nx ax aF 2).2 aR).2 aR).1)
noncomputable abbrev BC (ax:Sq Int) (aF:Nat) (aR:Sq aj) (bZ:Sq ai) (ct:Int) (dX:Nat):List ah:=[(gQ ax aF),(da aR bZ ct dX),(bD aR),(bU bZ),.dead,.dead,.dead,.dead,.dead]
noncomputable abbrev Ag (ax:Sq Int) (aF:Nat) (aR:Sq aj) (bZ:Sq ai) (ct:Int) (dX:Nat):List ah:=[(oq ax aF aR),(da aR bZ ct dX),(bD aR),(bU bZ),.dead,.dead,.dead,.dead,.dead]
noncomputable abbrev AA (ax:Sq Int) (aF:Nat) (aR:Sq aj):ah:=aE ax ((vl ax (vl ax (nx ax aF 2).2 aR).2 aR).2)
noncomputable abbrev CQ (ax:Sq Int) (aF:Nat) (aR:Sq aj):ah:=.box (iC 4 (vl ax (nx ax aF 2).2 aR).1 (vl ax (vl ax (nx ax aF 2).2 aR).2 aR).1 0 10 0)
noncomputable abbrev ue (ax:Sq Int) (aF:Nat) (aR:Sq aj) (bZ:Int) (ct:Nat):ah:=aE ax ((lv ax (vl ax (vl ax (nx ax aF 2).2 aR).2 aR).2 aR bZ ct).2)
noncomputable abbrev yY (ax:Sq aj) (aF:Sq ai→ai→Sq ai) (aR:Sq ai) (bZ:Sq Int) (ct:Nat) (dX:Int) (eR:Nat):ah:=bf 0 2 ax.1 9 ((aF aR (lv bZ (vl bZ (vl bZ (nx bZ ct 2).2 ax).2 ax).2 ax dX eR).1).1) dX (↑eR:Int)
noncomputable abbrev uK (ax:Sq ai→ai→Sq ai) (aF:Sq ai) (aR:Sq Int) (bZ:Nat) (ct:Sq aj) (dX:Int) (eR:Nat):ah:=.arr 73 3 ((ax aF (lv aR (vl aR (vl aR (nx aR bZ 2).2 ct).2 ct).2 ct dX eR).1).1) (fun i=>dS ((ax aF (lv aR (vl aR (vl aR (nx aR bZ 2).2 ct).2 ct).2 ct dX eR).1).2 i))
noncomputable abbrev B2 (ax:Sq Int) (aF:Nat) (aR:Sq aj) (bZ:Sq ai):List C:=iC 4 (vl ax (nx ax aF 2).2 aR).1 (vl ax (vl ax (nx ax aF 2).2 aR).2 aR).1 0 10 (Int.ofNat bZ.1)
noncomputable abbrev N4 (ax:Sq Int) (aF:Nat) (aR:Sq aj) (bZ:Int) (ct:Nat) (dX:Sq ai→ai→Sq ai) (eR:Sq ai):List ah:=[(ue ax aF aR bZ ct),(yY aR dX eR ax aF bZ ct),(bD aR),.dead,jW,.dead,.dead,.dead,(.box (B2 ax aF aR eR)),(uK dX eR ax aF aR bZ ct)]
noncomputable abbrev JZ (ax:Sq Int) (aF:Nat) (aR:Sq aj) (bZ:Int) (ct:Nat) (dX:Sq aj→aj→Sq aj) (eR:Sq ai) (tR:Sq ai→ai→Sq ai):List ah:=[(ue ax aF aR bZ ct),(bf 0 10 ((dX aR (dt 4 (vl ax (nx ax aF 2).2 aR).1 (vl ax (vl ax (nx ax aF 2).2 aR).2 aR).1 0 10 (Int.ofNat eR.1))).1) 9 ((tR eR (lv ax (vl ax (vl ax (nx ax aF 2).2 aR).2 aR).2 aR bZ ct).1).1) bZ (↑ct:Int)),.dead,.dead,jW,.dead,.dead,.dead,(.box (B2 ax aF aR eR)),(uK tR eR ax aF aR bZ ct),(.arr 40 14 ((dX aR (dt 4 (vl ax (nx ax aF 2).2 aR).1 (vl ax (vl ax (nx ax aF 2).2 aR).2 aR).1 0 10 (Int.ofNat eR.1))).1) (fun i=>cy ((dX aR (dt 4 (vl ax (nx ax aF 2).2 aR).1 (vl ax (vl ax (nx ax aF 2).2 aR).2 aR).1 0 10 (Int.ofNat eR.1))).2 i)))]
noncomputable abbrev AW (ax:Sq aj):aN:=[eC,dW,(6,((ep ax),[]))]
noncomputable abbrev BP (ax:Sq Int) (aF:Nat) (aR:Sq aj):ah:=.box (iC 4 (vl ax (nx ax aF 2).2 aR).1 (vl ax (vl ax (nx ax aF 2).2 aR).2 aR).1 0 11 0)
noncomputable abbrev BD (ax:Sq Int) (aF:Nat) (aR:Sq aj) (bZ:Sq ai):List C:=iC 4 (vl ax (nx ax aF 2).2 aR).1 (vl ax (vl ax (nx ax aF 2).2 aR).2 aR).1 0 11 (Int.ofNat bZ.1)
noncomputable abbrev Oo (ax:Sq Int) (aF:Nat) (aR:Sq aj) (bZ:Int) (ct:Nat) (dX:Sq ai→ai→Sq ai) (eR:Sq ai):List ah:=[(ue ax aF aR bZ ct),(yY aR dX eR ax aF bZ ct),(bD aR),.dead,jW,.dead,.dead,.dead,(.box (BD ax aF aR eR)),(uK dX eR ax aF aR bZ ct)]
noncomputable abbrev Jv (ax:Sq Int) (aF:Nat) (aR:Sq aj) (bZ:Int) (ct:Nat) (dX:Sq aj→aj→Sq aj) (eR:Sq ai) (tR:Sq ai→ai→Sq ai):List ah:=[(ue ax aF aR bZ ct),(bf 0 10 ((dX aR (dt 4 (vl ax (nx ax aF 2).2 aR).1 (vl ax (vl ax (nx ax aF 2).2 aR).2 aR).1 0 11 (Int.ofNat eR.1))).1) 9 ((tR eR (lv ax (vl ax (vl ax (nx ax aF 2).2 aR).2 aR).2 aR bZ ct).1).1) bZ (↑ct:Int)),.dead,.dead,jW,.dead,.dead,.dead,(.box (BD ax aF aR eR)),(uK tR eR ax aF aR bZ ct),(.arr 40 14 ((dX aR (dt 4 (vl ax (nx ax aF 2).2 aR).1 (vl ax (vl ax (nx ax aF 2).2 aR).2 aR).1 0 11 (Int.ofNat eR.1))).1) (fun i=>cy ((dX aR (dt 4 (vl ax (nx ax aF 2).2 aR).1 (vl ax (vl ax (nx ax aF 2).2 aR).2 aR).1 0 11 (Int.ofNat eR.1))).2 i)))]
theorem Rl (L:LP) (QE:D→List ah→Prop) (sn:Sq aj→aj→Sq aj) (sx:Sq ai→ai→Sq ai) (l:Sq Int) (p:Nat) (ins:Sq aj) (aa:Sq ai) (fuel:Int) (param:Nat)  (h:(WC 19 kf [(aE l p),(da ins aa fuel param),(bD ins),(bU aa),jW,.dead,.dead,.dead,.dead] (lX l p) 0 (aE l ((nx l p 2).2))∧nd (cd (nx l p 2).1 2) (br ((nx l p 2).1.toNat.beq 0) ((WC 23 dO [(gQ l p),(da ins aa fuel param),(bD ins),(bU aa),jW,.dead,.dead,.dead,.dead] (lg l p ins) 0 (aE l ((vl l (nx l p 2).2 ins).2))∧(WC 23 dO [(oq l p ins),(da ins aa fuel param),(bD ins),(bU aa),jW,.dead,.dead,.dead,.dead] (tf l p ins) 0 (aE l ((vl l (vl l (nx l p 2).2 ins).2 ins).2))∧(WC 19 kf [(aE l p),(da ins aa fuel param),(bD ins),(bU aa),.dead,.dead,.dead,.dead,.dead] (lX l p) 0 (aE l ((nx l p 2).2))∧nd (cd (nx l p 2).1 2) (br ((nx l p 2).1.toNat.beq 0) ((WC 23 dO (BC l p ins aa fuel param) (lg l p ins) 0 (aE l ((vl l (nx l p 2).2 ins).2))∧(WC 23 dO (Ag l p ins aa fuel param) (tf l p ins) 0 (aE l ((vl l (vl l (nx l p 2).2 ins).2 ins).2))∧(LC 21 dO [(AA l p ins),(da ins aa fuel param),(bD ins),(bU aa),jW,.dead,.dead,.dead,(CQ l p ins)] (iY aa) [(ue l p ins fuel param),(yY ins sx aa l p fuel param),(bD ins),.dead,jW,.dead,.dead,.dead,(CQ l p ins),(uK sx aa l p ins fuel param)]∧(LC 20 [(.c (.rt 1 0 0)),(.a (B2 l p ins aa))] (N4 l p ins fuel param sx aa) (ep ins) (JZ l p ins fuel param sn aa sx)∧L (ag 22 18) ⟨(AW ins),(JZ l p ins fuel param sn aa sx),[]⟩))))) (br ((nx l p 2).1.toNat.beq 1) ((WC 23 dO (BC l p ins aa fuel param) (lg l p ins) 0 (aE l ((vl l (nx l p 2).2 ins).2))∧(WC 23 dO (Ag l p ins aa fuel param) (tf l p ins) 0 (aE l ((vl l (vl l (nx l p 2).2 ins).2 ins).2))∧(LC 21 dO [(AA l p ins),(da ins aa fuel param),(bD ins),(bU aa),jW,.dead,.dead,.dead,(BP l p ins)] (iY aa) [(ue l p ins fuel param),(yY ins sx aa l p fuel param),(bD ins),.dead,jW,.dead,.dead,.dead,(BP l p ins),(uK sx aa l p ins fuel param)]∧(LC 20 [(.c (.rt 1 0 0)),(.a (BD l p ins aa))] (Oo l p ins fuel param sx aa) (ep ins) (Jv l p ins fuel param sn aa sx)∧L (ag 22 18) ⟨(AW ins),(Jv l p ins fuel param sn aa sx),[]⟩))))) (False))))))) (br ((nx l p 2).1.toNat.beq 1) ((WC 23 dO [(gQ l p),(da ins aa fuel param),(bD ins),(bU aa),jW,.dead,.dead,.dead,.dead] (lg l p ins) 0 (aE l ((vl l (nx l p 2).2 ins).2))∧(WC 23 dO [(oq l p ins),(da ins aa fuel param),(bD ins),(bU aa),jW,.dead,.dead,.dead,.dead] (tf l p ins) 0 (aE l ((vl l (vl l (nx l p 2).2 ins).2 ins).2))∧(WC 19 kf [(aE l p),(da ins aa fuel param),(bD ins),(bU aa),.dead,.dead,.dead,.dead,.dead] (lX l p) 0 (aE l ((nx l p 2).2))∧nd (cd (nx l p 2).1 2) (br ((nx l p 2).1.toNat.beq 0) ((WC 23 dO (BC l p ins aa fuel param) (lg l p ins) 0 (aE l ((vl l (nx l p 2).2 ins).2))∧(WC 23 dO (Ag l p ins aa fuel param) (tf l p ins) 0 (aE l ((vl l (vl l (nx l p 2).2 ins).2 ins).2))∧(LC 21 dO [(AA l p ins),(da ins aa fuel param),(bD ins),(bU aa),jW,.dead,.dead,.dead,(CQ l p ins)] (iY aa) [(ue l p ins fuel param),(yY ins sx aa l p fuel param),(bD ins),.dead,jW,.dead,.dead,.dead,(CQ l p ins),(uK sx aa l p ins fuel param)]∧(LC 20 [(.c (.rt 1 0 0)),(.a (B2 l p ins aa))] (N4 l p ins fuel param sx aa) (ep ins) (JZ l p ins fuel param sn aa sx)∧L (ag 22 18) ⟨(AW ins),(JZ l p ins fuel param sn aa sx),[]⟩))))) (br ((nx l p 2).1.toNat.beq 1) ((WC 23 dO (BC l p ins aa fuel param) (lg l p ins) 0 (aE l ((vl l (nx l p 2).2 ins).2))∧(WC 23 dO (Ag l p ins aa fuel param) (tf l p ins) 0 (aE l ((vl l (vl l (nx l p 2).2 ins).2 ins).2))∧(LC 21 dO [(AA l p ins),(da ins aa fuel param),(bD ins),(bU aa),jW,.dead,.dead,.dead,(BP l p ins)] (iY aa) [(ue l p ins fuel param),(yY ins sx aa l p fuel param),(bD ins),.dead,jW,.dead,.dead,.dead,(BP l p ins),(uK sx aa l p ins fuel param)]∧(LC 20 [(.c (.rt 1 0 0)),(.a (BD l p ins aa))] (Oo l p ins fuel param sx aa) (ep ins) (Jv l p ins fuel param sn aa sx)∧L (ag 22 18) ⟨(AW ins),(Jv l p ins fuel param sn aa sx),[]⟩))))) (False))))))) (False))))):dq (mW l sn sx) 22 fV L QE 15 (Al sn sx l p ins aa fuel param ):=Eq.mp (by kernel_rfl) h
noncomputable abbrev tS (ax:Sq Int) (aF:Nat) (aR:Sq aj) (bZ:Sq ai) (ct:Int) (dX:Nat):List ah:=[aE ax aF,bf 0 5 aR.n 4 bZ.n ct dX,.dead,.dead,l6 bZ,dJ aR]
noncomputable def ve (sn:Sq aj→aj→Sq aj) (sx:Sq ai→ai→Sq ai) (l:Sq Int) (p:Nat) (ins:Sq aj) (aa:Sq ai) (fuel:Int) (param:Nat) (c:Int):VS:=⟨[kI,ki,(6,int c,[])],(tS l p ins aa fuel param),[]⟩
noncomputable abbrev jj (ax:Sq aj) (aF:Sq ai) (aR:Int) (bZ:Nat):ah:=bf 0 5 ax.1 4 aF.1 aR (↑bZ:Int)
noncomputable abbrev tz (ax:Sq Int) (aF:Nat) (aR:Sq aj) (bZ:Sq ai) (ct:Int) (dX:Nat):List ah:=[(aE ax aF),(jj aR bZ ct dX),.dead,.dead,(bU bZ),(bD aR)]
noncomputable abbrev Hb (ax:Sq ai→ai→Sq ai) (aF:Sq ai) (aR:Sq Int) (bZ:Nat) (ct:Sq aj) (dX:Int) (eR:Nat):ah:=.arr 73 3 ((ax aF (lv aR (nx aR bZ 2).2 ct dX eR).1).1) (fun i=>dS ((ax aF (lv aR (nx aR bZ 2).2 ct dX eR).1).2 i))
theorem TH (L:LP) (QE:D→List ah→Prop) (sn:Sq aj→aj→Sq aj) (sx:Sq ai→ai→Sq ai) (l:Sq Int) (p:Nat) (ins:Sq aj) (aa:Sq ai) (fuel:Int) (param:Nat) (c:Int) (h:(WC 19 kf (tz l p ins aa fuel param) (lX l p) 0 (aE l ((nx l p 2).2))∧(LC 21 dO [(gQ l p),(jj ins aa fuel param),.dead,.dead,(bU aa),(bD ins),(.box (iC 5 c 0 0 (nx l p 2).1 0))] (iY aa) [(aE l ((lv l (nx l p 2).2 ins fuel param).2)),(bf 0 5 ins.1 7 ((sx aa (lv l (nx l p 2).2 ins fuel param).1).1) fuel (↑param:Int)),.dead,.dead,.dead,(bD ins),(.box (iC 5 c 0 0 (nx l p 2).1 0)),(Hb sx aa l p ins fuel param)]∧(LC 20 [(.c (.rt 1 0 0)),(.a (iC 5 c 0 0 (nx l p 2).1 (Int.ofNat aa.1)))] [(aE l ((lv l (nx l p 2).2 ins fuel param).2)),(bf 0 5 ins.1 7 ((sx aa (lv l (nx l p 2).2 ins fuel param).1).1) fuel (↑param:Int)),.dead,.dead,.dead,(bD ins),(.box (iC 5 c 0 0 (nx l p 2).1 (Int.ofNat aa.1))),(Hb sx aa l p ins fuel param)] (ep ins) [(aE l ((lv l (nx l p 2).2 ins fuel param).2)),(bf 0 8 ((sn ins (dt 5 c 0 0 (nx l p 2).1 (Int.ofNat aa.1))).1) 7 ((sx aa (lv l (nx l p 2).2 ins fuel param).1).1) fuel (↑param:Int)),.dead,.dead,.dead,.dead,(.box (iC 5 c 0 0 (nx l p 2).1 (Int.ofNat aa.1))),(Hb sx aa l p ins fuel param),(.arr 40 14 ((sn ins (dt 5 c 0 0 (nx l p 2).1 (Int.ofNat aa.1))).1) (fun i=>cy ((sn ins (dt 5 c 0 0 (nx l p 2).1 (Int.ofNat aa.1))).2 i)))]∧QE (.t []) [(aE l ((lv l (nx l p 2).2 ins fuel param).2)),(bf 0 8 ((sn ins (dt 5 c 0 0 (nx l p 2).1 (Int.ofNat aa.1))).1) 7 ((sx aa (lv l (nx l p 2).2 ins fuel param).1).1) fuel (↑param:Int)),.dead,.dead,.dead,.dead,(.box (iC 5 c 0 0 (nx l p 2).1 (Int.ofNat aa.1))),(.arr 73 3 ((sx aa (lv l (nx l p 2).2 ins fuel param).1).1) (fun i=>dS ((sx aa (lv l (nx l p 2).2 ins fuel param).1).2 i))),(.arr 40 14 ((sn ins (dt 5 c 0 0 (nx l p 2).1 (Int.ofNat aa.1))).1) (fun i=>cy ((sn ins (dt 5 c 0 0 (nx l p 2).1 (Int.ofNat aa.1))).2 i)))])))):dq (mW l sn sx) 22 fV L QE 18 (ve sn sx l p ins aa fuel param c):=Eq.mp (by kernel_rfl) h
noncomputable def vw (sn:Sq aj→aj→Sq aj) (sx:Sq ai→ai→Sq ai) (l:Sq Int) (p:Nat) (ins:Sq aj) (aa:Sq ai) (fuel:Int) (param:Nat)  : VS:=(sM l p ins aa fuel param)
noncomputable abbrev JF (ax:Sq Int) (aF:Nat) (aR:Sq aj) (bZ:Int) (ct:Nat) (dX:Sq aj→aj→Sq aj) (eR:Sq ai) (tR:Sq ai→ai→Sq ai):List ah:=[(aE ax ((fJ ax aF aR bZ ct).2)),(bf 0 5 ((dX aR (ji ax aF aR ct eR.1)).1) 4 ((tR eR (fJ ax aF aR bZ ct).1).1) bZ (↑ct:Int)),.dead,.dead,(.arr 73 3 ((tR eR (fJ ax aF aR bZ ct).1).1) (fun i=>dS ((tR eR (fJ ax aF aR bZ ct).1).2 i))),(.arr 40 14 ((dX aR (ji ax aF aR ct eR.1)).1) (fun i=>cy ((dX aR (ji ax aF aR ct eR.1)).2 i)))]
theorem SJ (L:LP) (QE:D→List ah→Prop) (sn:Sq aj→aj→Sq aj) (sx:Sq ai→ai→Sq ai) (l:Sq Int) (p:Nat) (ins:Sq aj) (aa:Sq ai) (fuel:Int) (param:Nat)  (h:(LC 34 dO (nc l p ins aa fuel param) (int ((iO l p ins param).1)) (JF l p ins fuel param sn aa sx)∧L (ag 22 24) ⟨[eC,dW,(8,((int ((iO l p ins param).1)),[]))],(JF l p ins fuel param sn aa sx),[]⟩)):dq (mW l sn sx) 22 fV L QE 23 (vw sn sx l p ins aa fuel param ):=Eq.mp (by kernel_rfl) h
noncomputable def CG (sn:Sq aj→aj→Sq aj) (sx:Sq ai→ai→Sq ai) (l:Sq Int) (p:Nat) (ins:Sq aj) (aa:Sq ai) (fuel:Int) (param:Nat) (c:Int):VS:=⟨[kI,ki,(8,int c,[])],(tS l p ins aa fuel param),[]⟩
noncomputable abbrev Py (ax:Sq Int) (aF:Nat) (aR:Sq aj→aj→Sq aj) (bZ:Sq aj) (ct:Int) (dX:Sq ai) (eR:Int) (tR:Nat):List ah:=[(gQ ax aF),(bf 0 6 ((aR bZ (dt 10 ct 0 0 (nx ax aF 2).1 (-1))).1) 4 dX.1 eR (↑tR:Int)),.dead,.dead,(bU dX),.dead,(.arr 40 14 ((aR bZ (dt 10 ct 0 0 (nx ax aF 2).1 (-1))).1) (fun i=>cy ((aR bZ (dt 10 ct 0 0 (nx ax aF 2).1 (-1))).2 i)))]
theorem Rf (L:LP) (QE:D→List ah→Prop) (sn:Sq aj→aj→Sq aj) (sx:Sq ai→ai→Sq ai) (l:Sq Int) (p:Nat) (ins:Sq aj) (aa:Sq ai) (fuel:Int) (param:Nat) (c:Int) (h:(WC 19 kf (tz l p ins aa fuel param) (lX l p) 0 (aE l ((nx l p 2).2))∧(LC 20 [(.c (.rt 1 0 0)),(.a (iC 10 c 0 0 (nx l p 2).1 (-1)))] [(gQ l p),(jj ins aa fuel param),.dead,.dead,(bU aa),(bD ins)] (ep ins) (Py l p sn ins c aa fuel param)∧QE (.t []) [(aE l ((nx l p 2).2)),(bf 0 6 ((sn ins (dt 10 c 0 0 (nx l p 2).1 (-1))).1) 4 aa.1 fuel (↑param:Int)),.dead,.dead,(.arr 73 3 aa.1 (fun i=>dS (aa.2 i))),.dead,(.arr 40 14 ((sn ins (dt 10 c 0 0 (nx l p 2).1 (-1))).1) (fun i=>cy ((sn ins (dt 10 c 0 0 (nx l p 2).1 (-1))).2 i)))]))):dq (mW l sn sx) 22 fV L QE 24 (CG sn sx l p ins aa fuel param c):=Eq.mp (by kernel_rfl) h
noncomputable def AZ (sn:Sq aj→aj→Sq aj) (sx:Sq ai→ai→Sq ai) (l:Sq Int) (p:Nat) (ins:Sq aj) (aa:Sq ai) (fuel:Int) (param:Nat)  : VS:=(sM l p ins aa fuel param)
theorem Sf (L:LP) (QE:D→List ah→Prop) (sn:Sq aj→aj→Sq aj) (sx:Sq ai→ai→Sq ai) (l:Sq Int) (p:Nat) (ins:Sq aj) (aa:Sq ai) (fuel:Int) (param:Nat)  (h:(LC 34 dO (nc l p ins aa fuel param) (int ((iO l p ins param).1)) (JF l p ins fuel param sn aa sx)∧L (ag 22 27) ⟨[eC,dW,(9,((int ((iO l p ins param).1)),[]))],(JF l p ins fuel param sn aa sx),[]⟩)):dq (mW l sn sx) 22 fV L QE 26 (AZ sn sx l p ins aa fuel param ):=Eq.mp (by kernel_rfl) h
noncomputable def BU (sn:Sq aj→aj→Sq aj) (sx:Sq ai→ai→Sq ai) (l:Sq Int) (p:Nat) (ins:Sq aj) (aa:Sq ai) (fuel:Int) (param:Nat) (c:Int):VS:=⟨[kI,ki,(9,int c,[])],(tS l p ins aa fuel param),[]⟩
theorem SO (L:LP) (QE:D→List ah→Prop) (sn:Sq aj→aj→Sq aj) (sx:Sq ai→ai→Sq ai) (l:Sq Int) (p:Nat) (ins:Sq aj) (aa:Sq ai) (fuel:Int) (param:Nat) (c:Int) (h:(WC 23 dO (tz l p ins aa fuel param) (int ((vl l p ins).1)) 0 (aE l ((vl l p ins).2))∧(WC 19 kf [(aE l ((vl l p ins).2)),(jj ins aa fuel param),.dead,.dead,(bU aa),(bD ins)] (int ((nx l (vl l p ins).2 2).1)) 0 (aE l ((nx l (vl l p ins).2 2).2))∧(LC 20 [(.c (.rt 1 0 0)),(.a (iC 11 c (vl l p ins).1 0 (nx l (vl l p ins).2 2).1 (-1)))] [(vU l p ins),(jj ins aa fuel param),.dead,.dead,(bU aa),(bD ins)] (ep ins) [(vU l p ins),(bf 0 6 ((sn ins (dt 11 c (vl l p ins).1 0 (nx l (vl l p ins).2 2).1 (-1))).1) 4 aa.1 fuel (↑param:Int)),.dead,.dead,(bU aa),.dead,(.arr 40 14 ((sn ins (dt 11 c (vl l p ins).1 0 (nx l (vl l p ins).2 2).1 (-1))).1) (fun i=>cy ((sn ins (dt 11 c (vl l p ins).1 0 (nx l (vl l p ins).2 2).1 (-1))).2 i)))]∧QE (.t []) [(aE l ((nx l (vl l p ins).2 2).2)),(bf 0 6 ((sn ins (dt 11 c (vl l p ins).1 0 (nx l (vl l p ins).2 2).1 (-1))).1) 4 aa.1 fuel (↑param:Int)),.dead,.dead,(.arr 73 3 aa.1 (fun i=>dS (aa.2 i))),.dead,(.arr 40 14 ((sn ins (dt 11 c (vl l p ins).1 0 (nx l (vl l p ins).2 2).1 (-1))).1) (fun i=>cy ((sn ins (dt 11 c (vl l p ins).1 0 (nx l (vl l p ins).2 2).1 (-1))).2 i)))])))):dq (mW l sn sx) 22 fV L QE 27 (BU sn sx l p ins aa fuel param c):=Eq.mp (by kernel_rfl) h
noncomputable def vu (sn:Sq aj→aj→Sq aj) (sx:Sq ai→ai→Sq ai) (l:Sq Int) (p:Nat) (ins:Sq aj) (aa:Sq ai) (fuel:Int) (param:Nat)  : VS:=(sM l p ins aa fuel param)
noncomputable abbrev P5 (ax:Sq Int) (aF:Nat) (aR:Sq aj) (bZ:Int) (ct:Nat) (dX:Sq aj→aj→Sq aj) (eR:Sq ai) (tR:Sq ai→ai→Sq ai):List ah:=[(aE ax ((lv ax aF aR bZ ct).2)),(bf 0 6 ((dX aR (dt 15 0 0 0 32 (Int.ofNat eR.1))).1) 5 ((tR eR (lv ax aF aR bZ ct).1).1) bZ (↑ct:Int)),.dead,.dead,(.box (iC 15 0 0 0 32 (Int.ofNat eR.1))),(zc tR eR ax aF aR bZ ct),(.arr 40 14 ((dX aR (dt 15 0 0 0 32 (Int.ofNat eR.1))).1) (fun i=>cy ((dX aR (dt 15 0 0 0 32 (Int.ofNat eR.1))).2 i)))]
theorem QR (L:LP) (QE:D→List ah→Prop) (sn:Sq aj→aj→Sq aj) (sx:Sq ai→ai→Sq ai) (l:Sq Int) (p:Nat) (ins:Sq aj) (aa:Sq ai) (fuel:Int) (param:Nat)  (h:(LC 21 dO [(aE l p),(da ins aa fuel param),(bD ins),(bU aa),(.box (iC 15 0 0 0 32 0))] (iY aa) [(aE l ((lv l p ins fuel param).2)),(bf 0 2 ins.1 5 ((sx aa (lv l p ins fuel param).1).1) fuel (↑param:Int)),(bD ins),.dead,(.box (iC 15 0 0 0 32 0)),(zc sx aa l p ins fuel param)]∧(LC 20 [(.c (.rt 1 0 0)),(.a (iC 15 0 0 0 32 (Int.ofNat aa.1)))] [(aE l ((lv l p ins fuel param).2)),(bf 0 2 ins.1 5 ((sx aa (lv l p ins fuel param).1).1) fuel (↑param:Int)),(bD ins),.dead,(.box (iC 15 0 0 0 32 (Int.ofNat aa.1))),(zc sx aa l p ins fuel param)] (ep ins) (P5 l p ins fuel param sn aa sx)∧L (ag 22 33) ⟨[eC,dW],(P5 l p ins fuel param sn aa sx),[]⟩))):dq (mW l sn sx) 22 fV L QE 30 (vu sn sx l p ins aa fuel param ):=Eq.mp (by kernel_rfl) h
noncomputable def BR (sn:Sq aj→aj→Sq aj) (sx:Sq ai→ai→Sq ai) (l:Sq Int) (p:Nat) (ins:Sq aj) (aa:Sq ai) (fuel:Int) (param:Nat)  : VS:=⟨[kI,ki],(tS l p ins aa fuel param),[]⟩
noncomputable abbrev TX (ax:Sq Int) (aF:Nat) (aR:Sq aj→aj→Sq aj) (bZ:Sq aj) (ct:Sq ai) (dX:Int) (eR:Nat):List ah:=[(aE ax aF),(bf 0 6 ((aR bZ { op:=Int.ofNat 16,a:=Int.ofNat 0,b:=Int.ofNat 0,c:=Int.ofNat 0,n:=Int.ofNat 0,args:={ n:=0,get:=fun x=>Int.ofNat 0 },k:={ kind:=Int.ofNat 0,n:=Int.ofNat 0,s:={ data:={ toList:=[] } } },names:={ n:=2,get:=fun i=>rS (eD (yt.get i)) },place:={ fn:=Int.ofNat 0,line:=Int.ofNat 0 },exit:=Int.negSucc 0,once:=false }).1) 4 ct.1 dX (↑eR:Int)),.dead,.dead,(bU ct),.dead,(.arr 40 14 ((aR bZ { op:=Int.ofNat 16,a:=Int.ofNat 0,b:=Int.ofNat 0,c:=Int.ofNat 0,n:=Int.ofNat 0,args:={ n:=0,get:=fun x=>Int.ofNat 0 },k:={ kind:=Int.ofNat 0,n:=Int.ofNat 0,s:={ data:={ toList:=[] } } },names:={ n:=2,get:=fun i=>rS (eD (yt.get i)) },place:={ fn:=Int.ofNat 0,line:=Int.ofNat 0 },exit:=Int.negSucc 0,once:=false }).1) (fun i=>cy ((aR bZ { op:=Int.ofNat 16,a:=Int.ofNat 0,b:=Int.ofNat 0,c:=Int.ofNat 0,n:=Int.ofNat 0,args:={ n:=0,get:=fun x=>Int.ofNat 0 },k:={ kind:=Int.ofNat 0,n:=Int.ofNat 0,s:={ data:={ toList:=[] } } },names:={ n:=2,get:=fun i=>rS (eD (yt.get i)) },place:={ fn:=Int.ofNat 0,line:=Int.ofNat 0 },exit:=Int.negSucc 0,once:=false }).2 i)))]
theorem TD (L:LP) (QE:D→List ah→Prop) (sn:Sq aj→aj→Sq aj) (sx:Sq ai→ai→Sq ai) (l:Sq Int) (p:Nat) (ins:Sq aj) (aa:Sq ai) (fuel:Int) (param:Nat)  (h:(LC 26 [] [] (.c sy) []∧(LC 20 [(.c (.rt 1 0 0)),(.a [(ci 16),(ci 0),(ci 0),(ci 0),(ci 0),b6,(ci 0),(ci 0),dk,sy,(ci 0),(ci 0),(ci (-1)),fK])] (tz l p ins aa fuel param) (ep ins) (TX l p sn ins aa fuel param)∧L (ag 22 34) ⟨[eC,dW,(11,((ep ins),[]))],(TX l p sn ins aa fuel param),[]⟩))):dq (mW l sn sx) 22 fV L QE 33 (BR sn sx l p ins aa fuel param ):=Eq.mp (by kernel_rfl) h
noncomputable def Ar (sn:Sq aj→aj→Sq aj) (sx:Sq ai→ai→Sq ai) (l:Sq Int) (p:Nat) (ins:Sq aj) (aa:Sq ai) (fuel:Int) (param:Nat) (c:Int):VS:=⟨[kI,ki,(11,int c,[])],(tS l p ins aa fuel param),[]⟩
noncomputable abbrev ND (ax:Sq Int) (aF aR:Nat) (bZ:Sq aj→aj→Sq aj) (ct:Sq aj) (dX:Int) (eR:Sq ai) (tR:Int):List ah:=[(aE ax ((nx ax (nx ax aF (↑aR:Int)).2 2).2)),(bf 0 6 ((bZ ct (dt 11 dX (nx ax aF (↑aR:Int)).1 0 (nx ax (nx ax aF (↑aR:Int)).2 2).1 (-1))).1) 4 eR.1 tR (↑aR:Int)),.dead,.dead,(bU eR),.dead,(.arr 40 14 ((bZ ct (dt 11 dX (nx ax aF (↑aR:Int)).1 0 (nx ax (nx ax aF (↑aR:Int)).2 2).1 (-1))).1) (fun i=>cy ((bZ ct (dt 11 dX (nx ax aF (↑aR:Int)).1 0 (nx ax (nx ax aF (↑aR:Int)).2 2).1 (-1))).2 i)))]
theorem SU (L:LP) (QE:D→List ah→Prop) (sn:Sq aj→aj→Sq aj) (sx:Sq ai→ai→Sq ai) (l:Sq Int) (p:Nat) (ins:Sq aj) (aa:Sq ai) (fuel:Int) (param:Nat) (c:Int) (h:(WC 19 [(.c (.rt 0 0 0)),(oA param)] (tz l p ins aa fuel param) (int ((nx l p (↑param:Int)).1)) 0 (aE l ((nx l p (↑param:Int)).2))∧(WC 19 kf [(aE l ((nx l p (↑param:Int)).2)),(jj ins aa fuel param),.dead,.dead,(bU aa),(bD ins)] (int ((nx l (nx l p (↑param:Int)).2 2).1)) 0 (aE l ((nx l (nx l p (↑param:Int)).2 2).2))∧(LC 20 [(.c (.rt 1 0 0)),(.a (iC 11 c (nx l p (↑param:Int)).1 0 (nx l (nx l p (↑param:Int)).2 2).1 (-1)))] [(aE l ((nx l (nx l p (↑param:Int)).2 2).2)),(jj ins aa fuel param),.dead,.dead,(bU aa),(bD ins)] (ep ins) (ND l p param sn ins c aa fuel)∧L (ag 22 35) ⟨[eC,dW,(11,((int c),[]))],(ND l p param sn ins c aa fuel),[]⟩)))):dq (mW l sn sx) 22 fV L QE 34 (Ar sn sx l p ins aa fuel param c):=Eq.mp (by kernel_rfl) h
noncomputable def Be (sn:Sq aj→aj→Sq aj) (sx:Sq ai→ai→Sq ai) (l:Sq Int) (p:Nat) (ins:Sq aj) (aa:Sq ai) (fuel:Int) (param:Nat) (c:Int):VS:=⟨[kI,ki,(11,int c,[])],(tS l p ins aa fuel param),[]⟩
theorem Tm (L:LP) (QE:D→List ah→Prop) (sn:Sq aj→aj→Sq aj) (sx:Sq ai→ai→Sq ai) (l:Sq Int) (p:Nat) (ins:Sq aj) (aa:Sq ai) (fuel:Int) (param:Nat) (c:Int) (h:(WC 19 kf (tz l p ins aa fuel param) (lX l p) 0 (aE l ((nx l p 2).2))∧(LC 20 [(.c (.rt 1 0 0)),(.a (iC 10 c 0 0 (nx l p 2).1 (-1)))] [(gQ l p),(jj ins aa fuel param),.dead,.dead,(bU aa),(bD ins)] (ep ins) (Py l p sn ins c aa fuel param)∧QE (.t []) [(aE l ((nx l p 2).2)),(bf 0 6 ((sn ins (dt 10 c 0 0 (nx l p 2).1 (-1))).1) 4 aa.1 fuel (↑param:Int)),.dead,.dead,(.arr 73 3 aa.1 (fun i=>dS (aa.2 i))),.dead,(.arr 40 14 ((sn ins (dt 10 c 0 0 (nx l p 2).1 (-1))).1) (fun i=>cy ((sn ins (dt 10 c 0 0 (nx l p 2).1 (-1))).2 i)))]))):dq (mW l sn sx) 22 fV L QE 35 (Be sn sx l p ins aa fuel param c):=Eq.mp (by kernel_rfl) h
noncomputable def Bn (sn:Sq aj→aj→Sq aj) (sx:Sq ai→ai→Sq ai) (l:Sq Int) (p:Nat) (ins:Sq aj) (aa:Sq ai) (fuel:Int) (param:Nat)  : VS:=(sM l p ins aa fuel param)
noncomputable abbrev Gd (ax:Sq ai→ai→Sq ai) (aF:Sq ai) (aR:Sq Int) (bZ:Nat) (ct:Sq aj) (dX:Int) (eR:Nat):ah:=.arr 73 3 ((ax aF (lv aR (vl aR (vl aR bZ ct).2 ct).2 ct dX eR).1).1) (fun i=>dS ((ax aF (lv aR (vl aR (vl aR bZ ct).2 ct).2 ct dX eR).1).2 i))
noncomputable abbrev F0 (ax:Sq Int) (aF:Nat) (aR:Sq aj) (bZ:Sq ai):List C:=iC 9 (vl ax aF aR).1 (vl ax (vl ax aF aR).2 aR).1 0 0 (Int.ofNat bZ.1)
noncomputable abbrev UG (ax:Sq Int) (aF:Nat) (aR:Sq aj) (bZ:Int) (ct:Nat) (dX:Sq aj→aj→Sq aj) (eR:Sq ai) (tR:Sq ai→ai→Sq ai):List ah:=[(aE ax ((lv ax (vl ax (vl ax aF aR).2 aR).2 aR bZ ct).2)),(bf 0 6 ((dX aR (dt 9 (vl ax aF aR).1 (vl ax (vl ax aF aR).2 aR).1 0 0 (Int.ofNat eR.1))).1) 5 ((tR eR (lv ax (vl ax (vl ax aF aR).2 aR).2 aR bZ ct).1).1) bZ (↑ct:Int)),.dead,.dead,(.box (F0 ax aF aR eR)),(Gd tR eR ax aF aR bZ ct),(.arr 40 14 ((dX aR (dt 9 (vl ax aF aR).1 (vl ax (vl ax aF aR).2 aR).1 0 0 (Int.ofNat eR.1))).1) (fun i=>cy ((dX aR (dt 9 (vl ax aF aR).1 (vl ax (vl ax aF aR).2 aR).1 0 0 (Int.ofNat eR.1))).2 i)))]
theorem Sw (L:LP) (QE:D→List ah→Prop) (sn:Sq aj→aj→Sq aj) (sx:Sq ai→ai→Sq ai) (l:Sq Int) (p:Nat) (ins:Sq aj) (aa:Sq ai) (fuel:Int) (param:Nat)  (h:(WC 23 dO (nc l p ins aa fuel param) (int ((vl l p ins).1)) 0 (aE l ((vl l p ins).2))∧(WC 23 dO [(aE l ((vl l p ins).2)),(da ins aa fuel param),(bD ins),(bU aa)] (int ((vl l (vl l p ins).2 ins).1)) 0 (aE l ((vl l (vl l p ins).2 ins).2))∧(LC 21 dO [(aE l ((vl l (vl l p ins).2 ins).2)),(da ins aa fuel param),(bD ins),(bU aa),(.box (iC 9 (vl l p ins).1 (vl l (vl l p ins).2 ins).1 0 0 0))] (iY aa) [(aE l ((lv l (vl l (vl l p ins).2 ins).2 ins fuel param).2)),(bf 0 2 ins.1 5 ((sx aa (lv l (vl l (vl l p ins).2 ins).2 ins fuel param).1).1) fuel (↑param:Int)),(bD ins),.dead,(.box (iC 9 (vl l p ins).1 (vl l (vl l p ins).2 ins).1 0 0 0)),(Gd sx aa l p ins fuel param)]∧(LC 20 [(.c (.rt 1 0 0)),(.a (F0 l p ins aa))] [(aE l ((lv l (vl l (vl l p ins).2 ins).2 ins fuel param).2)),(bf 0 2 ins.1 5 ((sx aa (lv l (vl l (vl l p ins).2 ins).2 ins fuel param).1).1) fuel (↑param:Int)),(bD ins),.dead,(.box (F0 l p ins aa)),(Gd sx aa l p ins fuel param)] (ep ins) (UG l p ins fuel param sn aa sx)∧L (ag 22 40) ⟨[eC,dW,(12,((.c (.rt 4 0 0)),[]))],(UG l p ins fuel param sn aa sx),[]⟩))))):dq (mW l sn sx) 22 fV L QE 37 (Bn sn sx l p ins aa fuel param ):=Eq.mp (by kernel_rfl) h
noncomputable def BV (sn:Sq aj→aj→Sq aj) (sx:Sq ai→ai→Sq ai) (l:Sq Int) (p:Nat) (ins:Sq aj) (aa:Sq ai) (fuel:Int) (param:Nat) (x:aj):VS:=⟨[kI,ki,(12,.c (.rt 6 0 0),[])],[aE l p,bf 0 5 ins.n 4 aa.n fuel param,.dead,.dead,l6 aa,dJ ins,.box (lift (aT x))],[]⟩
noncomputable abbrev LY (ax:Sq Int) (aF:Nat) (aR:Sq aj) (bZ:Sq aj→aj→Sq aj) (ct:aj) (dX:Sq ai) (eR:Int) (tR:Nat):List ah:=[(oq ax aF aR),(bf 0 9 ((bZ aR (dt 13 ct.2 ct.3 (vl ax (nx ax aF 2).2 aR).1 0 (-1))).1) 4 dX.1 eR (↑tR:Int)),.dead,.dead,(bU dX),.dead,(b4 ct),.dead,.dead,(.arr 40 14 ((bZ aR (dt 13 ct.2 ct.3 (vl ax (nx ax aF 2).2 aR).1 0 (-1))).1) (fun i=>cy ((bZ aR (dt 13 ct.2 ct.3 (vl ax (nx ax aF 2).2 aR).1 0 (-1))).2 i)))]
theorem Q9 (L:LP) (QE:D→List ah→Prop) (sn:Sq aj→aj→Sq aj) (sx:Sq ai→ai→Sq ai) (l:Sq Int) (p:Nat) (ins:Sq aj) (aa:Sq ai) (fuel:Int) (param:Nat) (x:aj) (h:(WC 19 kf [(aE l p),(jj ins aa fuel param),.dead,.dead,(bU aa),(bD ins),(b4 x)] (lX l p) 0 (aE l ((nx l p 2).2))∧br ((nx l p 2).1==0) ((LC 20 [(.c (.rt 1 0 0)),(.a (iC 12 x.2 x.3 0 0 (-1)))] [(gQ l p),(jj ins aa fuel param),.dead,.dead,(bU aa),(bD ins),(b4 x)] (ep ins) [(gQ l p),(bf 0 7 ((sn ins (dt 12 x.2 x.3 0 0 (-1))).1) 4 aa.1 fuel (↑param:Int)),.dead,.dead,(bU aa),.dead,(b4 x),(.arr 40 14 ((sn ins (dt 12 x.2 x.3 0 0 (-1))).1) (fun i=>cy ((sn ins (dt 12 x.2 x.3 0 0 (-1))).2 i)))]∧QE (.t []) [(aE l ((nx l p 2).2)),(bf 0 7 ((sn ins (dt 12 x.2 x.3 0 0 (-1))).1) 4 aa.1 fuel (↑param:Int)),.dead,.dead,(.arr 73 3 aa.1 (fun i=>dS (aa.2 i))),.dead,(.box (lift (aT (x)))),(.arr 40 14 ((sn ins (dt 12 x.2 x.3 0 0 (-1))).1) (fun i=>cy ((sn ins (dt 12 x.2 x.3 0 0 (-1))).2 i)))])) ((WC 23 dO [(gQ l p),(jj ins aa fuel param),.dead,.dead,(bU aa),(bD ins),(b4 x),.dead,.dead] (lg l p ins) 0 (aE l ((vl l (nx l p 2).2 ins).2))∧(LC 20 [(.c (.rt 1 0 0)),(.a (iC 13 x.2 x.3 (vl l (nx l p 2).2 ins).1 0 (-1)))] [(oq l p ins),(jj ins aa fuel param),.dead,.dead,(bU aa),(bD ins),(b4 x),.dead,.dead] (ep ins) (LY l p ins sn x aa fuel param)∧(WC 23 dO [(gQ l p),(jj ins aa fuel param),.dead,.dead,(bU aa),(bD ins),(b4 x),.dead,.dead] (lg l p ins) 0 (aE l ((vl l (nx l p 2).2 ins).2))∧(LC 20 [(.c (.rt 1 0 0)),(.a (iC 13 x.2 x.3 (vl l (nx l p 2).2 ins).1 0 (-1)))] [(oq l p ins),(jj ins aa fuel param),.dead,.dead,(bU aa),(bD ins),(b4 x),.dead,.dead] (ep ins) (LY l p ins sn x aa fuel param)∧QE (.t []) [(aE l ((vl l (nx l p 2).2 ins).2)),(bf 0 9 ((sn ins (dt 13 x.2 x.3 (vl l (nx l p 2).2 ins).1 0 (-1))).1) 4 aa.1 fuel (↑param:Int)),.dead,.dead,(.arr 73 3 aa.1 (fun i=>dS (aa.2 i))),.dead,(.box (lift (aT (x)))),.dead,.dead,(.arr 40 14 ((sn ins (dt 13 x.2 x.3 (vl l (nx l p 2).2 ins).1 0 (-1))).1) (fun i=>cy ((sn ins (dt 13 x.2 x.3 (vl l (nx l p 2).2 ins).1 0 (-1))).2 i)))]))))))):dq (mW l sn sx) 22 fV L QE 40 (BV sn sx l p ins aa fuel param x):=Eq.mp (by kernel_rfl) h
noncomputable def Bq (sn:Sq aj→aj→Sq aj) (sx:Sq ai→ai→Sq ai) (l:Sq Int) (p:Nat) (ins:Sq aj) (aa:Sq ai) (fuel:Int) (param:Nat)  : VS:=(sM l p ins aa fuel param)
noncomputable abbrev HE (ax:Sq ai→ai→Sq ai) (aF:Sq ai) (aR:Sq Int) (bZ:Nat) (ct:Sq aj) (dX:Int) (eR:Nat):ah:=.arr 73 3 ((ax aF (lv aR (vl aR bZ ct).2 ct dX eR).1).1) (fun i=>dS ((ax aF (lv aR (vl aR bZ ct).2 ct dX eR).1).2 i))
noncomputable abbrev Uz (ax:Sq Int) (aF:Nat) (aR:Sq aj) (bZ:Int) (ct:Nat) (dX:Sq aj→aj→Sq aj) (eR:Sq ai) (tR:Sq ai→ai→Sq ai):List ah:=[(aE ax ((lv ax (vl ax aF aR).2 aR bZ ct).2)),(bf 0 6 ((dX aR (dt 8 (vl ax aF aR).1 0 0 0 (Int.ofNat eR.1))).1) 5 ((tR eR (lv ax (vl ax aF aR).2 aR bZ ct).1).1) bZ (↑ct:Int)),.dead,.dead,(.box (iC 8 (vl ax aF aR).1 0 0 0 (Int.ofNat eR.1))),(HE tR eR ax aF aR bZ ct),(.arr 40 14 ((dX aR (dt 8 (vl ax aF aR).1 0 0 0 (Int.ofNat eR.1))).1) (fun i=>cy ((dX aR (dt 8 (vl ax aF aR).1 0 0 0 (Int.ofNat eR.1))).2 i)))]
theorem RG (L:LP) (QE:D→List ah→Prop) (sn:Sq aj→aj→Sq aj) (sx:Sq ai→ai→Sq ai) (l:Sq Int) (p:Nat) (ins:Sq aj) (aa:Sq ai) (fuel:Int) (param:Nat)  (h:(WC 23 dO (nc l p ins aa fuel param) (int ((vl l p ins).1)) 0 (aE l ((vl l p ins).2))∧(LC 21 dO [(aE l ((vl l p ins).2)),(da ins aa fuel param),(bD ins),(bU aa),(.box (iC 8 (vl l p ins).1 0 0 0 0))] (iY aa) [(aE l ((lv l (vl l p ins).2 ins fuel param).2)),(bf 0 2 ins.1 5 ((sx aa (lv l (vl l p ins).2 ins fuel param).1).1) fuel (↑param:Int)),(bD ins),.dead,(.box (iC 8 (vl l p ins).1 0 0 0 0)),(HE sx aa l p ins fuel param)]∧(LC 20 [(.c (.rt 1 0 0)),(.a (iC 8 (vl l p ins).1 0 0 0 (Int.ofNat aa.1)))] [(aE l ((lv l (vl l p ins).2 ins fuel param).2)),(bf 0 2 ins.1 5 ((sx aa (lv l (vl l p ins).2 ins fuel param).1).1) fuel (↑param:Int)),(bD ins),.dead,(.box (iC 8 (vl l p ins).1 0 0 0 (Int.ofNat aa.1))),(HE sx aa l p ins fuel param)] (ep ins) (Uz l p ins fuel param sn aa sx)∧L (ag 22 47) ⟨[eC,(13,((.c (.rt 4 0 0)),[]))],(Uz l p ins fuel param sn aa sx),[]⟩)))):dq (mW l sn sx) 22 fV L QE 44 (Bq sn sx l p ins aa fuel param ):=Eq.mp (by kernel_rfl) h
noncomputable def Ck (sn:Sq aj→aj→Sq aj) (sx:Sq ai→ai→Sq ai) (l:Sq Int) (p:Nat) (ins:Sq aj) (aa:Sq ai) (fuel:Int) (param:Nat) (x:aj):VS:=⟨[kI,(13,.c (.rt 6 0 0),[])],[aE l p,bf 0 5 ins.n 4 aa.n fuel param,.dead,.dead,l6 aa,dJ ins,.box (lift (aT x))],[]⟩
theorem SH (L:LP) (QE:D→List ah→Prop) (sn:Sq aj→aj→Sq aj) (sx:Sq ai→ai→Sq ai) (l:Sq Int) (p:Nat) (ins:Sq aj) (aa:Sq ai) (fuel:Int) (param:Nat) (x:aj) (h:(LC 20 [(.c (.rt 1 0 0)),(.a (iC 14 x.2 0 0 0 (-1)))] [(aE l p),(jj ins aa fuel param),.dead,.dead,(bU aa),(bD ins),(b4 x)] (ep ins) [(aE l p),(bf 0 7 ((sn ins (dt 14 x.2 0 0 0 (-1))).1) 4 aa.1 fuel (↑param:Int)),.dead,.dead,(bU aa),.dead,(b4 x),(.arr 40 14 ((sn ins (dt 14 x.2 0 0 0 (-1))).1) (fun i=>cy ((sn ins (dt 14 x.2 0 0 0 (-1))).2 i)))]∧QE (.t []) [(aE l p),(bf 0 7 ((sn ins (dt 14 x.2 0 0 0 (-1))).1) 4 aa.1 fuel (↑param:Int)),.dead,.dead,(.arr 73 3 aa.1 (fun i=>dS (aa.2 i))),.dead,(.box (lift (aT (x)))),(.arr 40 14 ((sn ins (dt 14 x.2 0 0 0 (-1))).1) (fun i=>cy ((sn ins (dt 14 x.2 0 0 0 (-1))).2 i)))])):dq (mW l sn sx) 22 fV L QE 47 (Ck sn sx l p ins aa fuel param x):=Eq.mp (by kernel_rfl) h
noncomputable def Cz (sn:Sq aj→aj→Sq aj) (sx:Sq ai→ai→Sq ai) (l:Sq Int) (p:Nat) (ins:Sq aj) (aa:Sq ai) (fuel:Int) (param:Nat)  : VS:=(sM l p ins aa fuel param)
noncomputable abbrev Cn (ax:Sq ai→ai→Sq ai) (aF:Sq ai) (aR:Sq Int) (bZ:Nat) (ct:Sq aj) (dX:Int) (eR:Nat):ah:=.arr 73 3 ((ax aF (lv aR (nx aR (vl aR bZ ct).2 4).2 ct dX eR).1).1) (fun i=>dS ((ax aF (lv aR (nx aR (vl aR bZ ct).2 4).2 ct dX eR).1).2 i))
theorem QF (L:LP) (QE:D→List ah→Prop) (sn:Sq aj→aj→Sq aj) (sx:Sq ai→ai→Sq ai) (l:Sq Int) (p:Nat) (ins:Sq aj) (aa:Sq ai) (fuel:Int) (param:Nat)  (h:(WC 23 dO (nc l p ins aa fuel param) (int ((vl l p ins).1)) 0 (aE l ((vl l p ins).2))∧(WC 19 [(.c (.rt 0 0 0)),(int 4)] [(aE l ((vl l p ins).2)),(da ins aa fuel param),(bD ins),(bU aa)] (int ((nx l (vl l p ins).2 4).1)) 0 (aE l ((nx l (vl l p ins).2 4).2))∧(LC 21 dO [(aE l ((nx l (vl l p ins).2 4).2)),(da ins aa fuel param),(bD ins),(bU aa),(.box (iC 6 (vl l p ins).1 0 0 (cE (I.v (Value.int IntKind.i64 (IntKind.i64.wrap (1+(nx l (vl l p ins).2 4).1))))) 0))] (iY aa) [(aE l ((lv l (nx l (vl l p ins).2 4).2 ins fuel param).2)),(bf 0 2 ins.1 5 ((sx aa (lv l (nx l (vl l p ins).2 4).2 ins fuel param).1).1) fuel (↑param:Int)),(bD ins),.dead,(.box (iC 6 (vl l p ins).1 0 0 (cE (I.v (Value.int IntKind.i64 (IntKind.i64.wrap (1+(nx l (vl l p ins).2 4).1))))) 0)),(Cn sx aa l p ins fuel param)]∧(LC 20 [(.c (.rt 1 0 0)),(.a (iC 6 (vl l p ins).1 0 0 (cE (I.v (Value.int IntKind.i64 (IntKind.i64.wrap (1+(nx l (vl l p ins).2 4).1))))) (Int.ofNat aa.1)))] [(aE l ((lv l (nx l (vl l p ins).2 4).2 ins fuel param).2)),(bf 0 2 ins.1 5 ((sx aa (lv l (nx l (vl l p ins).2 4).2 ins fuel param).1).1) fuel (↑param:Int)),(bD ins),.dead,(.box (iC 6 (vl l p ins).1 0 0 (cE (I.v (Value.int IntKind.i64 (IntKind.i64.wrap (1+(nx l (vl l p ins).2 4).1))))) (Int.ofNat aa.1))),(Cn sx aa l p ins fuel param)] (ep ins) [(aE l ((lv l (nx l (vl l p ins).2 4).2 ins fuel param).2)),(bf 0 6 ((sn ins (dt 6 (vl l p ins).1 0 0 (cE (I.v (Value.int IntKind.i64 (IntKind.i64.wrap (1+(nx l (vl l p ins).2 4).1))))) (Int.ofNat aa.1))).1) 5 ((sx aa (lv l (nx l (vl l p ins).2 4).2 ins fuel param).1).1) fuel (↑param:Int)),.dead,.dead,(.box (iC 6 (vl l p ins).1 0 0 (cE (I.v (Value.int IntKind.i64 (IntKind.i64.wrap (1+(nx l (vl l p ins).2 4).1))))) (Int.ofNat aa.1))),(Cn sx aa l p ins fuel param),(.arr 40 14 ((sn ins (dt 6 (vl l p ins).1 0 0 (cE (I.v (Value.int IntKind.i64 (IntKind.i64.wrap (1+(nx l (vl l p ins).2 4).1))))) (Int.ofNat aa.1))).1) (fun i=>cy ((sn ins (dt 6 (vl l p ins).1 0 0 (cE (I.v (Value.int IntKind.i64 (IntKind.i64.wrap (1+(nx l (vl l p ins).2 4).1))))) (Int.ofNat aa.1))).2 i)))]∧L (ag 22 52) ⟨[eC,dW,(14,((.c (.rt 4 0 0)),[]))],[(aE l ((lv l (nx l (vl l p ins).2 4).2 ins fuel param).2)),(bf 0 6 ((sn ins (dt 6 (vl l p ins).1 0 0 (cE (I.v (Value.int IntKind.i64 (IntKind.i64.wrap (1+(nx l (vl l p ins).2 4).1))))) (Int.ofNat aa.1))).1) 5 ((sx aa (lv l (nx l (vl l p ins).2 4).2 ins fuel param).1).1) fuel (↑param:Int)),.dead,.dead,(.box (iC 6 (vl l p ins).1 0 0 (cE (I.v (Value.int IntKind.i64 (IntKind.i64.wrap (1+(nx l (vl l p ins).2 4).1))))) (Int.ofNat aa.1))),(Cn sx aa l p ins fuel param),(.arr 40 14 ((sn ins (dt 6 (vl l p ins).1 0 0 (cE (I.v (Value.int IntKind.i64 (IntKind.i64.wrap (1+(nx l (vl l p ins).2 4).1))))) (Int.ofNat aa.1))).1) (fun i=>cy ((sn ins (dt 6 (vl l p ins).1 0 0 (cE (I.v (Value.int IntKind.i64 (IntKind.i64.wrap (1+(nx l (vl l p ins).2 4).1))))) (Int.ofNat aa.1))).2 i)))],[]⟩))))):dq (mW l sn sx) 22 fV L QE 49 (Cz sn sx l p ins aa fuel param ):=Eq.mp (by kernel_rfl) h
noncomputable def CF (sn:Sq aj→aj→Sq aj) (sx:Sq ai→ai→Sq ai) (l:Sq Int) (p:Nat) (ins:Sq aj) (aa:Sq ai) (fuel:Int) (param:Nat) (x:aj):VS:=⟨[kI,ki,(14,.c (.rt 6 0 0),[])],[aE l p,bf 0 5 ins.n 4 aa.n fuel param,.dead,.dead,l6 aa,dJ ins,.box (lift (aT x))],[]⟩
noncomputable abbrev Mg (ax:aj) (aF:Sq Int) (aR:Nat):List D:=[(.c (.rt 1 0 0)),(.a [(ci 19),(ci ax.2),(ci 0),(ci 0),(ci 0),b6,(ci 0),(ci 0),dk,b6,(ci 0),(ci ((nx aF aR 3).1)),(ci (-1)),fK])]
theorem QW (L:LP) (QE:D→List ah→Prop) (sn:Sq aj→aj→Sq aj) (sx:Sq ai→ai→Sq ai) (l:Sq Int) (p:Nat) (ins:Sq aj) (aa:Sq ai) (fuel:Int) (param:Nat) (x:aj) (h:(WC 19 [(.c (.rt 0 0 0)),(int 3)] [(aE l p),(jj ins aa fuel param),.dead,.dead,(bU aa),(bD ins),(b4 x),.dead,.dead] (int ((nx l p 3).1)) 0 (aE l ((nx l p 3).2))∧(LC 20 (Mg x l p) [(aE l ((nx l p 3).2)),(jj ins aa fuel param),.dead,.dead,(bU aa),(bD ins),(b4 x),.dead,.dead] (ep ins) [(aE l ((nx l p 3).2)),(bf 0 9 ((sn ins { op:=Int.ofNat 19,a:=x.2,b:=Int.ofNat 0,c:=Int.ofNat 0,n:=Int.ofNat 0,args:={ n:=0,get:=fun x=>Int.ofNat 0 },k:={ kind:=Int.ofNat 0,n:=Int.ofNat 0,s:={ data:={ toList:=[] } } },names:={ n:=0,get:=fun x=>{ data:={ toList:=[] } } },place:={ fn:=Int.ofNat 0,line:=(nx l p 3).1 },exit:=Int.negSucc 0,once:=false }).1) 4 aa.1 fuel (↑param:Int)),.dead,.dead,(bU aa),.dead,(b4 x),.dead,.dead,(.arr 40 14 ((sn ins { op:=Int.ofNat 19,a:=x.2,b:=Int.ofNat 0,c:=Int.ofNat 0,n:=Int.ofNat 0,args:={ n:=0,get:=fun x=>Int.ofNat 0 },k:={ kind:=Int.ofNat 0,n:=Int.ofNat 0,s:={ data:={ toList:=[] } } },names:={ n:=0,get:=fun x=>{ data:={ toList:=[] } } },place:={ fn:=Int.ofNat 0,line:=(nx l p 3).1 },exit:=Int.negSucc 0,once:=false }).1) (fun i=>cy ((sn ins { op:=Int.ofNat 19,a:=x.2,b:=Int.ofNat 0,c:=Int.ofNat 0,n:=Int.ofNat 0,args:={ n:=0,get:=fun x=>Int.ofNat 0 },k:={ kind:=Int.ofNat 0,n:=Int.ofNat 0,s:={ data:={ toList:=[] } } },names:={ n:=0,get:=fun x=>{ data:={ toList:=[] } } },place:={ fn:=Int.ofNat 0,line:=(nx l p 3).1 },exit:=Int.negSucc 0,once:=false }).2 i)))]∧(WC 19 [(.c (.rt 0 0 0)),(int 3)] [(aE l p),(jj ins aa fuel param),.dead,.dead,(bU aa),(bD ins),(b4 x),.dead,.dead] (int ((nx l p 3).1)) 0 (aE l ((nx l p 3).2))∧(LC 20 (Mg x l p) [(aE l ((nx l p 3).2)),(jj ins aa fuel param),.dead,.dead,(bU aa),(bD ins),(b4 x),.dead,.dead] (ep ins) [(aE l ((nx l p 3).2)),(bf 0 9 ((sn ins { op:=Int.ofNat 19,a:=x.2,b:=Int.ofNat 0,c:=Int.ofNat 0,n:=Int.ofNat 0,args:={ n:=0,get:=fun x=>Int.ofNat 0 },k:={ kind:=Int.ofNat 0,n:=Int.ofNat 0,s:={ data:={ toList:=[] } } },names:={ n:=0,get:=fun x=>{ data:={ toList:=[] } } },place:={ fn:=Int.ofNat 0,line:=(nx l p 3).1 },exit:=Int.negSucc 0,once:=false }).1) 4 aa.1 fuel (↑param:Int)),.dead,.dead,(bU aa),.dead,(b4 x),.dead,.dead,(.arr 40 14 ((sn ins { op:=Int.ofNat 19,a:=x.2,b:=Int.ofNat 0,c:=Int.ofNat 0,n:=Int.ofNat 0,args:={ n:=0,get:=fun x=>Int.ofNat 0 },k:={ kind:=Int.ofNat 0,n:=Int.ofNat 0,s:={ data:={ toList:=[] } } },names:={ n:=0,get:=fun x=>{ data:={ toList:=[] } } },place:={ fn:=Int.ofNat 0,line:=(nx l p 3).1 },exit:=Int.negSucc 0,once:=false }).1) (fun i=>cy ((sn ins { op:=Int.ofNat 19,a:=x.2,b:=Int.ofNat 0,c:=Int.ofNat 0,n:=Int.ofNat 0,args:={ n:=0,get:=fun x=>Int.ofNat 0 },k:={ kind:=Int.ofNat 0,n:=Int.ofNat 0,s:={ data:={ toList:=[] } } },names:={ n:=0,get:=fun x=>{ data:={ toList:=[] } } },place:={ fn:=Int.ofNat 0,line:=(nx l p 3).1 },exit:=Int.negSucc 0,once:=false }).2 i)))]∧QE (.t []) [(aE l ((nx l p 3).2)),(bf 0 9 ((sn ins { op:=Int.ofNat 19,a:=x.2,b:=Int.ofNat 0,c:=Int.ofNat 0,n:=Int.ofNat 0,args:={ n:=0,get:=fun x=>Int.ofNat 0 },k:={ kind:=Int.ofNat 0,n:=Int.ofNat 0,s:={ data:={ toList:=[] } } },names:={ n:=0,get:=fun x=>{ data:={ toList:=[] } } },place:={ fn:=Int.ofNat 0,line:=(nx l p 3).1 },exit:=Int.negSucc 0,once:=false }).1) 4 aa.1 fuel (↑param:Int)),.dead,.dead,(.arr 73 3 aa.1 (fun i=>dS (aa.2 i))),.dead,(.box (lift (aT (x)))),.dead,.dead,(.arr 40 14 ((sn ins { op:=Int.ofNat 19,a:=x.2,b:=Int.ofNat 0,c:=Int.ofNat 0,n:=Int.ofNat 0,args:={ n:=0,get:=fun x=>Int.ofNat 0 },k:={ kind:=Int.ofNat 0,n:=Int.ofNat 0,s:={ data:={ toList:=[] } } },names:={ n:=0,get:=fun x=>{ data:={ toList:=[] } } },place:={ fn:=Int.ofNat 0,line:=(nx l p 3).1 },exit:=Int.negSucc 0,once:=false }).1) (fun i=>cy ((sn ins { op:=Int.ofNat 19,a:=x.2,b:=Int.ofNat 0,c:=Int.ofNat 0,n:=Int.ofNat 0,args:={ n:=0,get:=fun x=>Int.ofNat 0 },k:={ kind:=Int.ofNat 0,n:=Int.ofNat 0,s:={ data:={ toList:=[] } } },names:={ n:=0,get:=fun x=>{ data:={ toList:=[] } } },place:={ fn:=Int.ofNat 0,line:=(nx l p 3).1 },exit:=Int.negSucc 0,once:=false }).2 i)))]))))):dq (mW l sn sx) 22 fV L QE 52 (CF sn sx l p ins aa fuel param x):=Eq.mp (by kernel_rfl) h
theorem Rg (s0:eU) (l:Sq Int) (p:Nat) (ins:Sq aj) (aa:Sq ai) (fuel:Int) (param:Nat) (hl:l.n≤maxLen) (hI:ins.n≤930) (hE:aa.n≤930) (hF:0≤fuel∧fuel≤1000) (hP:param≤1000) (c:Int):af 22 4 (zC l s0 fuel param (k35 l c ⟨p,ins,aa⟩)) (ag 22 35) (Be cx cG l p ins aa fuel param c):=by
 refine bA (X:=mW l cx cG) (stop:=fV) (Tm _ _ cx cG l p ins aa fuel param c ?_)
 refine ⟨fa l _ _ hl rfl,?_⟩
 refine ⟨fD (m:=0) (q:=1) (i:=5) (j:=4) _ _ (by first|omega|(simp only [fo]; omega)) (by first|exact aX.refl _|exact jq (by repeat' (first|exact aB.nil|refine aB.cons ?_ ?_|exact ei.refl _|exact ei.nil _ _))) rfl (bg rfl) rfl rfl (bg rfl),?_⟩
 exact ⟨[0,1,2,3,4,6],.t [],_,_,rfl,(rc (rc (rc (rc (rc (rc .nil)))))),⟨6,bg rfl,bg rfl,rfl,rfl,aX.refl _,⟨.inr rfl,⟨.inr rfl,⟨.inr rfl,⟨.inr rfl,⟨rfl,⟨rfl,trivial⟩⟩⟩⟩⟩⟩⟩⟩
theorem Tu (s0:eU) (l:Sq Int) (p:Nat) (ins:Sq aj) (aa:Sq ai) (fuel:Int) (param:Nat) (hl:l.n≤maxLen) (hI:ins.n≤910) (hE:aa.n≤910) (hF:0≤fuel∧fuel≤1000) (hP:param≤1000) (c:Int):af 22 4 (zC l s0 fuel param (k35 l c ⟨p,ins,aa⟩)) (ag 22 24) (CG cx cG l p ins aa fuel param c):=by
 refine bA (X:=mW l cx cG) (stop:=fV) (Rf _ _ cx cG l p ins aa fuel param c ?_)
 refine ⟨fa l _ _ hl rfl,?_⟩
 refine ⟨fD (m:=0) (q:=1) (i:=5) (j:=4) _ _ (by first|omega|(simp only [fo]; omega)) (by first|exact aX.refl _|exact jq (by repeat' (first|exact aB.nil|refine aB.cons ?_ ?_|exact ei.refl _|exact ei.nil _ _))) rfl (bg rfl) rfl rfl (bg rfl),?_⟩
 exact ⟨[0,1,2,3,4,6],.t [],_,_,rfl,(rc (rc (rc (rc (rc (rc .nil)))))),⟨6,bg rfl,bg rfl,rfl,rfl,aX.refl _,⟨.inr rfl,⟨.inr rfl,⟨.inr rfl,⟨.inr rfl,⟨rfl,⟨rfl,trivial⟩⟩⟩⟩⟩⟩⟩⟩
theorem SB (s0:eU) (l:Sq Int) (p:Nat) (ins:Sq aj) (aa:Sq ai) (fuel:Int) (param:Nat) (hl:l.n≤maxLen) (hI:ins.n≤920) (hE:aa.n≤920) (hF:0≤fuel∧fuel≤1000) (hP:param≤1000) (c:Int):af 22 4 (zC l s0 fuel param (k34 l param c ⟨p,ins,aa⟩)) (ag 22 34) (Ar cx cG l p ins aa fuel param c):=by
 refine bA (X:=mW l cx cG) (stop:=fV) (SU _ _ cx cG l p ins aa fuel param c ?_)
 refine ⟨fa l _ _ hl rfl,?_⟩
 refine ⟨fa l _ _ hl rfl,?_⟩
 refine ⟨fD (m:=0) (q:=1) (i:=5) (j:=4) _ _ (by first|omega|(simp only [fo]; omega)) (by first|exact aX.refl _|exact jq (by repeat' (first|exact aB.nil|refine aB.cons ?_ ?_|exact ei.refl _|exact ei.nil _ _))) rfl (bg rfl) rfl rfl (bg rfl),?_⟩
 exact af.rename [0,1,2,3,4,6] rfl (af.le (Be cx cG l ((nx l (nx l p (↑param:Int)).2 2).2) ((cx ins (dt 11 c (nx l p (↑param:Int)).1 0 (nx l (nx l p (↑param:Int)).2 2).1 (-1)))) (aa) fuel param (c)) (by repeat' (first|exact trivial|refine bV rfl ?_)) (rc (rc (rc (rc (rc (rc .nil)))))) rfl (Rg s0 l ((nx l (nx l p (↑param:Int)).2 2).2) ((cx ins (dt 11 c (nx l p (↑param:Int)).1 0 (nx l (nx l p (↑param:Int)).2 2).1 (-1)))) (aa) fuel param hl (by first|omega|(simp only [fo]; omega)) (by first|omega|(simp only [fo]; omega)) hF hP (c)))
theorem Tk (s0:eU) (l:Sq Int) (p:Nat) (ins:Sq aj) (aa:Sq ai) (fuel:Int) (param:Nat) (hl:l.n≤maxLen) (hI:ins.n≤910) (hE:aa.n≤910) (hF:0≤fuel∧fuel≤1000) (hP:param≤1000)  : af 22 4 (zC l s0 fuel param (k33 l param ⟨p,ins,aa⟩)) (ag 22 33) (BR cx cG l p ins aa fuel param ):=by
 refine bA (X:=mW l cx cG) (stop:=fV) (TD _ _ cx cG l p ins aa fuel param  ?_)
 refine ⟨JI,?_⟩
 refine ⟨fD (m:=0) (q:=1) (i:=5) (j:=4) _ _ (by first|omega|(simp only [fo]; omega)) (by first|exact aX.refl _|exact jq (by repeat' (first|exact aB.nil|refine aB.cons ?_ ?_|exact ei.refl _|exact ei.nil _ _))) rfl (bg rfl) rfl rfl (bg rfl),?_⟩
 exact af.rename [0,1,2,3,4,6] rfl (af.le (Ar cx cG l (p) ((cx ins { op:=Int.ofNat 16,a:=Int.ofNat 0,b:=Int.ofNat 0,c:=Int.ofNat 0,n:=Int.ofNat 0,args:={ n:=0,get:=fun x=>Int.ofNat 0 },k:={ kind:=Int.ofNat 0,n:=Int.ofNat 0,s:={ data:={ toList:=[] } } },names:={ n:=2,get:=fun i=>rS (eD (yt.get i)) },place:={ fn:=Int.ofNat 0,line:=Int.ofNat 0 },exit:=Int.negSucc 0,once:=false })) (aa) fuel param ((↑ins.1:Int))) (by repeat' (first|exact trivial|refine bV rfl ?_)) (rc (rc (rc (rc (rc (rc .nil)))))) rfl (SB s0 l (p) ((cx ins { op:=Int.ofNat 16,a:=Int.ofNat 0,b:=Int.ofNat 0,c:=Int.ofNat 0,n:=Int.ofNat 0,args:={ n:=0,get:=fun x=>Int.ofNat 0 },k:={ kind:=Int.ofNat 0,n:=Int.ofNat 0,s:={ data:={ toList:=[] } } },names:={ n:=2,get:=fun i=>rS (eD (yt.get i)) },place:={ fn:=Int.ofNat 0,line:=Int.ofNat 0 },exit:=Int.negSucc 0,once:=false })) (aa) fuel param hl (by first|omega|(simp only [fo]; omega)) (by first|omega|(simp only [fo]; omega)) hF hP ((↑ins.1:Int))))
theorem Tq (s0:eU) (l:Sq Int) (p:Nat) (ins:Sq aj) (aa:Sq ai) (fuel:Int) (param:Nat) (hl:l.n≤maxLen) (hI:ins.n≤910) (hE:aa.n≤910) (hF:0≤fuel∧fuel≤1000) (hP:param≤1000) (c:Int):af 22 4 (zC l s0 fuel param (k27 l c ⟨p,ins,aa⟩)) (ag 22 27) (BU cx cG l p ins aa fuel param c):=by
 refine bA (X:=mW l cx cG) (stop:=fV) (SO _ _ cx cG l p ins aa fuel param c ?_)
 refine ⟨gw (m:=0) (q:=1) (i:=5) (j:=4) l _ _ hl (by omega) rfl rfl rfl rfl (bg rfl),?_⟩
 refine ⟨fa l _ _ hl rfl,?_⟩
 refine ⟨fD (m:=0) (q:=1) (i:=5) (j:=4) _ _ (by first|omega|(simp only [fo]; omega)) (by first|exact aX.refl _|exact jq (by repeat' (first|exact aB.nil|refine aB.cons ?_ ?_|exact ei.refl _|exact ei.nil _ _))) rfl (bg rfl) rfl rfl (bg rfl),?_⟩
 exact ⟨[0,1,2,3,4,6],.t [],_,_,rfl,(rc (rc (rc (rc (rc (rc .nil)))))),⟨6,bg rfl,bg rfl,rfl,rfl,aX.refl _,⟨.inr rfl,⟨.inr rfl,⟨.inr rfl,⟨.inr rfl,⟨rfl,⟨rfl,trivial⟩⟩⟩⟩⟩⟩⟩⟩
theorem Ri (s0:eU) (l:Sq Int) (p:Nat) (ins:Sq aj) (aa:Sq ai) (fuel:Int) (param:Nat) (hl:l.n≤maxLen) (hI:ins.n≤910) (hE:aa.n≤910) (hF:0≤fuel∧fuel≤1000) (hP:param≤1000) (x:aj):af 22 4 (zC l s0 fuel param (XY l x ⟨p,ins,aa⟩)) (ag 22 40) (BV cx cG l p ins aa fuel param x):=by
 refine bA (X:=mW l cx cG) (stop:=fV) (Q9 _ _ cx cG l p ins aa fuel param x ?_)
 refine ⟨fa l _ _ hl rfl,?_⟩
 refine ak (fun h0=>?_) (fun h0=>?_)
 ·refine ⟨fD (m:=0) (q:=1) (i:=5) (j:=4) _ _ (by first|omega|(simp only [fo]; omega)) (by first|exact aX.refl _|exact jq (by repeat' (first|exact aB.nil|refine aB.cons ?_ ?_|exact ei.refl _|exact ei.nil _ _))) rfl (bg rfl) rfl rfl (bg rfl),?_⟩
  simp only [XY,show ((nx l p 2).1==0)=true from h0,cond_true,cond_false]
  exact ⟨[0,1,2,3,4,7],.t [],_,_,rfl,(rc (rc (rc (rc (rc (rc .nil)))))),⟨6,bg rfl,bg rfl,rfl,rfl,aX.refl _,⟨.inr rfl,⟨.inr rfl,⟨.inr rfl,⟨.inr rfl,⟨rfl,⟨rfl,trivial⟩⟩⟩⟩⟩⟩⟩⟩
 ·refine ⟨gw (m:=0) (q:=1) (i:=5) (j:=4) l _ _ hl (by omega) rfl rfl rfl rfl (bg rfl),?_⟩
  refine ⟨fD (m:=0) (q:=1) (i:=5) (j:=4) _ _ (by first|omega|(simp only [fo]; omega)) (by first|exact aX.refl _|exact jq (by repeat' (first|exact aB.nil|refine aB.cons ?_ ?_|exact ei.refl _|exact ei.nil _ _))) rfl (bg rfl) rfl rfl (bg rfl),?_⟩
  refine ⟨gw (m:=0) (q:=1) (i:=5) (j:=4) l _ _ hl (by omega) rfl rfl rfl rfl (bg rfl),?_⟩
  refine ⟨fD (m:=0) (q:=1) (i:=5) (j:=4) _ _ (by first|omega|(simp only [fo]; omega)) (by first|exact aX.refl _|exact jq (by repeat' (first|exact aB.nil|refine aB.cons ?_ ?_|exact ei.refl _|exact ei.nil _ _))) rfl (bg rfl) rfl rfl (bg rfl),?_⟩
  simp only [XY,show ((nx l p 2).1==0)=false from h0,cond_true,cond_false]
  exact ⟨[0,1,2,3,4,9],.t [],_,_,rfl,(rc (rc (rc (rc (rc (rc .nil)))))),⟨6,bg rfl,bg rfl,rfl,rfl,aX.refl _,⟨.inr rfl,⟨.inr rfl,⟨.inr rfl,⟨.inr rfl,⟨rfl,⟨rfl,trivial⟩⟩⟩⟩⟩⟩⟩⟩
theorem Tj (s0:eU) (l:Sq Int) (p:Nat) (ins:Sq aj) (aa:Sq ai) (fuel:Int) (param:Nat) (hl:l.n≤maxLen) (hI:ins.n≤910) (hE:aa.n≤910) (hF:0≤fuel∧fuel≤1000) (hP:param≤1000) (x:aj):af 22 4 (zC l s0 fuel param (k47 x ⟨p,ins,aa⟩)) (ag 22 47) (Ck cx cG l p ins aa fuel param x):=by
 refine bA (X:=mW l cx cG) (stop:=fV) (SH _ _ cx cG l p ins aa fuel param x ?_)
 refine ⟨fD (m:=0) (q:=1) (i:=5) (j:=4) _ _ (by first|omega|(simp only [fo]; omega)) (by first|exact aX.refl _|exact jq (by repeat' (first|exact aB.nil|refine aB.cons ?_ ?_|exact ei.refl _|exact ei.nil _ _))) rfl (bg rfl) rfl rfl (bg rfl),?_⟩
 exact ⟨[0,1,2,3,4,7],.t [],_,_,rfl,(rc (rc (rc (rc (rc (rc .nil)))))),⟨6,bg rfl,bg rfl,rfl,rfl,aX.refl _,⟨.inr rfl,⟨.inr rfl,⟨.inr rfl,⟨.inr rfl,⟨rfl,⟨rfl,trivial⟩⟩⟩⟩⟩⟩⟩⟩
theorem Sp (s0:eU) (l:Sq Int) (p:Nat) (ins:Sq aj) (aa:Sq ai) (fuel:Int) (param:Nat) (hl:l.n≤maxLen) (hI:ins.n≤910) (hE:aa.n≤910) (hF:0≤fuel∧fuel≤1000) (hP:param≤1000) (x:aj):af 22 4 (zC l s0 fuel param (k52 l x ⟨p,ins,aa⟩)) (ag 22 52) (CF cx cG l p ins aa fuel param x):=by
 refine bA (X:=mW l cx cG) (stop:=fV) (QW _ _ cx cG l p ins aa fuel param x ?_)
 refine ⟨fa l _ _ hl rfl,?_⟩
 refine ⟨fD (m:=0) (q:=1) (i:=5) (j:=4) _ _ (by first|omega|(simp only [fo]; omega)) (by first|exact aX.refl _|exact jq (by repeat' (first|exact aB.nil|refine aB.cons ?_ ?_|exact ei.refl _|exact ei.nil _ _))) rfl (bg rfl) rfl rfl (bg rfl),?_⟩
 refine ⟨fa l _ _ hl rfl,?_⟩
 refine ⟨fD (m:=0) (q:=1) (i:=5) (j:=4) _ _ (by first|omega|(simp only [fo]; omega)) (by first|exact aX.refl _|exact jq (by repeat' (first|exact aB.nil|refine aB.cons ?_ ?_|exact ei.refl _|exact ei.nil _ _))) rfl (bg rfl) rfl rfl (bg rfl),?_⟩
 exact ⟨[0,1,2,3,4,9],.t [],_,_,rfl,(rc (rc (rc (rc (rc (rc .nil)))))),⟨6,bg rfl,bg rfl,rfl,rfl,aX.refl _,⟨.inr rfl,⟨.inr rfl,⟨.inr rfl,⟨.inr rfl,⟨rfl,⟨rfl,trivial⟩⟩⟩⟩⟩⟩⟩⟩
theorem Ji (s0:eU) (l:Sq Int) (p:Nat) (ins:Sq aj) (aa:Sq ai) (fuel:Int) (param:Nat) (hl:l.n≤maxLen) (hI:ins.n≤910) (hE:aa.n≤910) (hF:0≤fuel∧fuel≤1000) (hP:param≤1000) (c:Int):af 22 4 (zC l s0 fuel param (k18 l fuel param c ⟨p,ins,aa⟩)) (ag 22 18) (ve cx cG l p ins aa fuel param c):=by
 refine bA (X:=mW l cx cG) (stop:=fV) (TH _ _ cx cG l p ins aa fuel param c ?_)
 refine ⟨fa l _ _ hl rfl,?_⟩
 refine ⟨nH (m:=0) (q:=1) (i:=5) (j:=4) l _ _ _ hl (by first|omega|(simp only [fo]; omega)) (by first|omega|(simp only [fo]; omega)) hF hP rfl rfl rfl rfl rfl,?_⟩
 refine ⟨fD (m:=0) (q:=1) (i:=5) (j:=7) _ _ (by first|omega|(simp only [fo]; omega)) (by first|exact aX.refl _|exact jq (by repeat' (first|exact aB.nil|refine aB.cons ?_ ?_|exact ei.refl _|exact ei.nil _ _))) rfl (bg rfl) rfl rfl (bg rfl),?_⟩
 exact ⟨[0,1,2,3,7,8],.t [],_,_,rfl,(rc (rc (rc (rc (rc (rc .nil)))))),⟨6,bg rfl,bg rfl,rfl,rfl,aX.refl _,⟨.inr rfl,⟨.inr rfl,⟨.inr rfl,⟨.inr rfl,⟨rfl,⟨rfl,trivial⟩⟩⟩⟩⟩⟩⟩⟩
theorem Wn (s0:eU) (l:Sq Int) (p:Nat) (ins:Sq aj) (aa:Sq ai) (fuel:Int) (param:Nat) (hl:l.n≤maxLen) (hI:ins.n≤900) (hE:aa.n≤900) (hF:0≤fuel∧fuel≤1000) (hP:param≤1000)  : af 22 4 (zC l s0 fuel param (k3 l ⟨p,ins,aa⟩)) (ag 22 3) (HV cx cG l p ins aa fuel param ):=by
 refine bA (X:=mW l cx cG) (stop:=fV) (W1 _ _ cx cG l p ins aa fuel param  ?_)
 refine ⟨fa l _ _ hl rfl,?_⟩
 refine ⟨fa l _ _ hl rfl,?_⟩
 refine aw (by first|rfl|assumption|exact uh 4 (by decide) (by decide)|exact uh 2 (by decide) (by decide)|(simp; done)|omega) ?_
 refine ak (fun h0=>?_) (fun h0=>?_)
 ·refine ⟨fD (m:=0) (q:=1) (i:=2) (j:=4) _ _ (by first|omega|(simp only [fo]; omega)) (by first|exact aX.refl _|exact jq (by repeat' (first|exact aB.nil|refine aB.cons ?_ ?_|exact ei.refl _|exact ei.nil _ _))) rfl (bg rfl) rfl rfl (bg rfl),?_⟩
  simp only [k3,Wr,h0,cond_true,cond_false]
  exact ⟨[0,1,2,3,4,6],.t [],_,_,rfl,(rc (rc (rc (rc (rc (rc .nil)))))),⟨6,bg rfl,bg rfl,rfl,rfl,aX.refl _,⟨.inr rfl,⟨.inr rfl,⟨.inr rfl,⟨.inr rfl,⟨rfl,⟨rfl,trivial⟩⟩⟩⟩⟩⟩⟩⟩
 ·refine ak (fun h1=>?_) (fun h1=>?_)
  ·refine ⟨fD (m:=0) (q:=1) (i:=2) (j:=4) _ _ (by first|omega|(simp only [fo]; omega)) (by first|exact aX.refl _|exact jq (by repeat' (first|exact aB.nil|refine aB.cons ?_ ?_|exact ei.refl _|exact ei.nil _ _))) rfl (bg rfl) rfl rfl (bg rfl),?_⟩
   simp only [k3,Wr,h0,h1,cond_true,cond_false]
   exact ⟨[0,1,2,3,4,6],.t [],_,_,rfl,(rc (rc (rc (rc (rc (rc .nil)))))),⟨6,bg rfl,bg rfl,rfl,rfl,aX.refl _,⟨.inr rfl,⟨.inr rfl,⟨.inr rfl,⟨.inr rfl,⟨rfl,⟨rfl,trivial⟩⟩⟩⟩⟩⟩⟩⟩
  ·refine ak (fun h2=>?_) (fun h2=>?_)
   ·refine ⟨fD (m:=0) (q:=1) (i:=2) (j:=4) _ _ (by first|omega|(simp only [fo]; omega)) (by first|exact aX.refl _|exact jq (by repeat' (first|exact aB.nil|refine aB.cons ?_ ?_|exact ei.refl _|exact ei.nil _ _))) rfl (bg rfl) rfl rfl (bg rfl),?_⟩
    simp only [k3,Wr,h0,h1,h2,cond_true,cond_false]
    exact ⟨[0,1,2,3,4,6],.t [],_,_,rfl,(rc (rc (rc (rc (rc (rc .nil)))))),⟨6,bg rfl,bg rfl,rfl,rfl,aX.refl _,⟨.inr rfl,⟨.inr rfl,⟨.inr rfl,⟨.inr rfl,⟨rfl,⟨rfl,trivial⟩⟩⟩⟩⟩⟩⟩⟩
   ·refine ak (fun h3=>?_) (fun h3=>?_)
    ·refine ⟨fD (m:=0) (q:=1) (i:=2) (j:=4) _ _ (by first|omega|(simp only [fo]; omega)) (by first|exact aX.refl _|exact jq (by repeat' (first|exact aB.nil|refine aB.cons ?_ ?_|exact ei.refl _|exact ei.nil _ _))) rfl (bg rfl) rfl rfl (bg rfl),?_⟩
     simp only [k3,Wr,h0,h1,h2,h3,cond_true,cond_false]
     exact ⟨[0,1,2,3,4,6],.t [],_,_,rfl,(rc (rc (rc (rc (rc (rc .nil)))))),⟨6,bg rfl,bg rfl,rfl,rfl,aX.refl _,⟨.inr rfl,⟨.inr rfl,⟨.inr rfl,⟨.inr rfl,⟨rfl,⟨rfl,trivial⟩⟩⟩⟩⟩⟩⟩⟩
    ·exact RF h0 h1 h2 h3
theorem FV (s0:eU) (l:Sq Int) (p:Nat) (ins:Sq aj) (aa:Sq ai) (fuel:Int) (param:Nat) (hl:l.n≤maxLen) (hI:ins.n≤900) (hE:aa.n≤900) (hF:0≤fuel∧fuel≤1000) (hP:param≤1000)  : af 22 4 (zC l s0 fuel param (k7 l fuel param ⟨p,ins,aa⟩)) (ag 22 7) (yj cx cG l p ins aa fuel param ):=by
 refine bA (X:=mW l cx cG) (stop:=fV) (Wh _ _ cx cG l p ins aa fuel param  ?_)
 refine ⟨fa l _ _ hl rfl,?_⟩
 refine ⟨gw (m:=0) (q:=1) (i:=2) (j:=3) l _ _ hl (by omega) rfl rfl rfl rfl (bg rfl),?_⟩
 refine ⟨gw (m:=0) (q:=1) (i:=2) (j:=3) l _ _ hl (by omega) rfl rfl rfl rfl (bg rfl),?_⟩
 refine ⟨nH (m:=0) (q:=1) (i:=2) (j:=3) l _ _ _ hl (by first|omega|(simp only [fo]; omega)) (by first|omega|(simp only [fo]; omega)) hF hP rfl rfl rfl rfl rfl,?_⟩
 refine ⟨fD (m:=0) (q:=1) (i:=2) (j:=5) _ _ (by first|omega|(simp only [fo]; omega)) (by first|exact aX.refl _|exact jq (by repeat' (first|exact aB.nil|refine aB.cons ?_ ?_|exact ei.refl _|exact ei.nil _ _))) rfl (bg rfl) rfl rfl (bg rfl),?_⟩
 exact ⟨[0,1,2,3,5,6],.t [],_,_,rfl,(rc (rc (rc (rc (rc (rc .nil)))))),⟨6,bg rfl,bg rfl,rfl,rfl,aX.refl _,⟨.inr rfl,⟨.inr rfl,⟨.inr rfl,⟨.inr rfl,⟨rfl,⟨rfl,trivial⟩⟩⟩⟩⟩⟩⟩⟩
theorem QS (s0:eU) (l:Sq Int) (p:Nat) (ins:Sq aj) (aa:Sq ai) (fuel:Int) (param:Nat) (hl:l.n≤maxLen) (hI:ins.n≤900) (hE:aa.n≤900) (hF:0≤fuel∧fuel≤1000) (hP:param≤1000)  : af 22 4 (zC l s0 fuel param (k11 l fuel param ⟨p,ins,aa⟩)) (ag 22 11) (Az cx cG l p ins aa fuel param ):=by
 refine bA (X:=mW l cx cG) (stop:=fV) (R3 _ _ cx cG l p ins aa fuel param  ?_)
 refine ⟨fa l _ _ hl rfl,?_⟩
 refine ⟨gw (m:=0) (q:=1) (i:=2) (j:=3) l _ _ hl (by omega) rfl rfl rfl rfl (bg rfl),?_⟩
 refine ⟨nH (m:=0) (q:=1) (i:=2) (j:=3) l _ _ _ hl (by first|omega|(simp only [fo]; omega)) (by first|omega|(simp only [fo]; omega)) hF hP rfl rfl rfl rfl rfl,?_⟩
 refine ⟨fD (m:=0) (q:=1) (i:=2) (j:=5) _ _ (by first|omega|(simp only [fo]; omega)) (by first|exact aX.refl _|exact jq (by repeat' (first|exact aB.nil|refine aB.cons ?_ ?_|exact ei.refl _|exact ei.nil _ _))) rfl (bg rfl) rfl rfl (bg rfl),?_⟩
 exact ⟨[0,1,2,3,5,6],.t [],_,_,rfl,(rc (rc (rc (rc (rc (rc .nil)))))),⟨6,bg rfl,bg rfl,rfl,rfl,aX.refl _,⟨.inr rfl,⟨.inr rfl,⟨.inr rfl,⟨.inr rfl,⟨rfl,⟨rfl,trivial⟩⟩⟩⟩⟩⟩⟩⟩
theorem Q8 (s0:eU) (l:Sq Int) (p:Nat) (ins:Sq aj) (aa:Sq ai) (fuel:Int) (param:Nat) (hl:l.n≤maxLen) (hI:ins.n≤900) (hE:aa.n≤900) (hF:0≤fuel∧fuel≤1000) (hP:param≤1000)  : af 22 4 (zC l s0 fuel param (X1 l fuel param ⟨p,ins,aa⟩)) (ag 22 15) (Al cx cG l p ins aa fuel param ):=by
 refine bA (X:=mW l cx cG) (stop:=fV) (Rl _ _ cx cG l p ins aa fuel param  ?_)
 refine ⟨fa l _ _ hl rfl,?_⟩
 refine aw (by first|rfl|assumption|exact uh 4 (by decide) (by decide)|exact uh 2 (by decide) (by decide)|(simp; done)|omega) ?_
 refine ak (fun h0=>?_) (fun h0=>?_)
 ·refine ⟨gw (m:=0) (q:=1) (i:=2) (j:=3) l _ _ hl (by omega) rfl rfl rfl rfl (bg rfl),?_⟩
  refine ⟨gw (m:=0) (q:=1) (i:=2) (j:=3) l _ _ hl (by omega) rfl rfl rfl rfl (bg rfl),?_⟩
  refine ⟨fa l _ _ hl rfl,?_⟩
  refine aw (by first|rfl|assumption|exact uh 4 (by decide) (by decide)|exact uh 2 (by decide) (by decide)|(simp; done)|omega) ?_
  refine ak (fun h1=>?_) (fun h1=>Bool.noConfusion (h0.symm.trans h1))
  refine ⟨gw (m:=0) (q:=1) (i:=2) (j:=3) l _ _ hl (by omega) rfl rfl rfl rfl (bg rfl),?_⟩
  refine ⟨gw (m:=0) (q:=1) (i:=2) (j:=3) l _ _ hl (by omega) rfl rfl rfl rfl (bg rfl),?_⟩
  refine ⟨nH (m:=0) (q:=1) (i:=2) (j:=3) l _ _ _ hl (by first|omega|(simp only [fo]; omega)) (by first|omega|(simp only [fo]; omega)) hF hP rfl rfl rfl rfl rfl,?_⟩
  refine ⟨fD (m:=0) (q:=1) (i:=2) (j:=9) _ _ (by first|omega|(simp only [fo]; omega)) (by first|exact aX.refl _|exact jq (by repeat' (first|exact aB.nil|refine aB.cons ?_ ?_|exact ei.refl _|exact ei.nil _ _))) rfl (bg rfl) rfl rfl (bg rfl),?_⟩
  simp only [X1,YP,h0,cond_true,cond_false]
  exact af.rename [0,1,2,3,9,10] rfl (af.le (ve cx cG l ((lv l (vl l (vl l (nx l p 2).2 ins).2 ins).2 ins fuel param).2) ((cx ins (dt 4 (vl l (nx l p 2).2 ins).1 (vl l (vl l (nx l p 2).2 ins).2 ins).1 0 10 (Int.ofNat aa.1)))) ((cG aa (lv l (vl l (vl l (nx l p 2).2 ins).2 ins).2 ins fuel param).1)) fuel param ((↑ins.1:Int))) (by repeat' (first|exact trivial|refine bV rfl ?_)) (rc (rc (rc (rc (rc (rc .nil)))))) rfl (Ji s0 l ((lv l (vl l (vl l (nx l p 2).2 ins).2 ins).2 ins fuel param).2) ((cx ins (dt 4 (vl l (nx l p 2).2 ins).1 (vl l (vl l (nx l p 2).2 ins).2 ins).1 0 10 (Int.ofNat aa.1)))) ((cG aa (lv l (vl l (vl l (nx l p 2).2 ins).2 ins).2 ins fuel param).1)) fuel param hl (by first|omega|(simp only [fo]; omega)) (by first|omega|(simp only [fo]; omega)) hF hP ((↑ins.1:Int))))
 ·refine ak (fun h1=>?_) (fun h1=>?_)
  ·refine ⟨gw (m:=0) (q:=1) (i:=2) (j:=3) l _ _ hl (by omega) rfl rfl rfl rfl (bg rfl),?_⟩
   refine ⟨gw (m:=0) (q:=1) (i:=2) (j:=3) l _ _ hl (by omega) rfl rfl rfl rfl (bg rfl),?_⟩
   refine ⟨fa l _ _ hl rfl,?_⟩
   refine aw (by first|rfl|assumption|exact uh 4 (by decide) (by decide)|exact uh 2 (by decide) (by decide)|(simp; done)|omega) ?_
   refine ak (fun h2=>Bool.noConfusion (h2.symm.trans h0)) (fun h2=>?_)
   refine ak (fun h3=>?_) (fun h3=>Bool.noConfusion (h1.symm.trans h3))
   refine ⟨gw (m:=0) (q:=1) (i:=2) (j:=3) l _ _ hl (by omega) rfl rfl rfl rfl (bg rfl),?_⟩
   refine ⟨gw (m:=0) (q:=1) (i:=2) (j:=3) l _ _ hl (by omega) rfl rfl rfl rfl (bg rfl),?_⟩
   refine ⟨nH (m:=0) (q:=1) (i:=2) (j:=3) l _ _ _ hl (by first|omega|(simp only [fo]; omega)) (by first|omega|(simp only [fo]; omega)) hF hP rfl rfl rfl rfl rfl,?_⟩
   refine ⟨fD (m:=0) (q:=1) (i:=2) (j:=9) _ _ (by first|omega|(simp only [fo]; omega)) (by first|exact aX.refl _|exact jq (by repeat' (first|exact aB.nil|refine aB.cons ?_ ?_|exact ei.refl _|exact ei.nil _ _))) rfl (bg rfl) rfl rfl (bg rfl),?_⟩
   simp only [X1,YP,h0,h1,cond_true,cond_false]
   exact af.rename [0,1,2,3,9,10] rfl (af.le (ve cx cG l ((lv l (vl l (vl l (nx l p 2).2 ins).2 ins).2 ins fuel param).2) ((cx ins (dt 4 (vl l (nx l p 2).2 ins).1 (vl l (vl l (nx l p 2).2 ins).2 ins).1 0 11 (Int.ofNat aa.1)))) ((cG aa (lv l (vl l (vl l (nx l p 2).2 ins).2 ins).2 ins fuel param).1)) fuel param ((↑ins.1:Int))) (by repeat' (first|exact trivial|refine bV rfl ?_)) (rc (rc (rc (rc (rc (rc .nil)))))) rfl (Ji s0 l ((lv l (vl l (vl l (nx l p 2).2 ins).2 ins).2 ins fuel param).2) ((cx ins (dt 4 (vl l (nx l p 2).2 ins).1 (vl l (vl l (nx l p 2).2 ins).2 ins).1 0 11 (Int.ofNat aa.1)))) ((cG aa (lv l (vl l (vl l (nx l p 2).2 ins).2 ins).2 ins fuel param).1)) fuel param hl (by first|omega|(simp only [fo]; omega)) (by first|omega|(simp only [fo]; omega)) hF hP ((↑ins.1:Int))))
  ·exact QG h0 h1
theorem Js (s0:eU) (l:Sq Int) (p:Nat) (ins:Sq aj) (aa:Sq ai) (fuel:Int) (param:Nat) (hl:l.n≤maxLen) (hI:ins.n≤900) (hE:aa.n≤900) (hF:0≤fuel∧fuel≤1000) (hP:param≤1000)  : af 22 4 (zC l s0 fuel param (XW l fuel param ⟨p,ins,aa⟩)) (ag 22 23) (vw cx cG l p ins aa fuel param ):=by
 refine bA (X:=mW l cx cG) (stop:=fV) (SJ _ _ cx cG l p ins aa fuel param  ?_)
 refine ⟨Uf (m:=0) (q:=1) (i:=2) (j:=3) l _ _ _ _ _ hl (by first|omega|(simp only [fo]; omega)) (by first|omega|(simp only [fo]; omega)) hF hP rfl rfl rfl rfl rfl,?_⟩
 exact af.rename [0,1,2,3,4,5] rfl (af.le (CG cx cG l ((fJ l p ins fuel param).2) ((cx ins (ji l p ins param aa.1))) ((cG aa (fJ l p ins fuel param).1)) fuel param (((iO l p ins param).1))) (by repeat' (first|exact trivial|refine bV rfl ?_)) (rc (rc (rc (rc (rc (rc .nil)))))) rfl (Tu s0 l ((fJ l p ins fuel param).2) ((cx ins (ji l p ins param aa.1))) ((cG aa (fJ l p ins fuel param).1)) fuel param hl (by first|omega|(simp only [fo]; omega)) (by first|omega|(simp only [fo]; omega)) hF hP (((iO l p ins param).1))))
theorem QY (s0:eU) (l:Sq Int) (p:Nat) (ins:Sq aj) (aa:Sq ai) (fuel:Int) (param:Nat) (hl:l.n≤maxLen) (hI:ins.n≤900) (hE:aa.n≤900) (hF:0≤fuel∧fuel≤1000) (hP:param≤1000)  : af 22 4 (zC l s0 fuel param (k26 l fuel param ⟨p,ins,aa⟩)) (ag 22 26) (AZ cx cG l p ins aa fuel param ):=by
 refine bA (X:=mW l cx cG) (stop:=fV) (Sf _ _ cx cG l p ins aa fuel param  ?_)
 refine ⟨Uf (m:=0) (q:=1) (i:=2) (j:=3) l _ _ _ _ _ hl (by first|omega|(simp only [fo]; omega)) (by first|omega|(simp only [fo]; omega)) hF hP rfl rfl rfl rfl rfl,?_⟩
 exact af.rename [0,1,2,3,4,5] rfl (af.le (BU cx cG l ((fJ l p ins fuel param).2) ((cx ins (ji l p ins param aa.1))) ((cG aa (fJ l p ins fuel param).1)) fuel param (((iO l p ins param).1))) (by repeat' (first|exact trivial|refine bV rfl ?_)) (rc (rc (rc (rc (rc (rc .nil)))))) rfl (Tq s0 l ((fJ l p ins fuel param).2) ((cx ins (ji l p ins param aa.1))) ((cG aa (fJ l p ins fuel param).1)) fuel param hl (by first|omega|(simp only [fo]; omega)) (by first|omega|(simp only [fo]; omega)) hF hP (((iO l p ins param).1))))
theorem Kc (s0:eU) (l:Sq Int) (p:Nat) (ins:Sq aj) (aa:Sq ai) (fuel:Int) (param:Nat) (hl:l.n≤maxLen) (hI:ins.n≤900) (hE:aa.n≤900) (hF:0≤fuel∧fuel≤1000) (hP:param≤1000)  : af 22 4 (zC l s0 fuel param (X2 l fuel param ⟨p,ins,aa⟩)) (ag 22 30) (vu cx cG l p ins aa fuel param ):=by
 refine bA (X:=mW l cx cG) (stop:=fV) (QR _ _ cx cG l p ins aa fuel param  ?_)
 refine ⟨nH (m:=0) (q:=1) (i:=2) (j:=3) l _ _ _ hl (by first|omega|(simp only [fo]; omega)) (by first|omega|(simp only [fo]; omega)) hF hP rfl rfl rfl rfl rfl,?_⟩
 refine ⟨fD (m:=0) (q:=1) (i:=2) (j:=5) _ _ (by first|omega|(simp only [fo]; omega)) (by first|exact aX.refl _|exact jq (by repeat' (first|exact aB.nil|refine aB.cons ?_ ?_|exact ei.refl _|exact ei.nil _ _))) rfl (bg rfl) rfl rfl (bg rfl),?_⟩
 exact af.rename [0,1,2,3,5,6] rfl (af.le (BR cx cG l ((lv l p ins fuel param).2) ((cx ins (dt 15 0 0 0 32 (Int.ofNat aa.1)))) ((cG aa (lv l p ins fuel param).1)) fuel param) (by repeat' (first|exact trivial|refine bV rfl ?_)) (rc (rc (rc (rc (rc (rc .nil)))))) rfl (Tk s0 l ((lv l p ins fuel param).2) ((cx ins (dt 15 0 0 0 32 (Int.ofNat aa.1)))) ((cG aa (lv l p ins fuel param).1)) fuel param hl (by first|omega|(simp only [fo]; omega)) (by first|omega|(simp only [fo]; omega)) hF hP))
theorem R5 (s0:eU) (l:Sq Int) (p:Nat) (ins:Sq aj) (aa:Sq ai) (fuel:Int) (param:Nat) (hl:l.n≤maxLen) (hI:ins.n≤900) (hE:aa.n≤900) (hF:0≤fuel∧fuel≤1000) (hP:param≤1000)  : af 22 4 (zC l s0 fuel param (k37 l fuel param ⟨p,ins,aa⟩)) (ag 22 37) (Bn cx cG l p ins aa fuel param ):=by
 refine bA (X:=mW l cx cG) (stop:=fV) (Sw _ _ cx cG l p ins aa fuel param  ?_)
 refine ⟨gw (m:=0) (q:=1) (i:=2) (j:=3) l _ _ hl (by omega) rfl rfl rfl rfl (bg rfl),?_⟩
 refine ⟨gw (m:=0) (q:=1) (i:=2) (j:=3) l _ _ hl (by omega) rfl rfl rfl rfl (bg rfl),?_⟩
 refine ⟨nH (m:=0) (q:=1) (i:=2) (j:=3) l _ _ _ hl (by first|omega|(simp only [fo]; omega)) (by first|omega|(simp only [fo]; omega)) hF hP rfl rfl rfl rfl rfl,?_⟩
 refine ⟨fD (m:=0) (q:=1) (i:=2) (j:=5) _ _ (by first|omega|(simp only [fo]; omega)) (by first|exact aX.refl _|exact jq (by repeat' (first|exact aB.nil|refine aB.cons ?_ ?_|exact ei.refl _|exact ei.nil _ _))) rfl (bg rfl) rfl rfl (bg rfl),?_⟩
 exact af.rename [0,1,2,3,5,6,4] rfl (af.le (BV cx cG l ((lv l (vl l (vl l p ins).2 ins).2 ins fuel param).2) ((cx ins (dt 9 (vl l p ins).1 (vl l (vl l p ins).2 ins).1 0 0 (Int.ofNat aa.1)))) ((cG aa (lv l (vl l (vl l p ins).2 ins).2 ins fuel param).1)) fuel param (dt 9 (vl l p ins).1 (vl l (vl l p ins).2 ins).1 0 0 (Int.ofNat aa.1))) (by repeat' (first|exact trivial|refine bV rfl ?_)) (rc (rc (rc (rc (rc (rc (.cons (aJ.box (by repeat' (first|exact aB.nil|refine aB.cons ?_ ?_|exact ei.refl _|exact ei.nil _ _))) .nil))))))) rfl (Ri s0 l ((lv l (vl l (vl l p ins).2 ins).2 ins fuel param).2) ((cx ins (dt 9 (vl l p ins).1 (vl l (vl l p ins).2 ins).1 0 0 (Int.ofNat aa.1)))) ((cG aa (lv l (vl l (vl l p ins).2 ins).2 ins fuel param).1)) fuel param hl (by first|omega|(simp only [fo]; omega)) (by first|omega|(simp only [fo]; omega)) hF hP (dt 9 (vl l p ins).1 (vl l (vl l p ins).2 ins).1 0 0 (Int.ofNat aa.1))))
theorem S4 (s0:eU) (l:Sq Int) (p:Nat) (ins:Sq aj) (aa:Sq ai) (fuel:Int) (param:Nat) (hl:l.n≤maxLen) (hI:ins.n≤900) (hE:aa.n≤900) (hF:0≤fuel∧fuel≤1000) (hP:param≤1000)  : af 22 4 (zC l s0 fuel param (k44 l fuel param ⟨p,ins,aa⟩)) (ag 22 44) (Bq cx cG l p ins aa fuel param ):=by
 refine bA (X:=mW l cx cG) (stop:=fV) (RG _ _ cx cG l p ins aa fuel param  ?_)
 refine ⟨gw (m:=0) (q:=1) (i:=2) (j:=3) l _ _ hl (by omega) rfl rfl rfl rfl (bg rfl),?_⟩
 refine ⟨nH (m:=0) (q:=1) (i:=2) (j:=3) l _ _ _ hl (by first|omega|(simp only [fo]; omega)) (by first|omega|(simp only [fo]; omega)) hF hP rfl rfl rfl rfl rfl,?_⟩
 refine ⟨fD (m:=0) (q:=1) (i:=2) (j:=5) _ _ (by first|omega|(simp only [fo]; omega)) (by first|exact aX.refl _|exact jq (by repeat' (first|exact aB.nil|refine aB.cons ?_ ?_|exact ei.refl _|exact ei.nil _ _))) rfl (bg rfl) rfl rfl (bg rfl),?_⟩
 exact af.rename [0,1,2,3,5,6,4] rfl (af.le (Ck cx cG l ((lv l (vl l p ins).2 ins fuel param).2) ((cx ins (dt 8 (vl l p ins).1 0 0 0 (Int.ofNat aa.1)))) ((cG aa (lv l (vl l p ins).2 ins fuel param).1)) fuel param (dt 8 (vl l p ins).1 0 0 0 (Int.ofNat aa.1))) (by repeat' (first|exact trivial|refine bV rfl ?_)) (rc (rc (rc (rc (rc (rc (.cons (aJ.box (by repeat' (first|exact aB.nil|refine aB.cons ?_ ?_|exact ei.refl _|exact ei.nil _ _))) .nil))))))) rfl (Tj s0 l ((lv l (vl l p ins).2 ins fuel param).2) ((cx ins (dt 8 (vl l p ins).1 0 0 0 (Int.ofNat aa.1)))) ((cG aa (lv l (vl l p ins).2 ins fuel param).1)) fuel param hl (by first|omega|(simp only [fo]; omega)) (by first|omega|(simp only [fo]; omega)) hF hP (dt 8 (vl l p ins).1 0 0 0 (Int.ofNat aa.1))))
theorem S2 (s0:eU) (l:Sq Int) (p:Nat) (ins:Sq aj) (aa:Sq ai) (fuel:Int) (param:Nat) (hl:l.n≤maxLen) (hI:ins.n≤900) (hE:aa.n≤900) (hF:0≤fuel∧fuel≤1000) (hP:param≤1000)  : af 22 4 (zC l s0 fuel param (k49 l fuel param ⟨p,ins,aa⟩)) (ag 22 49) (Cz cx cG l p ins aa fuel param ):=by
 refine bA (X:=mW l cx cG) (stop:=fV) (QF _ _ cx cG l p ins aa fuel param  ?_)
 refine ⟨gw (m:=0) (q:=1) (i:=2) (j:=3) l _ _ hl (by omega) rfl rfl rfl rfl (bg rfl),?_⟩
 refine ⟨fa l _ _ hl rfl,?_⟩
 refine ⟨nH (m:=0) (q:=1) (i:=2) (j:=3) l _ _ _ hl (by first|omega|(simp only [fo]; omega)) (by first|omega|(simp only [fo]; omega)) hF hP rfl rfl rfl rfl rfl,?_⟩
 refine ⟨fD (m:=0) (q:=1) (i:=2) (j:=5) _ _ (by first|omega|(simp only [fo]; omega)) (by first|exact aX.refl _|exact jq (by repeat' (first|exact aB.nil|refine aB.cons ?_ ?_|exact ei.refl _|exact ei.nil _ _))) rfl (bg rfl) rfl rfl (bg rfl),?_⟩
 exact af.rename [0,1,2,3,5,6,4] rfl (af.le (CF cx cG l ((lv l (nx l (vl l p ins).2 4).2 ins fuel param).2) ((cx ins (dt 6 (vl l p ins).1 0 0 (cE (I.v (Value.int IntKind.i64 (IntKind.i64.wrap (1+(nx l (vl l p ins).2 4).1))))) (Int.ofNat aa.1)))) ((cG aa (lv l (nx l (vl l p ins).2 4).2 ins fuel param).1)) fuel param (dt 6 (vl l p ins).1 0 0 (cE (I.v (Value.int IntKind.i64 (IntKind.i64.wrap (1+(nx l (vl l p ins).2 4).1))))) (Int.ofNat aa.1))) (by repeat' (first|exact trivial|refine bV rfl ?_)) (rc (rc (rc (rc (rc (rc (.cons (aJ.box (by repeat' (first|exact aB.nil|refine aB.cons ?_ ?_|exact ei.refl _|exact ei.nil _ _))) .nil))))))) rfl (Sp s0 l ((lv l (nx l (vl l p ins).2 4).2 ins fuel param).2) ((cx ins (dt 6 (vl l p ins).1 0 0 (cE (I.v (Value.int IntKind.i64 (IntKind.i64.wrap (1+(nx l (vl l p ins).2 4).1))))) (Int.ofNat aa.1)))) ((cG aa (lv l (nx l (vl l p ins).2 4).2 ins fuel param).1)) fuel param hl (by first|omega|(simp only [fo]; omega)) (by first|omega|(simp only [fo]; omega)) hF hP (dt 6 (vl l p ins).1 0 0 (cE (I.v (Value.int IntKind.i64 (IntKind.i64.wrap (1+(nx l (vl l p ins).2 4).1))))) (Int.ofNat aa.1))))
theorem ZF (l:Sq Int) (p:Nat) (ins:Sq aj) (aa:Sq ai) (fuel:Int) (param:Nat) (hl:l.n≤maxLen) (hI:ins.n≤900) (hE:aa.n≤900) (hF:0≤fuel∧fuel≤1000) (hP:param≤1000):LC 22 [.c (.rt 1 0 0)] [aE l p,bf 0 2 ins.n 3 aa.n fuel param,dJ ins,l6 aa] (.t []) [aE l (iT l fuel param ⟨p,ins,aa⟩).p,bf 0 5 (iT l fuel param ⟨p,ins,aa⟩).ins.n 4 (iT l fuel param ⟨p,ins,aa⟩).ex.n fuel param,.dead,.dead,l6 (iT l fuel param ⟨p,ins,aa⟩).ex,dJ (iT l fuel param ⟨p,ins,aa⟩).ins]:=by
 refine jA aq5 (bg (by kernel_rfl)) ?_
 show af 22 4 (zC l ⟨p,ins,aa⟩ fuel param (iT l fuel param ⟨p,ins,aa⟩)) _ _
 refine ig (X:=mW l cx cG) (stop:=fV) (aq8 _ _ cx cG l p ins aa fuel param ?_)
 refine ⟨fa l _ _ hl rfl,?_⟩
 refine ak (fun h0=>?_) (fun h0=>?_)
 ·rw [show iT l fuel param ⟨p,ins,aa⟩=k3 l ⟨(nx l p 14).2,ins,aa⟩ from by simp only [iT,show ((nx l p 14).1==0)=true from h0,cond_true,cond_false]]
  exact af.AM 1 4 3 _ _ _ _ _ _ rfl rfl rfl (af.le (HV cx cG l ((nx l p 14).2) (ins) (aa) fuel param) (by repeat' (first|exact trivial|refine bV rfl ?_)) (rc (rc (rc (rc (rc .nil))))) rfl (Wn ⟨p,ins,aa⟩ l ((nx l p 14).2) (ins) (aa) fuel param hl (by first|omega|(simp only [fo]; omega)) (by first|omega|(simp only [fo]; omega)) hF hP))
 ·refine ak (fun h1=>?_) (fun h1=>?_)
  ·rw [show iT l fuel param ⟨p,ins,aa⟩=k7 l fuel param ⟨(nx l p 14).2,ins,aa⟩ from by simp only [iT,show ((nx l p 14).1==0)=false from h0,show ((nx l p 14).1==1)=true from h1,cond_true,cond_false]]
   exact af.le (yj cx cG l ((nx l p 14).2) (ins) (aa) fuel param) (by repeat' (first|exact trivial|refine bV rfl ?_)) (rc (rc (rc (rc .nil)))) rfl (FV ⟨p,ins,aa⟩ l ((nx l p 14).2) (ins) (aa) fuel param hl (by first|omega|(simp only [fo]; omega)) (by first|omega|(simp only [fo]; omega)) hF hP)
  ·refine ak (fun h2=>?_) (fun h2=>?_)
   ·rw [show iT l fuel param ⟨p,ins,aa⟩=k7 l fuel param ⟨(nx l p 14).2,ins,aa⟩ from by simp only [iT,show ((nx l p 14).1==0)=false from h0,show ((nx l p 14).1==1)=false from h1,show ((nx l p 14).1==2)=true from h2,cond_true,cond_false]]
    exact af.le (yj cx cG l ((nx l p 14).2) (ins) (aa) fuel param) (by repeat' (first|exact trivial|refine bV rfl ?_)) (rc (rc (rc (rc .nil)))) rfl (FV ⟨p,ins,aa⟩ l ((nx l p 14).2) (ins) (aa) fuel param hl (by first|omega|(simp only [fo]; omega)) (by first|omega|(simp only [fo]; omega)) hF hP)
   ·refine ak (fun h3=>?_) (fun h3=>?_)
    ·rw [show iT l fuel param ⟨p,ins,aa⟩=k7 l fuel param ⟨(nx l p 14).2,ins,aa⟩ from by simp only [iT,show ((nx l p 14).1==0)=false from h0,show ((nx l p 14).1==1)=false from h1,show ((nx l p 14).1==2)=false from h2,show ((nx l p 14).1==3)=true from h3,cond_true,cond_false]]
     exact af.le (yj cx cG l ((nx l p 14).2) (ins) (aa) fuel param) (by repeat' (first|exact trivial|refine bV rfl ?_)) (rc (rc (rc (rc .nil)))) rfl (FV ⟨p,ins,aa⟩ l ((nx l p 14).2) (ins) (aa) fuel param hl (by first|omega|(simp only [fo]; omega)) (by first|omega|(simp only [fo]; omega)) hF hP)
    ·refine ak (fun h4=>?_) (fun h4=>?_)
     ·rw [show iT l fuel param ⟨p,ins,aa⟩=k11 l fuel param ⟨(nx l p 14).2,ins,aa⟩ from by simp only [iT,show ((nx l p 14).1==0)=false from h0,show ((nx l p 14).1==1)=false from h1,show ((nx l p 14).1==2)=false from h2,show ((nx l p 14).1==3)=false from h3,show ((nx l p 14).1==4)=true from h4,cond_true,cond_false]]
      exact af.le (Az cx cG l ((nx l p 14).2) (ins) (aa) fuel param) (by repeat' (first|exact trivial|refine bV rfl ?_)) (rc (rc (rc (rc .nil)))) rfl (QS ⟨p,ins,aa⟩ l ((nx l p 14).2) (ins) (aa) fuel param hl (by first|omega|(simp only [fo]; omega)) (by first|omega|(simp only [fo]; omega)) hF hP)
     ·refine ak (fun h5=>?_) (fun h5=>?_)
      ·rw [show iT l fuel param ⟨p,ins,aa⟩=X1 l fuel param ⟨(nx l p 14).2,ins,aa⟩ from by simp only [iT,show ((nx l p 14).1==0)=false from h0,show ((nx l p 14).1==1)=false from h1,show ((nx l p 14).1==2)=false from h2,show ((nx l p 14).1==3)=false from h3,show ((nx l p 14).1==4)=false from h4,show ((nx l p 14).1==5)=true from h5,cond_true,cond_false]]
       exact af.le (Al cx cG l ((nx l p 14).2) (ins) (aa) fuel param) (by repeat' (first|exact trivial|refine bV rfl ?_)) (rc (rc (rc (rc .nil)))) rfl (Q8 ⟨p,ins,aa⟩ l ((nx l p 14).2) (ins) (aa) fuel param hl (by first|omega|(simp only [fo]; omega)) (by first|omega|(simp only [fo]; omega)) hF hP)
      ·refine ak (fun h6=>?_) (fun h6=>?_)
       ·rw [show iT l fuel param ⟨p,ins,aa⟩=XW l fuel param ⟨(nx l p 14).2,ins,aa⟩ from by simp only [iT,show ((nx l p 14).1==0)=false from h0,show ((nx l p 14).1==1)=false from h1,show ((nx l p 14).1==2)=false from h2,show ((nx l p 14).1==3)=false from h3,show ((nx l p 14).1==4)=false from h4,show ((nx l p 14).1==5)=false from h5,show ((nx l p 14).1==6)=true from h6,cond_true,cond_false]]
        exact af.le (vw cx cG l ((nx l p 14).2) (ins) (aa) fuel param) (by repeat' (first|exact trivial|refine bV rfl ?_)) (rc (rc (rc (rc .nil)))) rfl (Js ⟨p,ins,aa⟩ l ((nx l p 14).2) (ins) (aa) fuel param hl (by first|omega|(simp only [fo]; omega)) (by first|omega|(simp only [fo]; omega)) hF hP)
       ·refine ak (fun h7=>?_) (fun h7=>?_)
        ·rw [show iT l fuel param ⟨p,ins,aa⟩=XW l fuel param ⟨(nx l p 14).2,ins,aa⟩ from by simp only [iT,show ((nx l p 14).1==0)=false from h0,show ((nx l p 14).1==1)=false from h1,show ((nx l p 14).1==2)=false from h2,show ((nx l p 14).1==3)=false from h3,show ((nx l p 14).1==4)=false from h4,show ((nx l p 14).1==5)=false from h5,show ((nx l p 14).1==6)=false from h6,show ((nx l p 14).1==7)=true from h7,cond_true,cond_false]]
         exact af.le (vw cx cG l ((nx l p 14).2) (ins) (aa) fuel param) (by repeat' (first|exact trivial|refine bV rfl ?_)) (rc (rc (rc (rc .nil)))) rfl (Js ⟨p,ins,aa⟩ l ((nx l p 14).2) (ins) (aa) fuel param hl (by first|omega|(simp only [fo]; omega)) (by first|omega|(simp only [fo]; omega)) hF hP)
        ·refine ak (fun h8=>?_) (fun h8=>?_)
         ·rw [show iT l fuel param ⟨p,ins,aa⟩=k26 l fuel param ⟨(nx l p 14).2,ins,aa⟩ from by simp only [iT,show ((nx l p 14).1==0)=false from h0,show ((nx l p 14).1==1)=false from h1,show ((nx l p 14).1==2)=false from h2,show ((nx l p 14).1==3)=false from h3,show ((nx l p 14).1==4)=false from h4,show ((nx l p 14).1==5)=false from h5,show ((nx l p 14).1==6)=false from h6,show ((nx l p 14).1==7)=false from h7,show ((nx l p 14).1==8)=true from h8,cond_true,cond_false]]
          exact af.le (AZ cx cG l ((nx l p 14).2) (ins) (aa) fuel param) (by repeat' (first|exact trivial|refine bV rfl ?_)) (rc (rc (rc (rc .nil)))) rfl (QY ⟨p,ins,aa⟩ l ((nx l p 14).2) (ins) (aa) fuel param hl (by first|omega|(simp only [fo]; omega)) (by first|omega|(simp only [fo]; omega)) hF hP)
         ·refine ak (fun h9=>?_) (fun h9=>?_)
          ·rw [show iT l fuel param ⟨p,ins,aa⟩=X2 l fuel param ⟨(nx l p 14).2,ins,aa⟩ from by simp only [iT,show ((nx l p 14).1==0)=false from h0,show ((nx l p 14).1==1)=false from h1,show ((nx l p 14).1==2)=false from h2,show ((nx l p 14).1==3)=false from h3,show ((nx l p 14).1==4)=false from h4,show ((nx l p 14).1==5)=false from h5,show ((nx l p 14).1==6)=false from h6,show ((nx l p 14).1==7)=false from h7,show ((nx l p 14).1==8)=false from h8,show ((nx l p 14).1==9)=true from h9,cond_true,cond_false]]
           exact af.le (vu cx cG l ((nx l p 14).2) (ins) (aa) fuel param) (by repeat' (first|exact trivial|refine bV rfl ?_)) (rc (rc (rc (rc .nil)))) rfl (Kc ⟨p,ins,aa⟩ l ((nx l p 14).2) (ins) (aa) fuel param hl (by first|omega|(simp only [fo]; omega)) (by first|omega|(simp only [fo]; omega)) hF hP)
          ·refine ak (fun nN=>?_) (fun nN=>?_)
           ·rw [show iT l fuel param ⟨p,ins,aa⟩=X2 l fuel param ⟨(nx l p 14).2,ins,aa⟩ from by simp only [iT,show ((nx l p 14).1==0)=false from h0,show ((nx l p 14).1==1)=false from h1,show ((nx l p 14).1==2)=false from h2,show ((nx l p 14).1==3)=false from h3,show ((nx l p 14).1==4)=false from h4,show ((nx l p 14).1==5)=false from h5,show ((nx l p 14).1==6)=false from h6,show ((nx l p 14).1==7)=false from h7,show ((nx l p 14).1==8)=false from h8,show ((nx l p 14).1==9)=false from h9,show ((nx l p 14).1==10)=true from nN,cond_true,cond_false]]
            exact af.le (vu cx cG l ((nx l p 14).2) (ins) (aa) fuel param) (by repeat' (first|exact trivial|refine bV rfl ?_)) (rc (rc (rc (rc .nil)))) rfl (Kc ⟨p,ins,aa⟩ l ((nx l p 14).2) (ins) (aa) fuel param hl (by first|omega|(simp only [fo]; omega)) (by first|omega|(simp only [fo]; omega)) hF hP)
           ·refine ak (fun uP=>?_) (fun uP=>?_)
            ·rw [show iT l fuel param ⟨p,ins,aa⟩=k37 l fuel param ⟨(nx l p 14).2,ins,aa⟩ from by simp only [iT,show ((nx l p 14).1==0)=false from h0,show ((nx l p 14).1==1)=false from h1,show ((nx l p 14).1==2)=false from h2,show ((nx l p 14).1==3)=false from h3,show ((nx l p 14).1==4)=false from h4,show ((nx l p 14).1==5)=false from h5,show ((nx l p 14).1==6)=false from h6,show ((nx l p 14).1==7)=false from h7,show ((nx l p 14).1==8)=false from h8,show ((nx l p 14).1==9)=false from h9,show ((nx l p 14).1==10)=false from nN,show ((nx l p 14).1==11)=true from uP,cond_true,cond_false]]
             exact af.le (Bn cx cG l ((nx l p 14).2) (ins) (aa) fuel param) (by repeat' (first|exact trivial|refine bV rfl ?_)) (rc (rc (rc (rc .nil)))) rfl (R5 ⟨p,ins,aa⟩ l ((nx l p 14).2) (ins) (aa) fuel param hl (by first|omega|(simp only [fo]; omega)) (by first|omega|(simp only [fo]; omega)) hF hP)
            ·refine ak (fun yX=>?_) (fun yX=>?_)
             ·rw [show iT l fuel param ⟨p,ins,aa⟩=k44 l fuel param ⟨(nx l p 14).2,ins,aa⟩ from by simp only [iT,show ((nx l p 14).1==0)=false from h0,show ((nx l p 14).1==1)=false from h1,show ((nx l p 14).1==2)=false from h2,show ((nx l p 14).1==3)=false from h3,show ((nx l p 14).1==4)=false from h4,show ((nx l p 14).1==5)=false from h5,show ((nx l p 14).1==6)=false from h6,show ((nx l p 14).1==7)=false from h7,show ((nx l p 14).1==8)=false from h8,show ((nx l p 14).1==9)=false from h9,show ((nx l p 14).1==10)=false from nN,show ((nx l p 14).1==11)=false from uP,show ((nx l p 14).1==12)=true from yX,cond_true,cond_false]]
              exact af.le (Bq cx cG l ((nx l p 14).2) (ins) (aa) fuel param) (by repeat' (first|exact trivial|refine bV rfl ?_)) (rc (rc (rc (rc .nil)))) rfl (S4 ⟨p,ins,aa⟩ l ((nx l p 14).2) (ins) (aa) fuel param hl (by first|omega|(simp only [fo]; omega)) (by first|omega|(simp only [fo]; omega)) hF hP)
             ·refine ak (fun LO=>?_) (fun LO=>?_)
              ·rw [show iT l fuel param ⟨p,ins,aa⟩=k49 l fuel param ⟨(nx l p 14).2,ins,aa⟩ from by simp only [iT,show ((nx l p 14).1==0)=false from h0,show ((nx l p 14).1==1)=false from h1,show ((nx l p 14).1==2)=false from h2,show ((nx l p 14).1==3)=false from h3,show ((nx l p 14).1==4)=false from h4,show ((nx l p 14).1==5)=false from h5,show ((nx l p 14).1==6)=false from h6,show ((nx l p 14).1==7)=false from h7,show ((nx l p 14).1==8)=false from h8,show ((nx l p 14).1==9)=false from h9,show ((nx l p 14).1==10)=false from nN,show ((nx l p 14).1==11)=false from uP,show ((nx l p 14).1==12)=false from yX,cond_true,cond_false]]
               exact af.le (Cz cx cG l ((nx l p 14).2) (ins) (aa) fuel param) (by repeat' (first|exact trivial|refine bV rfl ?_)) (rc (rc (rc (rc .nil)))) rfl (S2 ⟨p,ins,aa⟩ l ((nx l p 14).2) (ins) (aa) fuel param hl (by first|omega|(simp only [fo]; omega)) (by first|omega|(simp only [fo]; omega)) hF hP)
              ·exfalso
               obtain ⟨d,hd,dD⟩:=l8 (l:=l) (p:=p) (n:=14) (by omega) (by omega)
               have g0:((nx l p 14).1==0)=false:=h0
               have g1:((nx l p 14).1==1)=false:=h1
               have g2:((nx l p 14).1==2)=false:=h2
               have g3:((nx l p 14).1==3)=false:=h3
               have g4:((nx l p 14).1==4)=false:=h4
               have g5:((nx l p 14).1==5)=false:=h5
               have g6:((nx l p 14).1==6)=false:=h6
               have g7:((nx l p 14).1==7)=false:=h7
               have g8:((nx l p 14).1==8)=false:=h8
               have g9:((nx l p 14).1==9)=false:=h9
               have g10:((nx l p 14).1==10)=false:=nN
               have g11:((nx l p 14).1==11)=false:=uP
               have g12:((nx l p 14).1==12)=false:=yX
               have g13:((nx l p 14).1==13)=false:=LO
               rw [hd] at g0 g1 g2 g3 g4 g5 g6 g7 g8 g9 g10 g11 g12 g13
               simp only [beq_eq_false_iff_ne,ne_eq] at g0 g1 g2 g3 g4 g5 g6 g7 g8 g9 g10 g11 g12 g13
               omega
theorem ZV (l:Sq Int) (p:Nat) (ins:Sq aj) (aa:Sq ai) (fuel:Int) (param:Nat) {m q i j:Nat} {RS:List ah} (hl:l.n≤maxLen) (hI:ins.n≤900) (hE:aa.n≤900) (hF:0≤fuel∧fuel≤1000) (hP:param≤1000) (hd:iF [m,q,i,j]=true) (h0:aV RS m=some (aE l p)) (h1:aV RS q=some (bf m i ins.n j aa.n fuel param)) (h2:aV RS i=some (dJ ins)) (h3:aV RS j=some (l6 aa)) :
  LC 22 [.c (.rt q 0 0)] RS (.t []) (setAt (setAt (setAt (setAt RS m (aE l (iT l fuel param ⟨p,ins,aa⟩).p)) q (bf m (RS.length+1) (iT l fuel param ⟨p,ins,aa⟩).ins.n RS.length (iT l fuel param ⟨p,ins,aa⟩).ex.n fuel param)) i .dead) j .dead++[l6 (iT l fuel param ⟨p,ins,aa⟩).ex,dJ (iT l fuel param ⟨p,ins,aa⟩).ins]):=
 cu.E7 (ZF l p ins aa fuel param hl hI hE hF hP) [m,q,i,j] RS hd ⟨h0,fk h0,h1,fk h1,h2,fk h2,h3,fk h3,rfl⟩
end Go.Proofs.YtghfgcfabbbbbaaDoor
set_option linter.unusedSectionVars false
namespace Go.Proofs.YtghfgcfabbbbbaaDoor
open Go Go.V
structure wu (e:ai):Prop where
 frames:e.frames.n≤900
 vars:∀ j,j<e.frames.n→(e.frames.get j).vars.n≤900
 az:e.az.n≤900
 names:∀ j,j<e.az.n→(e.az.get j).names.n≤900
 items:∀ j,j<e.az.n→(e.az.get j).items.n≤900
 pos:0<e.frames.n
structure qg (x:aj):Prop where
 n:x.n≤9223372036854775807
 args:x.args.n≤900
 names:x.names.n≤900
 str:x.k.s.size≤900
structure dM (s s':eU) (c d:Nat):Prop where
 ins:s'.ins.n≤s.ins.n+c
 ex:s'.ex.n≤s.ex.n+d
 gi:(∀ k,k<s.ins.n→qg (s.ins.get k))→∀ k,k<s'.ins.n→qg (s'.ins.get k)
 ge:(∀ k,k<s.ex.n→wu (s.ex.get k))→∀ k,k<s'.ex.n→wu (s'.ex.get k)
theorem dM.refl (s:eU):dM s s 0 0:=⟨bk _,bk _,fun h=>h,fun h=>h⟩
theorem dM.trans {a b c:eU} {m n m' n':Nat} (h:dM a b m n) (k:dM b c m' n'):dM a c (m+m') (n+n'):=
 ⟨by have:=h.ins; have:=k.ins; omega,by have:=h.ex; have:=k.ex; omega,fun q=>k.gi (h.gi q),fun q=>k.ge (h.ge q)⟩
theorem dM.le {a b:eU} {m n m' n':Nat} (h:dM a b m n) (h1:m≤m') (h2:n≤n'):dM a b m' n' :=
 ⟨by have:=h.ins; omega,by have:=h.ex; omega,h.gi,h.ge⟩
theorem tl {α:Type} {P:α→Prop} {s:Sq α} {x:α} (h:∀ k,k<s.n→P (s.get k)) (hx:P x):∀ k,k<(dK s ⟨1,fun _=>x⟩).n→P ((dK s ⟨1,fun _=>x⟩).get k):=by
 intro k hk
 show P (Bool.rec x (s.get k) (Nat.blt k s.n))
 cases hb:Nat.blt k s.n with
 | true=>exact h k (by simpa [cD] using hb)
 | false=>exact hx
theorem dM.add (s:eU) (p:Nat) {x:aj} (hx:qg x):dM s ⟨p,cx s.ins x,s.ex⟩ 1 0:=
 ⟨bk _,bk _,fun h=>tl h hx,fun h=>h⟩
theorem dM.both (s:eU) (p:Nat) {x:aj} {e:ai} (hx:qg x) (he:wu e):dM s ⟨p,cx s.ins x,cG s.ex e⟩ 1 1:=
 ⟨bk _,bk _,fun h=>tl h hx,fun h=>tl h he⟩
theorem CU (k:Int):IntKind.i64.wrap k≤9223372036854775807:=by
 have e1:(2 ^ IntKind.i64.bits:Int)=18446744073709551616:=by rfl
 have e2:(2 ^ (IntKind.i64.bits-1):Int)=9223372036854775808:=by rfl
 have e4:IntKind.i64.signed=true:=rfl
 unfold IntKind.wrap
 simp only [e1,e2,e4]
 have h1:k%18446744073709551616<18446744073709551616:=Int.emod_lt_of_pos _ (by omega)
 split
 ·omega
 ·rename_i h
  simp only [Bool.true_and,decide_eq_true_eq] at h
  omega
theorem Jo {l:Sq Int} {p:Nat} {n:Int} (h2:n≤900):(nx l p n).1≤900:=by
 by_cases h1:1≤n
 ·have:=(Im (l:=l) (p:=p) h1 (by omega)).2
  omega
 ·unfold nx
  rw [show decide (n<1)=true from decide_eq_true (by omega)]
  cases decide ((p:Int)≥(l.n:Int))<;>simp
theorem fP {op a b c n e:Int} (h:n≤9223372036854775807):qg (dt op a b c n e):=⟨h,bu _,bu _,bu _⟩
theorem qg.exit {x:aj} (h:qg x) (e:Int):qg { x with exit:=e }:=⟨h.n,h.args,h.names,h.str⟩
theorem Us (l:Sq Int) (ins:Sq aj):∀ (m p:Nat) (h:Sq Int),(U4 l ins m p h).1.n=h.n+m
 | 0,p,h=>rfl
 | m+1,p,h=>by
   show (U4 l ins m _ (dK h ⟨1,fun _=>(vl l p ins).1⟩)).1.n=_
   rw [Us]
   show h.n+1+m=_
   omega
theorem sr (l:Sq Int) (p:Nat) (ins:Sq aj) (fuel:Int) (param:Nat) (h:param≤900):wu (lv l p ins fuel param).1:=by
 have hv:(U4 l ins param p (dx 0)).1.n≤900:=by rw [Us]; show 0+param≤_; omega
 unfold lv Vv QL
 generalize ((nx l (nx l (U4 l ins param p (dx 0)).2 (fuel+1)).2 5).1==0)=b
 cases b with
 | false=>
   refine ⟨by simp,fun j _=>hv,bu _,fun j hj=>absurd hj (Nat.not_lt_zero j),fun j hj=>absurd hj (Nat.not_lt_zero j),by first|exact Nat.zero_lt_succ _|simp⟩
 | true=>
   refine ⟨by show 1+1≤900; omega,?_,bu _,fun j hj=>absurd hj (Nat.not_lt_zero j),fun j hj=>absurd hj (Nat.not_lt_zero j),by first|exact Nat.zero_lt_succ _|simp⟩
   intro j _
   simp only [cond_true]
   show (Bool.rec (X5 _) (⟨0,0,(U4 l ins param p (dx 0)).1⟩:eV) (Nat.blt j 1):eV).vars.n≤900
   cases Nat.blt j 1 with
   | true=>exact hv
   | false=>show 2≤900; omega
section
variable (l:Sq Int) (fuel:Int) (param:Nat) (hP:param≤900)
include hP
theorem jR {x:aj} (hx:qg x) (p:Nat) (s:eU):dM s (Sy l fuel param x p s) 1 1:=
 dM.both s _ (hx.exit _) (sr l p s.ins fuel param hP)
theorem Du (c:Int) (s:eU):dM s (k35 l c s) 1 0:=dM.add s _ (fP (by have:=Jo (l:=l) (p:=s.p) (n:=2) (by omega); omega))
theorem NV (c:Int) (s:eU):dM s (k34 l param c s) 2 0:=
 (dM.add s _ (fP (by have:=Jo (l:=l) (p:=(nx l s.p (param:Int)).2) (n:=2) (by omega); omega))).trans (Du l param hP c _)
theorem Mo (s:eU):dM s (k33 l param s) 3 0:=
 (dM.add s s.p (x:={ dt 16 0 0 0 0 (-1) with names:=yt }) ⟨by decide,bu _,by decide,bu _⟩).trans (NV l param hP _ _)
theorem O0 (c:Int) (s:eU):dM s (k27 l c s) 1 0:=dM.add s _ (fP (by have:=Jo (l:=l) (p:=(vl l s.p s.ins).2) (n:=2) (by omega); omega))
theorem Og (x:aj) (s:eU):dM s (XY l x s) 1 0:=by
 unfold XY
 cases (nx l s.p 2).1==0 with
 | true=>exact dM.add s _ (fP (by omega))
 | false=>exact dM.add s _ (fP (by omega))
theorem Ql (x:aj) (s:eU):dM s (k47 x s) 1 0:=dM.add s _ (fP (by omega))
theorem N2 (x:aj) (s:eU):dM s (k52 l x s) 1 0:=dM.add s _ ⟨by show (0:Int)≤_; omega,bu _,bu _,bu _⟩
theorem N9 (c:Int) (s:eU):dM s (k18 l fuel param c s) 1 1:=jR l fuel param hP (fP (by have:=Jo (l:=l) (p:=s.p) (n:=2) (by omega); omega)) _ s
theorem QK (s:eU):dM s (k3 l s) 1 0:=dM.add s _ ⟨by show (0:Int)≤_; omega,bu _,bu _,by
 show (Wr _ _).s.size≤900
 unfold Wr
 generalize Nat.beq _ 0=a
 generalize Nat.beq _ 1=b
 generalize Nat.beq _ 2=c
 cases a<;>cases b<;>cases c<;>first|exact bu _|(show 1≤900; omega)⟩
theorem A0 (s:eU):dM s (k7 l fuel param s) 1 1:=jR l fuel param hP (fP (CU _)) _ s
theorem O7 (s:eU):dM s (k11 l fuel param s) 1 1:=jR l fuel param hP (fP (CU _)) _ s
theorem Vz (d:Nat):YP d≤9223372036854775807:=by unfold YP; cases Nat.beq d 0<;>decide
theorem NU (s:eU):dM s (X1 l fuel param s) 2 2:=(jR l fuel param hP (fP (Vz param hP _)) _ s).trans (N9 l fuel param hP _ _)
theorem DS (s:eU):dM s (ksh l fuel param s) 1 1:=dM.both s _ ⟨by show (0:Int)≤_; omega,bu _,by show 2≤900; omega,bu _⟩ (sr l _ s.ins fuel param hP)
theorem Fs (s:eU):dM s (XW l fuel param s) 2 1:=(DS l fuel param hP s).trans (Du l param hP _ _)
theorem LW (s:eU):dM s (k26 l fuel param s) 2 1:=(DS l fuel param hP s).trans (O0 l param hP _ _)
theorem Db (s:eU):dM s (X2 l fuel param s) 4 1:=(jR l fuel param hP (fP (by omega)) s.p s).trans (Mo l param hP _)
theorem PA (s:eU):dM s (k37 l fuel param s) 2 1:=(jR l fuel param hP (fP (by omega)) _ s).trans (Og l param hP _ _)
theorem PW (s:eU):dM s (k44 l fuel param s) 2 1:=(jR l fuel param hP (fP (by omega)) _ s).trans (Ql param hP _ _)
theorem PN (s:eU):dM s (k49 l fuel param s) 2 1:=(jR l fuel param hP (fP (CU _)) _ s).trans (N2 l param hP _ _)
theorem iZ {s s':eU} {p:Nat} {c d:Nat} (h:dM ⟨p,s.ins,s.ex⟩ s' c d) (h1:c≤4) (h2:d≤2):dM s s' 4 2:=by
 have:=h.ins; have:=h.ex
 refine ⟨?_,?_,h.gi,h.ge⟩
 ·have q:s'.ins.n≤s.ins.n+c:=h.ins
  omega
 ·have q:s'.ex.n≤s.ex.n+d:=h.ex
  omega
theorem Dz (s:eU):dM s (iT l fuel param s) 4 2:=by
 unfold iT
 generalize (nx l s.p 14).1=t
 have G:∀ {b:Bool} {x y:eU},dM s x 4 2→dM s y 4 2→dM s (bif b then x else y) 4 2:=fun {b x y} h1 h2=>by cases b<;>assumption
 refine G (iZ param hP (QK l param hP _) (by omega) (by omega)) (G (iZ param hP (A0 l fuel param hP _) (by omega) (by omega)) (G (iZ param hP (A0 l fuel param hP _) (by omega) (by omega)) (G (iZ param hP (A0 l fuel param hP _) (by omega) (by omega)) (G (iZ param hP (O7 l fuel param hP _) (by omega) (by omega)) (G (iZ param hP (NU l fuel param hP _) (by omega) (by omega)) (G (iZ param hP (Fs l fuel param hP _) (by omega) (by omega)) (G (iZ param hP (Fs l fuel param hP _) (by omega) (by omega)) (G (iZ param hP (LW l fuel param hP _) (by omega) (by omega)) (G (iZ param hP (Db l fuel param hP _) (by omega) (by omega)) (G (iZ param hP (Db l fuel param hP _) (by omega) (by omega)) (G (iZ param hP (PA l fuel param hP _) (by omega) (by omega)) (G (iZ param hP (PW l fuel param hP _) (by omega) (by omega)) (iZ param hP (PN l fuel param hP _) (by omega) (by omega))))))))))))))
end
open Go Go.V
noncomputable def an3 (l:Sq Int) (ds:List D) (rs:List ah):Out:=match ds with
 | [.c (.rt q _ _)]=>match aV rs q with
   | some (.box [.rt m a b,c,d,.sa i n,.sa j ne,.im (.v (.int .i64 fu)),.im (.v (.int .i64 pa))])=>match aV rs m,aV rs i,aV rs j with
     | some (.box [y,.im (.v (.int .i64 p))]),some (.arr _ _ k get),some (.arr _ _ ke ge)=>
       (.t [],[(m,.box [y,.im (iI (iT l fu pa.toNat ⟨p.toNat,⟨k,fun t=>jo (get t)⟩,⟨ke,fun t=>o6 (ge t)⟩⟩).p)]),(q,.box [.rt m a b,c,d,.sa (rs.length+1) (iT l fu pa.toNat ⟨p.toNat,⟨k,fun t=>jo (get t)⟩,⟨ke,fun t=>o6 (ge t)⟩⟩).ins.n,.sa rs.length (iT l fu pa.toNat ⟨p.toNat,⟨k,fun t=>jo (get t)⟩,⟨ke,fun t=>o6 (ge t)⟩⟩).ex.n,.im (iI fu),.im (iI pa)]),(i,.dead),(j,.dead)],
        [l6 (iT l fu pa.toNat ⟨p.toNat,⟨k,fun t=>jo (get t)⟩,⟨ke,fun t=>o6 (ge t)⟩⟩).ex,dJ (iT l fu pa.toNat ⟨p.toNat,⟨k,fun t=>jo (get t)⟩,⟨ke,fun t=>o6 (ge t)⟩⟩).ins])
     | _,_,_=>uX
   | _=>uX
 | _=>uX
noncomputable def aj7 (l:Sq Int) (sn:Sq aj→aj→Sq aj) (sx:Sq ai→ai→Sq ai) (f:FuncId) (ds:List D) (rs:List ah):Out:=match f with
 | 22=>an3 l ds rs
 | f=>F67 l sn sx f ds rs
noncomputable def Fg (l:Sq Int) (sn:Sq aj→aj→Sq aj) (sx:Sq ai→ai→Sq ai):hX:={ F:=aj7 l sn sx,W:=W67 l,S:=TA }
noncomputable def Ls:ah:=.box [.im (iI 0),.im (iI 0),.im (.v (.slice .none 0 0)),.im (.v (.slice .none 0 0))]
noncomputable def xB:Sq ai:=dx ⟨dx ⟨0,0,dx 0⟩,dx zV,0⟩
noncomputable def qW:Sq aj:=dx zI
noncomputable section
def pI (k:Nat):aj:={ dt 1 0 0 0 0 (-1) with k:=⟨3,(k:Int),⟨⟨[]⟩⟩⟩ }
def Od:Nat→Nat→Sq aj→Sq aj
 | 0,_,s=>s
 | m+1,k,s=>Od m (k+1) (cx s (pI k))
def yC (l:Sq Int) (ins:Sq aj):Nat→Nat→Nat→Sq Int→Sq Int
 | 0,_,_,h=>h
 | m+1,k,p,h=>bif (nx l p 2).1==0 then yC l ins m (k+1) (nx l p 2).2 (dK h ⟨1,fun _=>(k:Int)⟩) else yC l ins m (k+1) (vl l (nx l p 2).2 ins).2 (dK h ⟨1,fun _=>(vl l (nx l p 2).2 ins).1⟩)
def Wb (s:eU) (h:Sq Int):ae:=⟨⟨0,0⟩,cx s.ins { dt 20 0 0 0 0 (-1) with args:=h },s.ex⟩
def uY (l:Sq Int) (fuel:Int) (param:Nat) (s:eU):ae:=bif (nx l s.p 6).1==0 then ⟨⟨0,0⟩,cx s.ins (dt 21 0 0 0 0 (s.ex.n:Int)),cG s.ex (lv l (nx l s.p 6).2 s.ins fuel param).1⟩ else Wb s (yC l s.ins param 0 (nx l s.p 6).2 (dx 0))
def Uu (l:Sq Int) (fuel:Int) (param:Nat):Nat→eU→eU
 | 0,s=>s
 | m+1,s=>Uu l fuel param m (iT l fuel param s)
def Uo (l:Sq Int) (fuel:Int) (param:Nat) (p:Nat) (ins:Sq aj) (ex:Sq ai):eU:=⟨(nx l (lv l p ins 0 param).2 14).2,cx ins (dt 18 0 0 0 fuel (ex.n:Int)),cG ex (lv l p ins 0 param).1⟩
def Qq (l:Sq Int) (param:Nat) (p:Nat) (ins:Sq aj) (ex:Sq ai):ae:=
 uY l (1+(nx l p 4).1) param (Uu l (1+(nx l p 4).1) param (nx l (lv l (nx l p 4).2 ins 0 param).2 14).1.toNat (Uo l (1+(nx l p 4).1) param (nx l p 4).2 ins ex))
def made (l:Sq Int):ae:=Qq l (1+(nx l 0 4).1.toNat) (nx l 0 4).2 (Od (1+(nx l 0 4).1.toNat) 0 qW) xB
end
def oR:Nat→Bool:=fun i=>Nat.beq i 4||Nat.beq i 7||Nat.beq i 16||Nat.beq i 19||Nat.beq i 26||Nat.beq i 31
theorem am6:Fn 6:=⟨by kernel_rfl,by kernel_rfl⟩
noncomputable abbrev Fy:List C:=[(ci 0),(ci 0),b6,b6]
noncomputable abbrev eb:ah:=.box Fy
theorem ar9 (L:LP) (QD:D→Prop) (sn:Sq aj→aj→Sq aj) (sx:Sq ai→ai→Sq ai) (l:Sq Int) (h:(WC 19 [(.c (.rt 1 0 0)),(int 4)] [eb,(.box [(.im (.sl 1 l.1 (fun i=>b8 (l.2 i)))),(ci 0)]),(.box [(.rt 1 0 0),(ci 0),(ci 0),b6,b6,(ci 0),(ci 0)])] (int ((nx l 0 4).1)) 1 (aE l ((nx l 0 4).2))∧L (ag 6 4) ⟨[dW,cN,vX],[eb,(aE l ((nx l 0 4).2)),(.box [(.rt 1 0 0),(ci 0),(ci 0),b6,b6,(ci 0),(ci (IntKind.i64.wrap (1+(nx l 0 4).1)))])],[]⟩)):fS (Fg l sn sx) 6 oR L (aZ QD) [eT 1 b8 l] []:=Eq.mp (by kernel_rfl) h
noncomputable abbrev jn:gF:=(3,.c (.rt 2 0 0),[])
noncomputable def Cr (sn:Sq aj→aj→Sq aj) (sx:Sq ai→ai→Sq ai) (l:Sq Int) (p:Nat) (ins:Sq aj) (aa:Sq ai) (param k:Nat):VS:=⟨[ki,jn,(4,int k,[])],[Ls,aE l p,bf 1 3 ins.n 4 aa.n 0 param,dJ ins,l6 aa],[]⟩
noncomputable abbrev HM (ax:Sq Int) (aF:Nat) (aR:Sq aj) (bZ:Sq ai) (ct:Nat):List ah:=[eb,(aE ax aF),(bf 1 3 aR.1 4 bZ.1 0 (↑ct:Int)),(bD aR),(bU bZ)]
noncomputable abbrev Uq (ax:Sq Int) (aF:Nat) (aR:Sq aj→aj→Sq aj) (bZ:Sq aj) (ct:Nat) (dX:Sq ai) (eR:Nat):List ah:=[eb,(aE ax aF),(bf 1 5 ((aR bZ { op:=Int.ofNat 1,a:=Int.ofNat 0,b:=Int.ofNat 0,c:=Int.ofNat 0,n:=Int.ofNat 0,args:={ n:=0,get:=fun x=>Int.ofNat 0 },k:={ kind:=Int.ofNat 3,n:=Int.ofNat ct,s:={ data:={ toList:=[] } } },names:={ n:=0,get:=fun x=>{ data:={ toList:=[] } } },place:={ fn:=Int.ofNat 0,line:=Int.ofNat 0 },exit:=Int.negSucc 0,once:=false }).1) 4 dX.1 0 (↑eR:Int)),.dead,(bU dX),(.arr 40 14 ((aR bZ { op:=Int.ofNat 1,a:=Int.ofNat 0,b:=Int.ofNat 0,c:=Int.ofNat 0,n:=Int.ofNat 0,args:={ n:=0,get:=fun x=>Int.ofNat 0 },k:={ kind:=Int.ofNat 3,n:=Int.ofNat ct,s:={ data:={ toList:=[] } } },names:={ n:=0,get:=fun x=>{ data:={ toList:=[] } } },place:={ fn:=Int.ofNat 0,line:=Int.ofNat 0 },exit:=Int.negSucc 0,once:=false }).1) (fun i=>cy ((aR bZ { op:=Int.ofNat 1,a:=Int.ofNat 0,b:=Int.ofNat 0,c:=Int.ofNat 0,n:=Int.ofNat 0,args:={ n:=0,get:=fun x=>Int.ofNat 0 },k:={ kind:=Int.ofNat 3,n:=Int.ofNat ct,s:={ data:={ toList:=[] } } },names:={ n:=0,get:=fun x=>{ data:={ toList:=[] } } },place:={ fn:=Int.ofNat 0,line:=Int.ofNat 0 },exit:=Int.negSucc 0,once:=false }).2 i)))]
theorem MR (L:LP) (QD:D→Prop) (sn:Sq aj→aj→Sq aj) (sx:Sq ai→ai→Sq ai) (l:Sq Int) (p:Nat) (ins:Sq aj) (aa:Sq ai) (param k:Nat) (h:br (decide ((↑k:Int)<(↑param:Int))) ((LC 20 [(.c (.rt 2 0 0)),(.a [(ci 1),(ci 0),(ci 0),(ci 0),(ci 0),b6,(ci 3),(ci (↑k:Int)),dk,b6,(ci 0),(ci 0),(ci (-1)),fK])] (HM l p ins aa param) (ep ins) (Uq l p sn ins k aa param)∧L (ag 6 4) ⟨[dW,cN,(4,((int (IntKind.i64.wrap ((↑k:Int)+1))),[]))],(Uq l p sn ins k aa param),[]⟩)) (L (ag 6 7) ⟨[dW,cN,(4,((int (↑k:Int)),[])),(29,((bool false),[]))],(HM l p ins aa param),[]⟩)):dq (Fg l sn sx) 6 oR L (aZ QD) 4 (Cr sn sx l p ins aa param k):=Eq.mp (by kernel_rfl) h
noncomputable def HJ (sn:Sq aj→aj→Sq aj) (sx:Sq ai→ai→Sq ai) (l:Sq Int) (p:Nat) (ins:Sq aj) (aa:Sq ai) (param:Nat):VS:=⟨[ki,jn],[Ls,aE l p,bf 1 3 ins.n 4 aa.n 0 param,dJ ins,l6 aa],[]⟩
noncomputable abbrev yp:List D:=[(.c (.rt 2 0 0))]
noncomputable abbrev xk (ax:Sq ai→ai→Sq ai) (aF:Sq ai) (aR:Sq Int) (bZ:Nat) (ct:Sq aj) (dX:Nat):ah:=.arr 73 3 ((ax aF (lv aR (nx aR bZ 4).2 ct 0 dX).1).1) (fun i=>dS ((ax aF (lv aR (nx aR bZ 4).2 ct 0 dX).1).2 i))
noncomputable abbrev mf:gF:=(5,((.c (.rt 5 0 0)),[]))
theorem VF (L:LP) (QD:D→Prop) (sn:Sq aj→aj→Sq aj) (sx:Sq ai→ai→Sq ai) (l:Sq Int) (p:Nat) (ins:Sq aj) (aa:Sq ai) (param:Nat) (h:(WC 19 [(.c (.rt 1 0 0)),(int 4)] (HM l p ins aa param) (int ((nx l p 4).1)) 1 (aE l ((nx l p 4).2))∧(LC 21 yp [eb,(aE l ((nx l p 4).2)),(bf 1 3 ins.1 4 aa.1 0 (↑param:Int)),(bD ins),(bU aa),(.box (iC 18 0 0 0 (cE (I.v (Value.int IntKind.i64 (IntKind.i64.wrap (1+(nx l p 4).1))))) 0))] (iY aa) [eb,(aE l ((lv l (nx l p 4).2 ins 0 param).2)),(bf 1 3 ins.1 6 ((sx aa (lv l (nx l p 4).2 ins 0 param).1).1) 0 (↑param:Int)),(bD ins),.dead,(.box (iC 18 0 0 0 (cE (I.v (Value.int IntKind.i64 (IntKind.i64.wrap (1+(nx l p 4).1))))) 0)),(xk sx aa l p ins param)]∧(LC 20 [(.c (.rt 2 0 0)),(.a (iC 18 0 0 0 (cE (I.v (Value.int IntKind.i64 (IntKind.i64.wrap (1+(nx l p 4).1))))) (Int.ofNat aa.1)))] [eb,(aE l ((lv l (nx l p 4).2 ins 0 param).2)),(bf 1 3 ins.1 6 ((sx aa (lv l (nx l p 4).2 ins 0 param).1).1) (IntKind.i64.wrap (1+(nx l p 4).1)) (↑param:Int)),(bD ins),.dead,(.box (iC 18 0 0 0 (cE (I.v (Value.int IntKind.i64 (IntKind.i64.wrap (1+(nx l p 4).1))))) (Int.ofNat aa.1))),(xk sx aa l p ins param)] (ep ins) [eb,(aE l ((lv l (nx l p 4).2 ins 0 param).2)),(bf 1 7 ((sn ins (dt 18 0 0 0 (cE (I.v (Value.int IntKind.i64 (IntKind.i64.wrap (1+(nx l p 4).1))))) (Int.ofNat aa.1))).1) 6 ((sx aa (lv l (nx l p 4).2 ins 0 param).1).1) (IntKind.i64.wrap (1+(nx l p 4).1)) (↑param:Int)),.dead,.dead,(.box (iC 18 0 0 0 (cE (I.v (Value.int IntKind.i64 (IntKind.i64.wrap (1+(nx l p 4).1))))) (Int.ofNat aa.1))),(xk sx aa l p ins param),(.arr 40 14 ((sn ins (dt 18 0 0 0 (cE (I.v (Value.int IntKind.i64 (IntKind.i64.wrap (1+(nx l p 4).1))))) (Int.ofNat aa.1))).1) (fun i=>cy ((sn ins (dt 18 0 0 0 (cE (I.v (Value.int IntKind.i64 (IntKind.i64.wrap (1+(nx l p 4).1))))) (Int.ofNat aa.1))).2 i)))]∧(WC 19 [(.c (.rt 1 0 0)),(int 14)] [eb,(aE l ((lv l (nx l p 4).2 ins 0 param).2)),(bf 1 7 ((sn ins (dt 18 0 0 0 (cE (I.v (Value.int IntKind.i64 (IntKind.i64.wrap (1+(nx l p 4).1))))) (Int.ofNat aa.1))).1) 6 ((sx aa (lv l (nx l p 4).2 ins 0 param).1).1) (IntKind.i64.wrap (1+(nx l p 4).1)) (↑param:Int)),.dead,.dead,(.box (iC 18 0 0 0 (cE (I.v (Value.int IntKind.i64 (IntKind.i64.wrap (1+(nx l p 4).1))))) (Int.ofNat aa.1))),(xk sx aa l p ins param),(.arr 40 14 ((sn ins (dt 18 0 0 0 (cE (I.v (Value.int IntKind.i64 (IntKind.i64.wrap (1+(nx l p 4).1))))) (Int.ofNat aa.1))).1) (fun i=>cy ((sn ins (dt 18 0 0 0 (cE (I.v (Value.int IntKind.i64 (IntKind.i64.wrap (1+(nx l p 4).1))))) (Int.ofNat aa.1))).2 i)))] (int ((nx l (lv l (nx l p 4).2 ins 0 param).2 14).1)) 1 (aE l ((nx l (lv l (nx l p 4).2 ins 0 param).2 14).2))∧L (ag 6 16) ⟨[dW,cN,mf,(7,((int ((nx l (lv l (nx l p 4).2 ins 0 param).2 14).1)),[])),oN],[eb,(aE l ((nx l (lv l (nx l p 4).2 ins 0 param).2 14).2)),(bf 1 7 ((sn ins (dt 18 0 0 0 (cE (I.v (Value.int IntKind.i64 (IntKind.i64.wrap (1+(nx l p 4).1))))) (Int.ofNat aa.1))).1) 6 ((sx aa (lv l (nx l p 4).2 ins 0 param).1).1) (IntKind.i64.wrap (1+(nx l p 4).1)) (↑param:Int)),.dead,.dead,(.box (iC 18 0 0 0 (cE (I.v (Value.int IntKind.i64 (IntKind.i64.wrap (1+(nx l p 4).1))))) (Int.ofNat aa.1))),(xk sx aa l p ins param),(.arr 40 14 ((sn ins (dt 18 0 0 0 (cE (I.v (Value.int IntKind.i64 (IntKind.i64.wrap (1+(nx l p 4).1))))) (Int.ofNat aa.1))).1) (fun i=>cy ((sn ins (dt 18 0 0 0 (cE (I.v (Value.int IntKind.i64 (IntKind.i64.wrap (1+(nx l p 4).1))))) (Int.ofNat aa.1))).2 i)))],[]⟩))))):dq (Fg l sn sx) 6 oR L (aZ QD) 7 (HJ sn sx l p ins aa param):=Eq.mp (by kernel_rfl) h
noncomputable abbrev Bo:gF:=(5,.c (.rt 5 0 0),[])
noncomputable def vD (sn:Sq aj→aj→Sq aj) (sx:Sq ai→ai→Sq ai) (l:Sq Int) (p:Nat) (ins:Sq aj) (aa:Sq ai) (fuel:Int) (param:Nat) (x:aj) (steps k:Nat):VS:=⟨[ki,jn,Bo,(7,int steps,[]),(8,int k,[])],[Ls,aE l p,bf 1 3 ins.n 4 aa.n fuel param,dJ ins,l6 aa,.box (lift (aT x))],[]⟩
noncomputable abbrev nq (ax:Sq aj) (aF:Sq ai) (aR:Int) (bZ:Nat):ah:=bf 1 3 ax.1 4 aF.1 aR (↑bZ:Int)
noncomputable abbrev Ct (ax:Sq Int) (aF:Nat) (aR:Sq aj) (bZ:Sq ai) (ct:Int) (dX:Nat) (eR:aj):List ah:=[eb,(aE ax aF),(nq aR bZ ct dX),(bD aR),(bU bZ),(b4 eR)]
noncomputable abbrev UL (ax:Sq Int) (aF:Int) (aR bZ:Nat) (ct:Sq aj) (dX:Sq ai) (eR:aj):List ah:=[eb,(aE ax ((iT ax aF aR { p:=bZ,ins:=ct,ex:=dX }).p)),(bf 1 7 ((iT ax aF aR { p:=bZ,ins:=ct,ex:=dX }).ins.1) 6 ((iT ax aF aR { p:=bZ,ins:=ct,ex:=dX }).ex.1) aF (↑aR:Int)),.dead,.dead,(b4 eR),(.arr 73 3 ((iT ax aF aR { p:=bZ,ins:=ct,ex:=dX }).ex.1) (fun i=>dS ((iT ax aF aR { p:=bZ,ins:=ct,ex:=dX }).ex.2 i))),(.arr 40 14 ((iT ax aF aR { p:=bZ,ins:=ct,ex:=dX }).ins.1) (fun i=>cy ((iT ax aF aR { p:=bZ,ins:=ct,ex:=dX }).ins.2 i)))]
theorem JR (L:LP) (QD:D→Prop) (sn:Sq aj→aj→Sq aj) (sx:Sq ai→ai→Sq ai) (l:Sq Int) (p:Nat) (ins:Sq aj) (aa:Sq ai) (fuel:Int) (param:Nat) (x:aj) (steps k:Nat) (h:br (decide ((↑k:Int)<(↑steps:Int))) ((LC 22 yp (Ct l p ins aa fuel param x) (.t []) (UL l fuel param p ins aa x)∧L (ag 6 16) ⟨[dW,cN,mf,(7,((oA steps),[])),(8,((int (IntKind.i64.wrap ((↑k:Int)+1))),[]))],(UL l fuel param p ins aa x),[]⟩)) (L (ag 6 19) ⟨[dW,cN,mf,(7,((oA steps),[])),(8,((int (↑k:Int)),[])),(75,((bool false),[]))],(Ct l p ins aa fuel param x),[]⟩)):dq (Fg l sn sx) 6 oR L (aZ QD) 16 (vD sn sx l p ins aa fuel param x steps k):=Eq.mp (by kernel_rfl) h
noncomputable def AD (sn:Sq aj→aj→Sq aj) (sx:Sq ai→ai→Sq ai) (l:Sq Int) (p:Nat) (ins:Sq aj) (aa:Sq ai) (fuel:Int) (param:Nat) (x:aj):VS:=⟨[ki,jn,Bo],[Ls,aE l p,bf 1 3 ins.n 4 aa.n fuel param,dJ ins,l6 aa,.box (lift (aT x))],[]⟩
noncomputable abbrev HY (ax:Sq ai→ai→Sq ai) (aF:Sq ai) (aR:Sq Int) (bZ:Nat) (ct:Sq aj) (dX:Int) (eR:Nat):ah:=.arr 73 3 ((ax aF (lv aR (nx aR bZ 6).2 ct dX eR).1).1) (fun i=>dS ((ax aF (lv aR (nx aR bZ 6).2 ct dX eR).1).2 i))
theorem QJ (L:LP) (QD:D→Prop) (sn:Sq aj→aj→Sq aj) (sx:Sq ai→ai→Sq ai) (l:Sq Int) (p:Nat) (ins:Sq aj) (aa:Sq ai) (fuel:Int) (param:Nat) (x:aj) (h:(WC 19 [(.c (.rt 1 0 0)),(int 6)] (Ct l p ins aa fuel param x) (int ((nx l p 6).1)) 1 (aE l ((nx l p 6).2))∧br ((nx l p 6).1==0) ((LC 21 yp [eb,(aE l ((nx l p 6).2)),(nq ins aa fuel param),(bD ins),(bU aa),(.box (iC 21 0 0 0 0 0))] (iY aa) [eb,(aE l ((lv l (nx l p 6).2 ins fuel param).2)),(bf 1 3 ins.1 6 ((sx aa (lv l (nx l p 6).2 ins fuel param).1).1) fuel (↑param:Int)),(bD ins),.dead,(.box (iC 21 0 0 0 0 0)),(HY sx aa l p ins fuel param)]∧(LC 20 [(.c (.rt 2 0 0)),(.a (iC 21 0 0 0 0 (Int.ofNat aa.1)))] [eb,(aE l ((lv l (nx l p 6).2 ins fuel param).2)),(bf 1 3 ins.1 6 ((sx aa (lv l (nx l p 6).2 ins fuel param).1).1) fuel (↑param:Int)),(bD ins),.dead,(.box (iC 21 0 0 0 0 (Int.ofNat aa.1))),(HY sx aa l p ins fuel param)] (ep ins) [eb,(aE l ((lv l (nx l p 6).2 ins fuel param).2)),(bf 1 7 ((sn ins (dt 21 0 0 0 0 (Int.ofNat aa.1))).1) 6 ((sx aa (lv l (nx l p 6).2 ins fuel param).1).1) fuel (↑param:Int)),.dead,.dead,(.box (iC 21 0 0 0 0 (Int.ofNat aa.1))),(HY sx aa l p ins fuel param),(.arr 40 14 ((sn ins (dt 21 0 0 0 0 (Int.ofNat aa.1))).1) (fun i=>cy ((sn ins (dt 21 0 0 0 0 (Int.ofNat aa.1))).2 i)))]∧QD (.a (lift (cB ({ place:={ fn:=Int.ofNat 0,line:=Int.ofNat 0 },ins:=sn ins (dt 21 0 0 0 0 (Int.ofNat aa.1)),aa:=sx aa (lv l (nx l p 6).2 ins fuel param).1 }))))))) (L (ag 6 26) ⟨[dW,cN,mf,(9,((int 0),[]))],[eb,(aE l ((nx l p 6).2)),(nq ins aa fuel param),(bD ins),(bU aa),(.box (iC 20 0 0 0 0 (-1)))],[]⟩))):dq (Fg l sn sx) 6 oR L (aZ QD) 19 (AD sn sx l p ins aa fuel param x):=Eq.mp (by kernel_rfl) h
noncomputable def rT (sn:Sq aj→aj→Sq aj) (sx:Sq ai→ai→Sq ai) (l:Sq Int) (p:Nat) (ins:Sq aj) (aa:Sq ai) (fuel:Int) (param:Nat) (hq:Sq Int) (k:Nat):VS:=⟨[ki,jn,Bo,(9,int k,[])],[Ls,aE l p,bf 1 3 ins.n 4 aa.n fuel param,dJ ins,l6 aa,.box [.im (iI 20),.im (iI 0),.im (iI 0),.im (iI 0),.im (iI 0),.sa 6 hq.n,.im (iI 0),.im (iI 0),.im (iS ⟨⟨[]⟩⟩),.im (.v (.slice none 0 0)),.im (iI 0),.im (iI 0),.im (iI (-1)),.im (iB false)],.arr 3 1 hq.n (fun i=>b8 (hq.get i))],[]⟩
noncomputable abbrev IK (ax:Sq Int):ah:=.box [(ci 20),(ci 0),(ci 0),(ci 0),(ci 0),(.sa 6 ax.1),(ci 0),(ci 0),dk,b6,(ci 0),(ci 0),(ci (-1)),fK]
theorem Jn (L:LP) (QD:D→Prop) (sn:Sq aj→aj→Sq aj) (sx:Sq ai→ai→Sq ai) (l:Sq Int) (p:Nat) (ins:Sq aj) (aa:Sq ai) (fuel:Int) (param:Nat) (hq:Sq Int) (k:Nat) (h:br (decide ((↑k:Int)<(↑param:Int))) ((WC 19 [(.c (.rt 1 0 0)),(int 2)] [eb,(aE l p),(nq ins aa fuel param),(bD ins),(bU aa),(IK hq),(kJ hq)] (lX l p) 1 (aE l ((nx l p 2).2))∧br ((nx l p 2).1==0) (nd (cg (hq.1+1) 8) (nd (hq.1.beq hq.1) (L (ag 6 26) ⟨[dW,cN,mf,(9,((int (IntKind.i64.wrap ((↑k:Int)+1))),[]))],[eb,(gQ l p),(nq ins aa fuel param),(bD ins),(bU aa),(.box [(ci 20),(ci 0),(ci 0),(ci 0),(ci 0),(.sa 8 (.succ hq.1)),(ci 0),(ci 0),dk,b6,(ci 0),(ci 0),(ci (-1)),fK]),.dead,(.row 3 1 1 [(ci (↑k:Int))]),(Pp hq k)],[]⟩))) ((WC 23 yp [eb,(gQ l p),(nq ins aa fuel param),(bD ins),(bU aa),(IK hq),(kJ hq),.dead,.dead,.dead] (lg l p ins) 1 (aE l ((vl l (nx l p 2).2 ins).2))∧nd (cg (hq.1+1) 8) (nd (hq.1.beq hq.1) ((WC 23 yp [eb,(gQ l p),(nq ins aa fuel param),(bD ins),(bU aa),(IK hq),(kJ hq),.dead,.dead,.dead] (lg l p ins) 1 (aE l ((vl l (nx l p 2).2 ins).2))∧nd (cg (hq.1+1) 8) (nd (hq.1.beq hq.1) (L (ag 6 26) ⟨[dW,cN,mf,(9,((int (IntKind.i64.wrap ((↑k:Int)+1))),[]))],[eb,(oq l p ins),(nq ins aa fuel param),(bD ins),(bU aa),(.box [(ci 20),(ci 0),(ci 0),(ci 0),(ci 0),(.sa 9 (.succ hq.1)),(ci 0),(ci 0),dk,b6,(ci 0),(ci 0),(ci (-1)),fK]),.dead,.dead,(.row 3 1 1 [(ci ((vl l (nx l p 2).2 ins).1))]),(.arr 3 1 (hq.1+1) (gP hq.1 (fun i=>b8 (hq.2 i)) (1,flat 1 [I.v (Value.int IntKind.i64 (vl l (nx l p 2).2 ins).1)]).snd))],[]⟩))))))))) (L (ag 6 31) ⟨[dW,cN,mf,(9,((int (↑k:Int)),[])),(103,((bool false),[]))],[eb,(aE l p),(nq ins aa fuel param),(bD ins),(bU aa),(IK hq),(kJ hq)],[]⟩)):dq (Fg l sn sx) 6 oR L (aZ QD) 26 (rT sn sx l p ins aa fuel param hq k):=Eq.mp (by kernel_rfl) h
noncomputable def B7 (sn:Sq aj→aj→Sq aj) (sx:Sq ai→ai→Sq ai) (l:Sq Int) (p:Nat) (ins:Sq aj) (aa:Sq ai) (fuel:Int) (param:Nat) (x:aj):VS:=⟨[ki,jn,Bo],[Ls,aE l p,bf 1 3 ins.n 4 aa.n fuel param,dJ ins,l6 aa,.box (lift (aT x))],[]⟩
theorem QI (L:LP) (QD:D→Prop) (sn:Sq aj→aj→Sq aj) (sx:Sq ai→ai→Sq ai) (l:Sq Int) (p:Nat) (ins:Sq aj) (aa:Sq ai) (fuel:Int) (param:Nat) (x:aj) (h:(LC 20 [(.c (.rt 2 0 0)),(rk x)] (Ct l p ins aa fuel param x) (ep ins) [eb,(aE l p),(bf 1 6 ((sn ins x).1) 4 aa.1 fuel (↑param:Int)),.dead,(bU aa),(b4 x),(.arr 40 14 ((sn ins x).1) (fun i=>cy ((sn ins x).2 i)))]∧QD (.a (lift (cB ({ place:={ fn:=Int.ofNat 0,line:=Int.ofNat 0 },ins:=sn ins x,aa:=aa })))))):dq (Fg l sn sx) 6 oR L (aZ QD) 31 (B7 sn sx l p ins aa fuel param x):=Eq.mp (by kernel_rfl) h
theorem TB (l:Sq Int) (p:Nat) (ins:Sq aj) (aa:Sq ai) (fuel:Int) (param:Nat) (x:aj) (hI:ins.n≤1000):af 6 0 (aW (bc (⟨⟨0,0⟩,cx ins x,aa⟩))) (ag 6 31) (B7 cx cG l p ins aa fuel param x):=by
 refine aH (X:=Fg l cx cG) (stop:=oR) (QI _ _ cx cG l p ins aa fuel param x ⟨fD (m:=1) (q:=2) (i:=3) (j:=4) _ _ hI (aX.refl _) rfl (bg rfl) rfl rfl (bg rfl),?_⟩)
 exact aX.refl _
theorem Q0 (l:Sq Int) (ins:Sq aj) (aa:Sq ai) (fuel:Int) (param:Nat) (hl:l.n≤maxLen) (hI:ins.n≤1000) (hP:param≤900) (o:Sq Int):∀ k,k≤param→∀ (p:Nat) (hq:Sq Int),hq.n≤k→yC l ins (param-k) k p hq=o→af 6 0 (aW (bc (Wb ⟨0,ins,aa⟩ o))) (ag 6 26) (rT cx cG l p ins aa fuel param hq k):=by
 refine aL (fun k hk ih p hq hh ho=>?_) (fun p hq hh ho=>?_)
 ·have q:param-k=(param-(k+1))+1:=by omega
  rw [q] at ho
  refine aH (X:=Fg l cx cG) (stop:=oR) (Jn _ _ cx cG l p ins aa fuel param hq k ?_)
  rw [bR hk (cM hP (by decide))]
  refine ak (fun h3=>?_) (fun h3=>(dec_lt h3 hk).elim)
  refine ⟨fa l _ _ hl rfl,ak (fun h4=>?_) (fun h4=>?_)⟩
  ·have e:yC l ins (param-(k+1)+1) k p hq=yC l ins (param-(k+1)) (k+1) (nx l p 2).2 (dK hq ⟨1,fun _=>(k:Int)⟩):=by
    rw [show yC l ins (param-(k+1)+1) k p hq=(bif (nx l p 2).1==0 then yC l ins (param-(k+1)) (k+1) (nx l p 2).2 (dK hq ⟨1,fun _=>(k:Int)⟩) else yC l ins (param-(k+1)) (k+1) (vl l (nx l p 2).2 ins).2 (dK hq ⟨1,fun _=>(vl l (nx l p 2).2 ins).1⟩)) from rfl,show ((nx l p 2).1==0)=true from h4]; rfl
   rw [e] at ho
   refine aw (cj (by omega) (by omega)) (aw (cf _) ?_)
   exact af.rename [0,1,2,3,4,5,8] rfl (af.le (rT cx cG l (nx l p 2).2 ins aa fuel param (dK hq ⟨1,fun _=>(k:Int)⟩) (k+1)) (by repeat' (first|exact trivial|refine bV rfl ?_)) (rc (rc (rc (rc (rc (rc (.cons (Bc hq _) .nil))))))) rfl (ih _ _ (by show hq.n+1≤_; omega) ho))
  ·have e:yC l ins (param-(k+1)+1) k p hq=yC l ins (param-(k+1)) (k+1) (vl l (nx l p 2).2 ins).2 (dK hq ⟨1,fun _=>(vl l (nx l p 2).2 ins).1⟩):=by
    rw [show yC l ins (param-(k+1)+1) k p hq=(bif (nx l p 2).1==0 then yC l ins (param-(k+1)) (k+1) (nx l p 2).2 (dK hq ⟨1,fun _=>(k:Int)⟩) else yC l ins (param-(k+1)) (k+1) (vl l (nx l p 2).2 ins).2 (dK hq ⟨1,fun _=>(vl l (nx l p 2).2 ins).1⟩)) from rfl,show ((nx l p 2).1==0)=false from h4]; rfl
   rw [e] at ho
   refine ⟨gw (m:=1) (q:=2) (i:=3) (j:=4) l _ _ hl (by omega) rfl rfl rfl rfl (bg rfl),aw (cj (by omega) (by omega)) (aw (cf _) ⟨gw (m:=1) (q:=2) (i:=3) (j:=4) l _ _ hl (by omega) rfl rfl rfl rfl (bg rfl),aw (cj (by omega) (by omega)) (aw (cf _) ?_)⟩)⟩
   exact af.rename [0,1,2,3,4,5,9] rfl (af.le (rT cx cG l (vl l (nx l p 2).2 ins).2 ins aa fuel param (dK hq ⟨1,fun _=>(vl l (nx l p 2).2 ins).1⟩) (k+1)) (by repeat' (first|exact trivial|refine bV rfl ?_)) (rc (rc (rc (rc (rc (rc (.cons (Bc hq _) .nil))))))) rfl (ih _ _ (by show hq.n+1≤_; omega) ho))
 ·rw [Nat.sub_self] at ho
  refine aH (X:=Fg l cx cG) (stop:=oR) (Jn _ _ cx cG l p ins aa fuel param hq _ ?_)
  refine ak (fun h3=>bJ h3) (fun h3=>?_)
  have ho:hq=o:=ho
  subst ho
  exact af.freeze 6 rfl (af.rename [0,1,2,3,4,5] rfl (af.le (B7 cx cG l p ins aa fuel param { dt 20 0 0 0 0 (-1) with args:=hq }) (by repeat' (first|exact trivial|refine bV rfl ?_)) (rc (rc (rc (rc (rc (.cons (aJ.box (by repeat' (first|exact aB.nil|refine aB.cons ?_ ?_|exact ei.refl _|exact ei.nil _ _))) .nil)))))) rfl (TB l p ins aa fuel param _ hI)))
theorem S7 (l:Sq Int) (p:Nat) (ins:Sq aj) (aa:Sq ai) (fuel:Int) (param:Nat) (x:aj) (hl:l.n≤maxLen) (hI:ins.n≤900) (hE:aa.n≤900) (hF:0≤fuel∧fuel≤1000) (hP:param≤900):af 6 0 (aW (bc (uY l fuel param ⟨p,ins,aa⟩))) (ag 6 19) (AD cx cG l p ins aa fuel param x):=by
 refine aH (X:=Fg l cx cG) (stop:=oR) (QJ _ _ cx cG l p ins aa fuel param x ⟨fa l _ _ hl rfl,ak (fun h=>?_) (fun h=>?_)⟩)
 ·rw [show uY l fuel param ⟨p,ins,aa⟩=⟨⟨0,0⟩,cx ins (dt 21 0 0 0 0 (aa.n:Int)),cG aa (lv l (nx l p 6).2 ins fuel param).1⟩ from by unfold uY; rw [show ((nx l p 6).1==0)=true from h]; rfl]
  exact ⟨nH (m:=1) (q:=2) (i:=3) (j:=4) l _ _ _ hl (by omega) (by omega) hF (by omega) rfl rfl rfl rfl rfl,fD (m:=1) (q:=2) (i:=3) (j:=6) _ _ (by omega) (by first|exact aX.refl _|exact jq (by repeat' (first|exact aB.nil|refine aB.cons ?_ ?_|exact ei.refl _|exact ei.nil _ _))) rfl (bg rfl) rfl rfl (bg rfl),aX.refl _⟩
 ·rw [show uY l fuel param ⟨p,ins,aa⟩=Wb ⟨0,ins,aa⟩ (yC l ins param 0 (nx l p 6).2 (dx 0)) from by unfold uY; rw [show ((nx l p 6).1==0)=false from h]; rfl]
  exact af.iz 5 5 3 1 _ rfl rfl (af.le (rT cx cG l (nx l p 6).2 ins aa fuel param (dx 0) 0) (by repeat' (first|exact trivial|refine bV rfl ?_)) (rc (rc (rc (rc (rc (rc (.cons (tO 3 1 _ _) .nil))))))) rfl (Q0 l ins aa fuel param hl (by omega) hP _ 0 (bu _) _ (dx 0) (bu _) rfl))
theorem SM (l:Sq Int) (fuel:Int) (param:Nat) (x:aj) (steps:Nat) (hl:l.n≤maxLen) (hF:0≤fuel∧fuel≤1000) (hP:param≤900) (hS:steps≤1000) (o:ae):∀ k,k≤steps→∀ (p:Nat) (ins:Sq aj) (aa:Sq ai),ins.n+4*(steps-k)≤900→aa.n+2*(steps-k)≤900→uY l fuel param (Uu l fuel param (steps-k) ⟨p,ins,aa⟩)=o→af 6 0 (aW (bc (o))) (ag 6 16) (vD cx cG l p ins aa fuel param x steps k):=by
 refine aL (fun k hk ih p ins aa hI hE ho=>?_) (fun p ins aa hI hE ho=>?_)
 ·have q:steps-k=(steps-(k+1))+1:=by omega
  rw [q] at ho hI hE
  refine aH (X:=Fg l cx cG) (stop:=oR) (JR _ _ cx cG l p ins aa fuel param x steps k ?_)
  rw [bR hk (cM hS (by decide))]
  refine ak (fun h3=>?_) (fun h3=>(dec_lt h3 hk).elim)
  refine ⟨ZV (m:=1) (q:=2) (i:=3) (j:=4) l p ins aa fuel param hl (by omega) (by omega) hF (by omega) rfl rfl rfl rfl rfl,?_⟩
  have g:=Dz l fuel param hP ⟨p,ins,aa⟩
  have g1:=g.ins
  have g2:=g.ex
  exact af.rename [0,1,2,7,6,5] rfl (af.le (vD cx cG l (iT l fuel param ⟨p,ins,aa⟩).p (iT l fuel param ⟨p,ins,aa⟩).ins (iT l fuel param ⟨p,ins,aa⟩).ex fuel param x steps (k+1)) (by repeat' (first|exact trivial|refine bV rfl ?_)) (rc (rc (rc (rc (rc (rc .nil)))))) rfl (ih _ _ _ (by show _+_≤_; have g1:_≤ins.n+4:=g1; omega) (by have g2:_≤aa.n+2:=g2; omega) ho))
 ·rw [Nat.sub_self] at ho hI hE
  refine aH (X:=Fg l cx cG) (stop:=oR) (JR _ _ cx cG l p ins aa fuel param x steps _ ?_)
  refine ak (fun h3=>bJ h3) (fun h3=>?_)
  have ho:uY l fuel param ⟨p,ins,aa⟩=o:=ho
  subst ho
  exact af.le (AD cx cG l p ins aa fuel param x) (by repeat' (first|exact trivial|refine bV rfl ?_)) (rc (rc (rc (rc (rc (rc .nil)))))) rfl (S7 l p ins aa fuel param x hl (by omega) (by omega) hF hP)
theorem Vk (l:Sq Int) (p:Nat) (ins:Sq aj) (aa:Sq ai) (param:Nat) (hl:l.n≤maxLen) (hI:ins.n≤800) (hE:aa.n≤800) (hP:param≤900):af 6 0 (aW (bc (Qq l param p ins aa))) (ag 6 7) (HJ cx cG l p ins aa param):=by
 obtain ⟨d,hd,dD⟩:=l8 (l:=l) (p:=(lv l (nx l p 4).2 ins 0 param).2) (n:=14) (by omega) (by omega)
 have hf:=Im (l:=l) (p:=p) (n:=4) (by omega) (by omega)
 have hF:(0:Int)≤0∧(0:Int)≤1000:=by omega
 refine aH (X:=Fg l cx cG) (stop:=oR) (VF _ _ cx cG l p ins aa param ?_)
 rw [ir (k:=1+(nx l p 4).1) (by omega) (by omega)]
 refine ⟨fa l _ _ hl rfl,nH (m:=1) (q:=2) (i:=3) (j:=4) l _ _ _ hl (by omega) (by omega) hF (by omega) rfl rfl rfl rfl rfl,fD (m:=1) (q:=2) (i:=3) (j:=6) _ _ (by omega) (by first|exact aX.refl _|exact jq (by repeat' (first|exact aB.nil|refine aB.cons ?_ ?_|exact ei.refl _|exact ei.nil _ _))) rfl (bg rfl) rfl rfl (bg rfl),fa l _ _ hl rfl,?_⟩
 rw [show Qq l param p ins aa=uY l (1+(nx l p 4).1) param (Uu l (1+(nx l p 4).1) param d (Uo l (1+(nx l p 4).1) param (nx l p 4).2 ins aa)) from by unfold Qq; rw [hd]; rfl]
 refine af.rename [0,1,2,7,6,5] rfl (af.le (vD cx cG l (Uo l (1+(nx l p 4).1) param (nx l p 4).2 ins aa).p (Uo l (1+(nx l p 4).1) param (nx l p 4).2 ins aa).ins (Uo l (1+(nx l p 4).1) param (nx l p 4).2 ins aa).ex (1+(nx l p 4).1) param (dt 18 0 0 0 (1+(nx l p 4).1) (aa.n:Int)) d 0) ⟨⟨rfl,_,rfl,aX.refl _⟩,⟨rfl,_,rfl,aX.refl _⟩,⟨rfl,_,rfl,aX.refl _⟩,⟨rfl,_,rfl,by rw [hd]; exact aX.refl _⟩,⟨rfl,_,rfl,aX.refl _⟩,trivial⟩ (rc (rc (rc (rc (rc (.cons (aJ.box (by repeat' (first|exact aB.nil|refine aB.cons ?_ ?_|exact ei.refl _|exact ei.nil _ _))) .nil)))))) rfl (SM l _ param _ d hl (by omega) hP (by omega) _ 0 (bu _) _ _ _ (by show ins.n+1+4*(d-0)≤900; omega) (by show aa.n+1+2*(d-0)≤900; omega) rfl))
theorem WG (l:Sq Int) (p:Nat) (aa:Sq ai) (param:Nat) (hl:l.n≤maxLen) (hE:aa.n≤800) (hP:param≤500) (o:ae):∀ k,k≤param→∀ (ins:Sq aj),ins.n≤k→Qq l param p (Od (param-k) k ins) aa=o→af 6 0 (aW (bc (o))) (ag 6 4) (Cr cx cG l p ins aa param k):=by
 refine aL (fun k hk ih ins hI ho=>?_) (fun ins hI ho=>?_)
 ·have q:param-k=(param-(k+1))+1:=by omega
  rw [q] at ho
  refine aH (X:=Fg l cx cG) (stop:=oR) (MR _ _ cx cG l p ins aa param k ?_)
  rw [bR hk (cM hP (by decide))]
  refine ak (fun h3=>?_) (fun h3=>(dec_lt h3 hk).elim)
  refine ⟨fD (m:=1) (q:=2) (i:=3) (j:=4) _ (pI k) (by omega) (by first|exact aX.refl _|exact jq (by repeat' (first|exact aB.nil|refine aB.cons ?_ ?_|exact ei.refl _|exact ei.nil _ _))) rfl (bg rfl) rfl rfl (bg rfl),?_⟩
  exact af.rename [0,1,2,5,4] rfl (af.le (Cr cx cG l p (cx ins (pI k)) aa param (k+1)) (by repeat' (first|exact trivial|refine bV rfl ?_)) (rc (rc (rc (rc (rc .nil))))) rfl (ih _ (by show ins.n+1≤_; omega) ho))
 ·rw [Nat.sub_self] at ho
  refine aH (X:=Fg l cx cG) (stop:=oR) (MR _ _ cx cG l p ins aa param _ ?_)
  refine ak (fun h3=>bJ h3) (fun h3=>?_)
  have ho:Qq l param p ins aa=o:=ho
  subst ho
  exact af.le (HJ cx cG l p ins aa param) (by repeat' (first|exact trivial|refine bV rfl ?_)) (rc (rc (rc (rc (rc .nil))))) rfl (Vk l p ins aa param hl (by omega) hE (by omega))
theorem ZC (l:Sq Int) (hl:l.n≤maxLen):LC 6 [eT 1 b8 l] [] (bc (made l)) []:=by
 obtain ⟨d,hd,dD⟩:=l8 (l:=l) (p:=0) (n:=4) (by omega) (by omega)
 refine aU (X:=Fg l cx cG) (stop:=oR) am6 (bg (by kernel_rfl)) (ar9 _ _ cx cG l ⟨fa l 0 _ hl rfl,?_⟩)
 rw [hd,show IntKind.i64.wrap (1+(d:Int))=((1+d:Nat):Int) from by rw [show 1+(d:Int)=((1+d:Nat):Int) by omega,mR (by omega)]]
 rw [show made l=Qq l (1+d) (nx l 0 4).2 (Od (1+d) 0 qW) xB from by unfold made; rw [hd]; rfl]
 exact af.iz 2 3 40 14 _ rfl rfl (af.iz 2 4 73 3 _ rfl rfl (af.le (Cr cx cG l (nx l 0 4).2 qW xB (1+d) 0) (by repeat' (first|exact trivial|refine bV rfl ?_)) (rc (rc (rc (.cons (tO 40 14 _ _) (.cons (tO 73 3 _ _) .nil))))) rfl (WG l _ xB (1+d) hl (bu _) (by omega) _ 0 (bu _) qW (bu _) rfl)))
end Go.Proofs.YtghfgcfabbbbbaaDoor
namespace Go.V
noncomputable section
def Wa (l:List O):Nat→O:=List.rec (fun _=>.im (.v (.bool false))) (fun x _ ih k=>Nat.rec x (fun m _=>ih m) k) l
def CW (s:Sq Int):O:=.ar 3 1 s.n fun i=>b8 (s.get i)
def Pa (s:Sq ByteArray):O:=.ar 9 1 s.n fun i=>eD (s.get i)
def at5 (x:aj):List O:=[.im (iI x.op),.im (iI x.a),.im (iI x.b),.im (iI x.c),.im (iI x.n),CW x.args,.im (iI x.k.kind),.im (iI x.k.n),.im (iS x.k.s),Pa x.names,.im (iI x.place.fn),.im (iI x.place.line),.im (iI x.exit),.im (iB x.once)]
def j7 (x:aj):Nat→O:=Wa (at5 x)
def gN (x:eV):Nat→O:=Wa [.im (iI x.fn),.im (iI x.line),CW x.vars]
def oo (x:iR):Nat→O:=Wa [.im (iI x.value),.im (iI x.cls),Pa x.names,CW x.items]
def xb (s:Sq eV):O:=.ns 75 3 s.n fun i=>gN (s.get i)
def Ec (s:Sq iR):O:=.ns 78 4 s.n fun i=>oo (s.get i)
def iX (x:ai):Nat→O:=Wa [xb x.frames,Ec x.az,.im (iI x.back)]
def W3 (s:Sq eV):ah:=.cR 75 3 s.n (fun i=>gN (s.get i)) none
def am2 (s:Sq iR):ah:=.cR 78 4 s.n (fun i=>oo (s.get i)) none
def j5 (s:Sq aj):ah:=.cR 40 14 s.n (fun i=>j7 (s.get i)) none
def ry (s:Sq ai):ah:=.cR 73 3 s.n (fun i=>iX (s.get i)) none
def RA (s:Sq Int):ah:=.arr 3 1 s.n (fun i=>b8 (s.get i))
def ap7 (s:Sq ByteArray):ah:=.arr 9 1 s.n (fun i=>eD (s.get i))
def Mn (f:Nat→O):List Fc→Nat→Prop
 | [],_=>True
 | c::l,j=>bG c (.o (f j))∧Mn f l (j+1)
end
def qX (x y:O):Prop:=∀ (av:Nat→Prop) (base:Nat) (w:World) (K:Nat→Prop) (v:Value),fC av base w x K v→fC av base w y K v
theorem qX.refl (x:O):qX x x:=fun _ _ _ _ _ h=>h
theorem qX.im {x y:I} (h:dr x y):qX (.im x) (.im y):=fun av _ w _ v q=>h av w v q
theorem qX.ar {e sz n:Nat} {g g':Nat→Nat→I} (h:∀ i,i<n→∀ j,j<sz→dr (g i j) (g' i j)):qX (.ar e sz n g) (.ar e sz n g'):=by
 rintro av base w K v ⟨h0,xs,h1,h2⟩
 refine ⟨h0,xs,h1,fun i hi j hj=>?_⟩
 obtain ⟨x,q1,q2⟩:=h2 i hi j hj
 exact ⟨x,q1,h i hi j hj _ _ _ q2⟩
theorem qX.ns {e sz n:Nat} {g g':Nat→Nat→O} (h:∀ i,i<n→∀ j,j<sz→qX (g i j) (g' i j)):qX (.ns e sz n g) (.ns e sz n g'):=by
 rintro av base w K v ⟨h0,xs,h1,Ks,hp,h2⟩
 refine ⟨h0,xs,h1,Ks,hp,fun i hi j hj=>?_⟩
 obtain ⟨x,q1,q2⟩:=h2 i hi j hj
 exact ⟨x,q1,h i hi j hj _ _ _ _ _ q2⟩
theorem bG.o {x y:O} (h:qX x y):bG (.o x) (.o y):=fun _ av base w K v q=>h av base w K v q
theorem bG.trans {x y z:Fc} (h:bG x y) (k:bG y z):bG x z:=fun E av base w K v q=>k _ _ _ _ _ _ (h _ _ _ _ _ _ q)
theorem Jl {f:Nat→O}:∀ {l:List Fc} {j0:Nat},Mn f l j0→∀ (j:Nat) (c:Fc),l[j]?=some c→bG c (.o (f (j0+j)))
 | [],_,_,j,c,h=>by simp at h
 | x::l,j0,hf,0,c,h=>by
   simp only [List.getElem?_cons_zero,aq] at h
   subst h
   exact hf.1
 | x::l,j0,hf,j+1,c,h=>by
   have:=Jl hf.2 j c (by simpa using h)
   rwa [show j0+1+j=j0+(j+1) by omega] at this
theorem aJ.cR {el sz n:Nat} {get get':Nat→Nat→O} (h:∀ i,i<n→∀ j,j<sz→qX (get i j) (get' i j)):aJ (.cR el sz n get none) (.cR el sz n get' none):=
 ⟨fun _=>trivial,fun base E w e av q=>AX (fun x hx=>by cases hx) (fun i hi j hj c hc=>by
  simp only [gg,aq] at hc
  subst hc
  exact ⟨_,rfl,bG.o (h i hi j hj)⟩) q⟩
theorem aJ.wm {el sz n:Nat} {get:Nat→Nat→I} {get':Nat→Nat→O} (h:∀ i,i<n→∀ j,j<sz→get' i j=.im (get i j)):aJ (.arr el sz n get) (.cR el sz n get' none):=
 ⟨fun _=>trivial,fun base E w e av q=>Ju h q⟩
theorem aJ.ZG {el sz n k:Nat} {get get':Nat→Nat→O} {l:List Fc} (h:Mn (get' k) l 0) (h2:∀ i,i<n→i≠k→∀ j,j<sz→qX (get i j) (get' i j)):aJ (.cR el sz n get (some (k,l))) (.cR el sz n get' none):=
 ⟨fun _=>trivial,fun base E w e av q=>AX (fun x hx=>by cases hx) (fun i hi j hj c hc=>by
  unfold gg at hc
  cases hb:Nat.beq i k with
  | true=>
    have:=Nat.eq_of_beq_eq_true hb
    subst this
    simp only [hb,bp] at hc
    exact ⟨_,rfl,by have:=Jl h j c hc; rwa [Nat.zero_add] at this⟩
  | false=>
    simp only [hb,aq] at hc
    subst hc
    exact ⟨_,rfl,bG.o (h2 i hi (fun e=>by subst e; rw [cf] at hb; cases hb) j hj)⟩) q⟩
theorem aJ.GQ {el sz n k:Nat} {get:Nat→Nat→O} {l:List Fc} (h:Mn (get k) l 0):aJ (.cR el sz n get (some (k,l))) (.cR el sz n get none):=aJ.ZG h fun _ _ _ _ _=>qX.refl _
theorem aJ.own {L L':List O} (h:aB qX L L'):aJ (.own L) (.own L'):=⟨fun _=>trivial,by
 rintro base E w e av ⟨p1,p2,vs,p3,p4,Ks,p5,p6,p7⟩
 refine ⟨p1,fun q=>?_,vs,p3,by rw [p4,h.length],Ks,p5,p6,fun i o ho=>?_⟩
 ·subst q
  cases h
  exact p2 rfl
 ·have hi:i<L.length:=by rw [h.length]; exact (List.getElem?_eq_some_iff.1 ho).1
  have hx:=eY hi
  obtain ⟨v,g1,g2⟩:=p7 i _ hx
  exact ⟨v,g1,h.get hx ho _ _ _ _ _ g2⟩⟩
end Go.V
namespace Go.Proofs.YtghfgcfabbbbbaaDoor
open Go Go.V
section
variable {f:FuncId} {n0:Nat} {Q:D→List ah→Prop} {todo:List Item} {s:VS}
theorem af.focus (r k:Nat) {el sz n:Nat} {get:Nat→Nat→O} (hr:aV s.rs r=some (.cR el sz n get none)) (hk:k<n)
  (g:af f n0 Q todo ⟨s.sl,setAt s.rs r (.cR el sz n get (some (k,Cc (get k) sz 0))),s.df⟩):af f n0 Q todo s:=
 fun b cs hb=>Goal.focus hr hk (g b cs hb)
theorem af.open (r j:Nat) {k el sz n:Nat} {get:Nat→Nat→O} {l:List Fc} {x:O} (hr:aV s.rs r=some (.cR el sz n get (some (k,l)))) (hj:aV l j=some (.o x)) (hx:(gG x).live)
  (g:af f n0 Q todo ⟨s.sl,setAt s.rs r (.cR el sz n get (some (k,setAt l j (.c (.sa s.rs.length (kM x))))))++[gG x],s.df⟩):af f n0 Q todo s:=
 fun b cs hb=>Goal.open hr hj hx (g b cs hb)
theorem af.close (r j q:Nat) {m k el sz n:Nat} {get:Nat→Nat→O} {l:List Fc} {x:ah} {o:O} (hr:aV s.rs r=some (.cR el sz n get (some (k,l)))) (hj:aV l j=some (.c (.sa q m))) (hq:aV s.rs q=some x) (ho:K8 x=some o) (hm:m=kM o) (KN:Nat.beq r q=false)
  (g:af f n0 Q todo ⟨s.sl,setAt (setAt s.rs q .dead) r (.cR el sz n get (some (k,setAt l j (.o o)))),s.df⟩):af f n0 Q todo s:=
 fun b cs hb=>Goal.close hr hj hq ho hm (fun e=>by rw [e,cf] at KN; cases KN) (g b cs hb)
theorem af.split (r q:Nat) {k el sz n:Nat} {get:Nat→Nat→O} {l:List Fc} {L:List O} (hr:aV s.rs r=some (.cR el sz n get (some (k,l)))) (hq:aV s.rs q=some (.own L)) (hL:∀ o∈L,(gG o).live)
  (g:af f n0 Q todo ⟨s.sl,setAt (setAt s.rs q .dead++L.map gG) r (.cR el sz n get (some (k,l.map (Kt q s.rs.length L)))),s.df⟩):af f n0 Q todo s:=
 fun b cs hb=>Goal.split hr hq hL (g b cs hb)
theorem af.T8 (r p q:Nat) {o o':O} {x x':ah} (hp:aV s.rs p=some x) (ho:K8 x=some o) (hq:aV s.rs q=some x') (Pc:K8 x'=some o') (hpq:Nat.beq p q=false) (hrp:Nat.beq r p=false) (KN:Nat.beq r q=false) {l l':List C} (hr:aV s.rs r=some (.box l)) (hl:aB (Qz s.rs.length [p,q] [o,o']) l l')
  (g:af f n0 Q todo ⟨s.sl,setAt (setAt (setAt s.rs p .dead) q .dead++[.own [o,o']]) r (.box l'),s.df⟩):af f n0 Q todo s:=
 fun b cs hb=>by
  have npq:p≠q:=fun e=>by rw [e,cf] at hpq; cases hpq
  have nrp:r≠p:=fun e=>by rw [e,cf] at hrp; cases hrp
  have nrq:r≠q:=fun e=>by rw [e,cf] at KN; cases KN
  rw [bT] at hp hq hr
  have zm:=(List.getElem?_eq_some_iff.1 hp).1
  have hql:=(List.getElem?_eq_some_iff.1 hq).1
  refine Goal.pack (ps:=[p,q]) (L:=[o,o']) (by simp) (.cons ⟨x,hp,ho⟩ (.cons ⟨x',hq,Pc⟩ .nil)) ?_ (fT:=setAt (setAt s.rs p .dead) q .dead) (by simp [aQ]) ?_ (r:=r) (l:=l) ?_ hl (g b cs hb)
  ·intro i j z h1 h2
   match i,j,h1,h2 with
   | 0,0,_,_=>rfl
   | 1,1,_,_=>rfl
   | 0,1,h1,h2=>simp at h1 h2; exact (npq (h1.trans h2.symm)).elim
   | 1,0,h1,h2=>simp at h1 h2; exact (npq (h2.trans h1.symm)).elim
   | i+2,_,h1,_=>simp at h1
   | 0,j+2,_,h2=>simp at h2
   | 1,j+2,_,h2=>simp at h2
  ·intro i y h1 h2
   rw [aQ,aQ,dP,dP] at h1
   split at h1
   ·split at h1
    ·simp only [aq] at h1; subst h1; exact h2.elim
    ·simp at h1
   ·rename_i hiq
    split at h1
    ·first
     | (simp only [aq] at h1; subst h1; exact h2.elim)
     | (split at h1
        ·simp only [aq] at h1; subst h1; exact h2.elim
        ·simp at h1)
    ·rename_i hip
     refine ⟨h1,fun hm=>?_⟩
     simp only [List.mem_cons,List.not_mem_nil,or_false] at hm
     rcases hm with e|e
     ·exact hip e.symm
     ·exact hiq e.symm
  ·rw [aQ,aQ,dP,if_neg (fun e=>nrq e.symm),dP,if_neg (fun e=>nrp e.symm)]; exact hr
end
theorem jG (n:Nat) (ps:List Nat) (L:List O) (c:C):Qz n ps L c c:=.inl rfl
theorem CM {n:Nat} {ps:List Nat} {L:List O} (i p m:Nat) {o:O} (h1:ps[i]?=some p) (h2:L[i]?=some o) (hm:m=kM o):Qz n ps L (.sa p m) (.ow n i):=.inr ⟨i,p,o,by rw [hm],h1,h2,rfl⟩
open Go Go.V
noncomputable def X84:hX:={ F:=Qr }
noncomputable section
def Eu (x:aj) (q:Nat):List C:=[(.im (iI x.op)),(.im (iI x.a)),(.im (iI x.b)),(.im (iI x.c)),(.im (iI x.n)),(.ow q 0),(.im (iI x.k.kind)),(.im (iI x.k.n)),(.im (iS x.k.s)),(.ow q 1),(.im (iI x.place.fn)),(.im (iI x.place.line)),(.im (iI x.exit)),(.im (iB x.once))]
end
def Th:Nat→Bool:=fun i=>Nat.beq i 4
theorem at7:Fn 36:=⟨by kernel_rfl,by kernel_rfl⟩
noncomputable abbrev l5:gF:=(2,((.c (.rt 1 0 0)),[]))
theorem aj3 (L:LP) (QE:D→List ah→Prop) (x:aj) (h:nd (cg (0+x.6.1) 8) (nd (cg (0+x.8.1) 16) (L (ag 36 4) ⟨[l5,cN],[(b4 x),(.box (iC 0 0 0 0 0 0)),(.box [(ci x.1),(ci x.2),(ci x.3),(ci x.4),(ci x.5),(.sa 4 (0+x.6.1)),(ci x.7.1),(ci x.7.2),(.im (.v (.string x.7.3))),(.sa 6 (0+x.8.1)),(ci x.9.1),(ci x.9.2),(ci x.10),(ma x)]),.dead,(.arr 3 1 (0+x.6.1) (gP 0 oJ (x.6.1,fun i=>b8 (x.6.2 i)).snd)),.dead,(.arr 9 1 (0+x.8.1) (gP 0 oJ (x.8.1,fun i=>eD (x.8.2 i)).snd))],[]⟩))):fS X84 36 Th L QE [gT x] []:=Eq.mp (by kernel_rfl) h
noncomputable abbrev tk:gF:=(2,.c (.rt 1 0 0),[])
noncomputable def ML (x:aj)  : VS:=⟨[tk,jn],[.box (lift (aT x)),.box (iC 0 0 0 0 0 0),.box (Eu x 3),.own [CW x.args,Pa x.names]],[]⟩
theorem WO (L:LP) (QE:D→List ah→Prop) (x:aj)  (h:QE (.a [(ci x.1),(ci x.2),(ci x.3),(ci x.4),(ci x.5),(.ow 3 0),(ci x.7.1),(ci x.7.2),(.im (.v (.string x.7.3))),(.ow 3 1),(ci x.9.1),(ci x.9.2),(ci x.10),(.im (.v (.bool x.11)))]) [(.box (lift (aT (x)))),(.box [(ci x.1),(ci x.2),(ci x.3),(ci x.4),(ci x.5),(.ow 3 0),(ci x.7.1),(ci x.7.2),(.im (.v (.string x.7.3))),(.ow 3 1),(ci x.9.1),(ci x.9.2),(ci x.10),(.im (.v (.bool x.11)))]),(.box [(ci x.1),(ci x.2),(ci x.3),(ci x.4),(ci x.5),(.ow 3 0),(ci x.7.1),(ci x.7.2),(.im (.v (.string x.7.3))),(.ow 3 1),(ci x.9.1),(ci x.9.2),(ci x.10),(.im (.v (.bool x.11)))]),(.own [(.ar 3 1 x.6.1 (fun i=>b8 (x.6.2 i))),(.ar 9 1 x.8.1 (fun i=>eD (x.8.2 i)))])]):dq X84 36 Th L QE 4 (ML x ):=Eq.mp (by kernel_rfl) h
set_option maxHeartbeats 4000000 in
theorem ZW (x:aj) (hr:cg x.args.n 8=true) (hs:cg x.names.n 16=true):LC 36 [gT x] [] (.a (Eu x 0)) [.own [CW x.args,Pa x.names]]:=by
 refine jA at7 (bg (by kernel_rfl)) (ig (X:=X84) (stop:=Th) (aj3 _ _ x ?_))
 rw [Nat.zero_add,Nat.zero_add]
 refine aw hr (aw hs ?_)
 refine af.T8 2 4 6 rfl rfl rfl rfl rfl rfl rfl rfl (l':=Eu x 7) (.cons (jG _ _ _ _) (.cons (jG _ _ _ _) (.cons (jG _ _ _ _) (.cons (jG _ _ _ _) (.cons (jG _ _ _ _) (.cons (CM 0 _ _ rfl rfl rfl) (.cons (jG _ _ _ _) (.cons (jG _ _ _ _) (.cons (jG _ _ _ _) (.cons (CM 1 _ _ rfl rfl rfl) (.cons (jG _ _ _ _) (.cons (jG _ _ _ _) (.cons (jG _ _ _ _) (.cons (jG _ _ _ _) .nil)))))))))))))) ?_
 refine af.rename [0,1,2,7] rfl (af.le (ML x) (by repeat' (first|exact trivial|refine bV rfl ?_)) (rc (rc (rc (.cons (aJ.own (.cons (qX.ar fun i _ j _=>dr.refl _) (.cons (qX.ar fun i _ j _=>dr.refl _) .nil))) .nil)))) rfl ?_)
 refine bA (X:=X84) (stop:=Th) (WO _ _ x ?_)
 exact ⟨[3],.a (Eu x 0),_,_,rfl,(rc .nil),⟨1,bg rfl,bg rfl,rfl,rfl,aX.refl _,⟨rfl,trivial⟩⟩⟩
open Go Go.V
noncomputable def Qy:hX:={ F:=Qr }
noncomputable section
def Dm (e:ai) (q:Nat):List C:=[.ow q 0,.ow q 1,.im (iI e.back)]
def sc:C:=.im (.v (.slice none 0 0))
def frK (e:ai) (k:Nat):ah:=.cR 75 3 k (fun i=>gN (e.frames.get i)) none
def obK (e:ai) (k:Nat):ah:=.cR 78 4 k (fun i=>oo (e.az.get i)) none
end
def yx:Nat→Bool:=fun i=>Nat.beq i 3||Nat.beq i 9||Nat.beq i 15
theorem ap1:Fn 37:=⟨by kernel_rfl,by kernel_rfl⟩
noncomputable abbrev vL:ah:=.box [b6,b6,(ci 0)]
theorem as0 (L:LP) (QE:D→List ah→Prop) (e:ai) (h:L (ag 37 3) ⟨[b5,l5,cN,vX],[(dc e),vL,(.box [b6,b6,(ci e.3)])],[]⟩):fS Qy 37 yx L QE [pD e] []:=Eq.mp (by kernel_rfl) h
noncomputable abbrev ka:gF:=(1,.c (.rt 0 0 0),[])
noncomputable def BK (e:ai) (k:Nat):VS:=⟨[ka,tk,jn,(4,int k,[])],[.box (lift (bn e)),.box [sc,sc,.im (iI 0)],.box [.sa 3 k,sc,.im (iI e.back)],frK e k],[]⟩
theorem Oy (L:LP) (QE:D→List ah→Prop) (e:ai) (k:Nat) (h:br (decide ((↑k:Int)<(↑e.1.1:Int))) (nd (cd (↑k:Int) e.1.1) (nd (cg (0+(e.1.2 k).3.1) 8) (nd (cg (k+1) 40) (nd (k.beq k) (L (ag 37 3) ⟨[b5,l5,cN,(4,((int (IntKind.i64.wrap ((↑k:Int)+1))),[]))],[(dc e),vL,(.box [(.sa 8 (.succ k)),b6,(ci e.3)]),.dead,(.box [(ci ((e.1.2 k).1)),(ci ((e.1.2 k).2)),(.sa 6 (0+(e.1.2 k).3.1))]),.dead,(.arr 3 1 (0+(e.1.2 k).3.1) (gP 0 oJ ((e.1.2 k).3.1,fun i=>b8 ((e.1.2 k).3.2 i)).snd)),(.row 75 3 1 [(ci ((e.1.2 k).1)),(ci ((e.1.2 k).2)),(.sa 6 (0+(e.1.2 k).3.1))]),(.cR 75 3 (k+1) (fun i=>gN (e.1.2 i)) (.some (k,[(.c (ci ((e.1.2 k).1))),(.c (ci ((e.1.2 k).2))),(.c (.sa 6 (0+(e.1.2 k).3.1)))])))],[]⟩))))) (L (ag 37 9) ⟨[b5,l5,cN,(6,((int 0),[]))],[(dc e),vL,(.box [(.sa 3 k),b6,(ci e.3)]),(.cR 75 3 k (fun i=>gN (e.1.2 i)) .none)],[]⟩)):dq Qy 37 yx L QE 3 (BK e k):=Eq.mp (by kernel_rfl) h
noncomputable def Bg (e:ai) (k:Nat):VS:=⟨[ka,tk,jn,(6,int k,[])],[.box (lift (bn e)),.box [sc,sc,.im (iI 0)],.box [.sa 3 e.frames.n,.sa 4 k,.im (iI e.back)],W3 e.frames,obK e k],[]⟩
noncomputable abbrev Nn (ax:ai) (aF:Nat):List C:=[(ci ((ax.2.2 aF).1)),(ci ((ax.2.2 aF).2)),(.sa 7 (0+(ax.2.2 aF).3.1)),(.sa 9 (0+(ax.2.2 aF).4.1))]
theorem Nh (L:LP) (QE:D→List ah→Prop) (e:ai) (k:Nat) (h:br (decide ((↑k:Int)<(↑e.2.1:Int))) (nd (cd (↑k:Int) e.2.1) (nd (cg (0+(e.2.2 k).3.1) 16) (nd (cg (0+(e.2.2 k).4.1) 8) (nd (cg (k+1) 64) (nd (k.beq k) (L (ag 37 9) ⟨[b5,l5,cN,(6,((int (IntKind.i64.wrap ((↑k:Int)+1))),[]))],[(dc e),vL,(.box [(.sa 3 e.1.1),(.sa 11 (.succ k)),(ci e.3)]),(.cR 75 3 e.1.1 (fun i=>gN (e.1.2 i)) .none),.dead,(.box (Nn e k)),.dead,(.arr 9 1 (0+(e.2.2 k).3.1) (gP 0 oJ ((e.2.2 k).3.1,fun i=>eD ((e.2.2 k).3.2 i)).snd)),.dead,(.arr 3 1 (0+(e.2.2 k).4.1) (gP 0 oJ ((e.2.2 k).4.1,fun i=>b8 ((e.2.2 k).4.2 i)).snd)),(.row 78 4 1 (Nn e k)),(.cR 78 4 (k+1) (fun i=>oo (e.2.2 i)) (.some (k,[(.c (ci ((e.2.2 k).1))),(.c (ci ((e.2.2 k).2))),(.c (.sa 7 (0+(e.2.2 k).3.1))),(.c (.sa 9 (0+(e.2.2 k).4.1)))])))],[]⟩)))))) (L (ag 37 15) ⟨[b5,l5,cN,(6,((int (↑k:Int)),[])),(38,((bool false),[]))],[(dc e),vL,(.box [(.sa 3 e.1.1),(.sa 4 k),(ci e.3)]),(.cR 75 3 e.1.1 (fun i=>gN (e.1.2 i)) .none),(.cR 78 4 k (fun i=>oo (e.2.2 i)) .none)],[]⟩)):dq Qy 37 yx L QE 9 (Bg e k):=Eq.mp (by kernel_rfl) h
noncomputable def Bj (e:ai)  : VS:=⟨[tk,jn],[.box (lift (bn e)),.box [sc,sc,.im (iI 0)],.box (Dm e 3),.own [xb e.frames,Ec e.az]],[]⟩
theorem RI (L:LP) (QE:D→List ah→Prop) (e:ai)  (h:QE (.a [(.ow 3 0),(.ow 3 1),(ci e.3)]) [(.box (lift (bn (e)))),(.box [(.ow 3 0),(.ow 3 1),(ci e.3)]),(.box [(.ow 3 0),(.ow 3 1),(ci e.3)]),(.own [(.ns 75 3 e.1.1 (fun i=>gN (e.1.2 i))),(.ns 78 4 e.2.1 (fun i=>oo (e.2.2 i)))])]):dq Qy 37 yx L QE 15 (Bj e ):=Eq.mp (by kernel_rfl) h
theorem RW (e:ai):af 37 0 (lF [] (.a (Dm e 0)) [.own [xb e.frames,Ec e.az]]) (ag 37 15) (Bj e):=by
 refine bA (X:=Qy) (stop:=yx) (RI _ _ e ?_)
 exact ⟨[3],.a (Dm e 0),_,_,rfl,(rc .nil),⟨1,bg rfl,bg rfl,rfl,rfl,aX.refl _,⟨rfl,trivial⟩⟩⟩
theorem XJ (e:ai) (hS:ic e):∀ k,k≤e.az.n→af 37 0 (lF [] (.a (Dm e 0)) [.own [xb e.frames,Ec e.az]]) (ag 37 9) (Bg e k):=by
 have hN:=hS.az
 refine aL (fun k hk ih=>?_) ?_
 ·refine bA (X:=Qy) (stop:=yx) (Nh _ _ e k ?_)
  refine ak (fun h=>?_) (fun h=>(dec_lt h hk).elim)
  rw [Nat.zero_add,Nat.zero_add]
  have h1:=hS.names k hk
  have h2:=hS.items k hk
  refine aw (aA hk) (aw (cj (by omega) (by omega)) (aw (cj (by omega) (by omega)) (aw (cj (by omega) (by omega)) (aw (cf k) ?_))))
  rw [bR hk (by unfold maxLen; omega)]
  refine af.close 11 2 7 rfl rfl rfl rfl rfl rfl (af.close 11 3 9 rfl rfl rfl rfl rfl rfl ?_)
  exact af.rename [0,1,2,3,11] rfl (af.le (Bg e (k+1)) (by repeat' (first|exact trivial|refine bV rfl ?_)) (rc (rc (rc (rc (.cons (aJ.GQ ⟨bG.aP _,bG.aP _,bG.o (qX.ar fun i _ j _=>dr.refl _),bG.o (qX.ar fun i _ j _=>dr.refl _),trivial⟩) .nil))))) rfl ih)
 ·refine bA (X:=Qy) (stop:=yx) (Nh _ _ e _ ?_)
  refine ak (fun h=>bJ h) (fun h=>?_)
  refine af.T8 2 3 4 rfl rfl rfl rfl rfl rfl rfl rfl (l':=Dm e 5) (.cons (CM 0 _ _ rfl rfl rfl) (.cons (CM 1 _ _ rfl rfl rfl) (.cons (jG _ _ _ _) .nil))) ?_
  exact af.rename [0,1,2,5] rfl (af.le (Bj e) (by repeat' (first|exact trivial|refine bV rfl ?_)) (rc (rc (rc (rc .nil)))) rfl (RW e))
theorem V3 (e:ai) (hS:ic e):∀ k,k≤e.frames.n→af 37 0 (lF [] (.a (Dm e 0)) [.own [xb e.frames,Ec e.az]]) (ag 37 3) (BK e k):=by
 have hN:=hS.frames
 refine aL (fun k hk ih=>?_) ?_
 ·refine bA (X:=Qy) (stop:=yx) (Oy _ _ e k ?_)
  refine ak (fun h=>?_) (fun h=>(dec_lt h hk).elim)
  rw [Nat.zero_add]
  have h1:=hS.vars k hk
  refine aw (aA hk) (aw (cj (by omega) (by omega)) (aw (cj (by omega) (by omega)) (aw (cf k) ?_)))
  rw [bR hk (by unfold maxLen; omega)]
  refine af.close 8 2 6 rfl rfl rfl rfl rfl rfl ?_
  exact af.rename [0,1,2,8] rfl (af.le (BK e (k+1)) (by repeat' (first|exact trivial|refine bV rfl ?_)) (rc (rc (rc (.cons (aJ.GQ ⟨bG.aP _,bG.aP _,bG.o (qX.ar fun i _ j _=>dr.refl _),trivial⟩) .nil)))) rfl ih)
 ·refine bA (X:=Qy) (stop:=yx) (Oy _ _ e _ ?_)
  refine ak (fun h=>bJ h) (fun h=>?_)
  exact af.iz 2 1 78 4 _ rfl rfl (af.le (Bg e 0) (by repeat' (first|exact trivial|refine bV rfl ?_)) (rc (rc (rc (rc (.cons (aJ.wm fun i hi=>absurd hi (Nat.not_lt_zero i)) .nil))))) rfl (XJ e hS 0 (bu _)))
theorem Yi (e:ai) (hS:ic e):LC 37 [pD e] [] (.a (Dm e 0)) [.own [xb e.frames,Ec e.az]]:=by
 refine jA ap1 (bg (by kernel_rfl)) (ig (X:=Qy) (stop:=yx) (as0 _ _ e ?_))
 exact af.iz 2 0 75 3 _ rfl rfl (af.le (BK e 0) (by repeat' (first|exact trivial|refine bV rfl ?_)) (rc (rc (rc (.cons (aJ.wm fun i hi=>absurd hi (Nat.not_lt_zero i)) .nil)))) rfl (V3 e hS 0 (bu _)))
end Go.Proofs.YtghfgcfabbbbbaaDoor
