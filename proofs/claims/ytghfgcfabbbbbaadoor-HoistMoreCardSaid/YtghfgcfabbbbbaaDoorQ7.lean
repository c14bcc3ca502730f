/- Loops: what is to be shown. -/
import Derived.Test.YtghfgcfabbbbbaaDoorQ6
import Derived.Test.YtghfgcfabbbbbaaDoorQ5
import Derived.Test.YtghfgcfabbbbbaaDoorQ4
set_option linter.unusedVariables false
set_option linter.unusedSimpArgs false
set_option maxRecDepth 1000000
namespace Go.Proofs.YtghfgcfabbbbbaaDoor
open Go Go.V
noncomputable def Xb (l:Sq Int) (sn:Sq af→af→Sq af) (sx:Sq ag→ag→Sq ag) (ds:List D) (rs:List ae):Out:=match ds with
 | [.c (.rt q _ _)]=>match aY rs q with
   | some (.box [.rt m a b,c,d,.sa i n,.sa j ne,.im (.v (.int .i64 fu)),.im (.v (.int .i64 pa))])=>match aY rs m,aY rs i,aY rs j with
     | some (.box [y,.im (.v (.int .i64 p))]),some (.arr _ _ k get),some (.arr _ _ ke ge)=>
       (int (gf l p.toNat ⟨k,fun t=>ij (get t)⟩ pa.toNat).1,[(m,.box [y,.im (iI (eW l p.toNat ⟨k,fun t=>ij (get t)⟩ fu pa.toNat).2)]),(q,.box [.rt m a b,c,d,.sa (rs.length+1) (sn ⟨k,fun t=>ij (get t)⟩ (ia l p.toNat ⟨k,fun t=>ij (get t)⟩ pa.toNat ne)).n,.sa rs.length (sx ⟨ke,fun t=>nq (ge t)⟩ (eW l p.toNat ⟨k,fun t=>ij (get t)⟩ fu pa.toNat).1).n,.im (iI fu),.im (iI pa)]),(i,.dead),(j,.dead)],
        [j8 (sx ⟨ke,fun t=>nq (ge t)⟩ (eW l p.toNat ⟨k,fun t=>ij (get t)⟩ fu pa.toNat).1),bV (sn ⟨k,fun t=>ij (get t)⟩ (ia l p.toNat ⟨k,fun t=>ij (get t)⟩ pa.toNat ne))])
     | _,_,_=>qU
   | _=>qU
 | _=>qU
noncomputable def XZ (l:Sq Int) (sn:Sq af→af→Sq af) (sx:Sq ag→ag→Sq ag) (f:FuncId) (ds:List D) (rs:List ae):Out:=match f with
 | 34=>Xb l sn sx ds rs
 | f=>Ya l sn sx f ds rs
noncomputable def lr (l:Sq Int) (sn:Sq af→af→Sq af) (sx:Sq ag→ag→Sq ag):iZ:={ F:=XZ l sn sx,W:=Xj l,S:=Lm }
structure dv where
 p:Nat
 ins:Sq af
 ex:Sq ag
noncomputable section
def PG (d:Nat) (n:Int):qH:=bif Nat.beq d 0 then ⟨3,IntKind.i64.wrap (n-2),⟨⟨[]⟩⟩⟩ else bif Nat.beq d 1 then ⟨1,0,⟨⟨[]⟩⟩⟩ else bif Nat.beq d 2 then ⟨2,1,⟨⟨[]⟩⟩⟩ else ⟨4,0,⟨⟨[115]⟩⟩⟩
def MJ (d:Nat):Int:=bif Nat.beq d 0 then 10 else 11
def MR (l:Sq Int) (fuel:Int) (param:Nat) (x:af) (p:Nat) (s:dv):dv:=⟨(lv l p s.ins fuel param).2,bC s.ins { x with exit:=(s.ex.n:Int) },bT s.ex (lv l p s.ins fuel param).1⟩
def TD (l:Sq Int) (c:Int) (s:dv):dv:=⟨(nx l s.p 2).2,bC s.ins (cm 10 c 0 0 (nx l s.p 2).1 (-1)),s.ex⟩
def Wk (l:Sq Int) (param:Nat) (c:Int) (s:dv):dv:=TD l c ⟨(nx l (nx l s.p (param:Int)).2 2).2,bC s.ins (cm 11 c (nx l s.p (param:Int)).1 0 (nx l (nx l s.p (param:Int)).2 2).1 (-1)),s.ex⟩
def Wy (l:Sq Int) (param:Nat) (s:dv):dv:=Wk l param (s.ins.n:Int) ⟨s.p,bC s.ins { cm 16 0 0 0 0 (-1) with names:=Ig },s.ex⟩
def Wq (l:Sq Int) (c:Int) (s:dv):dv:=⟨(nx l (vl l s.p s.ins).2 2).2,bC s.ins (cm 11 c (vl l s.p s.ins).1 0 (nx l (vl l s.p s.ins).2 2).1 (-1)),s.ex⟩
def Qv (l:Sq Int) (x:af) (s:dv):dv:=bif (nx l s.p 2).1==0 then ⟨(nx l s.p 2).2,bC s.ins (cm 12 x.a x.b 0 0 (-1)),s.ex⟩ else ⟨(vl l (nx l s.p 2).2 s.ins).2,bC s.ins (cm 13 x.a x.b (vl l (nx l s.p 2).2 s.ins).1 0 (-1)),s.ex⟩
def Ww (x:af) (s:dv):dv:=⟨s.p,bC s.ins (cm 14 x.a 0 0 0 (-1)),s.ex⟩
def Wh (l:Sq Int) (x:af) (s:dv):dv:=⟨(nx l s.p 3).2,bC s.ins { cm 19 x.a 0 0 0 (-1) with place:=⟨0,(nx l s.p 3).1⟩ },s.ex⟩
def Wi (l:Sq Int) (fuel:Int) (param:Nat) (c:Int) (s:dv):dv:=MR l fuel param (cm 5 c 0 0 (nx l s.p 2).1 0) (nx l s.p 2).2 s
def k3 (l:Sq Int) (s:dv):dv:=⟨(nx l (nx l s.p 7).2 4).2,bC s.ins { cm 2 0 0 0 0 (-1) with k:=PG (nx l (nx l s.p 7).2 4).1.toNat (nx l s.p 7).1 },s.ex⟩
def ab (l:Sq Int) (p:Nat) (ins:Sq af):Int×Int×Nat:=((vl l p ins).1,(vl l (vl l p ins).2 ins).1,(vl l (vl l p ins).2 ins).2)
def k7 (l:Sq Int) (fuel:Int) (param:Nat) (s:dv):dv:=MR l fuel param (cm 4 (ab l (nx l s.p 10).2 s.ins).1 (ab l (nx l s.p 10).2 s.ins).2.1 0 (IntKind.i64.wrap (5+(nx l s.p 10).1)) 0) (ab l (nx l s.p 10).2 s.ins).2.2 s
def Wb (l:Sq Int) (fuel:Int) (param:Nat) (s:dv):dv:=MR l fuel param (cm 3 (vl l (nx l s.p 2).2 s.ins).1 0 0 (IntKind.i64.wrap (3+(nx l s.p 2).1)) 0) (vl l (nx l s.p 2).2 s.ins).2 s
def RX (l:Sq Int) (fuel:Int) (param:Nat) (s:dv):dv:=Wi l fuel param (s.ins.n:Int) (MR l fuel param (cm 4 (ab l (nx l s.p 2).2 s.ins).1 (ab l (nx l s.p 2).2 s.ins).2.1 0 (MJ (nx l s.p 2).1.toNat) 0) (ab l (nx l s.p 2).2 s.ins).2.2 s)
def Ws (l:Sq Int) (fuel:Int) (param:Nat) (s:dv):dv:=⟨(eW l s.p s.ins fuel param).2,bC s.ins (ia l s.p s.ins param s.ex.n),bT s.ex (eW l s.p s.ins fuel param).1⟩
def QW (l:Sq Int) (fuel:Int) (param:Nat) (s:dv):dv:=TD l (gf l s.p s.ins param).1 (Ws l fuel param s)
def TG (l:Sq Int) (fuel:Int) (param:Nat) (s:dv):dv:=Wq l (gf l s.p s.ins param).1 (Ws l fuel param s)
def Ss (l:Sq Int) (fuel:Int) (param:Nat) (s:dv):dv:=Wy l param (MR l fuel param (cm 15 0 0 0 32 0) s.p s)
def U8 (l:Sq Int) (fuel:Int) (param:Nat) (s:dv):dv:=Qv l (cm 9 (ab l s.p s.ins).1 (ab l s.p s.ins).2.1 0 0 (s.ex.n:Int)) (MR l fuel param (cm 9 (ab l s.p s.ins).1 (ab l s.p s.ins).2.1 0 0 0) (ab l s.p s.ins).2.2 s)
def Vu (l:Sq Int) (fuel:Int) (param:Nat) (s:dv):dv:=Ww (cm 8 (vl l s.p s.ins).1 0 0 0 (s.ex.n:Int)) (MR l fuel param (cm 8 (vl l s.p s.ins).1 0 0 0 0) (vl l s.p s.ins).2 s)
def UD (l:Sq Int) (fuel:Int) (param:Nat) (s:dv):dv:=Wh l (cm 6 (vl l s.p s.ins).1 0 0 (IntKind.i64.wrap (1+(nx l (vl l s.p s.ins).2 4).1)) (s.ex.n:Int)) (MR l fuel param (cm 6 (vl l s.p s.ins).1 0 0 (IntKind.i64.wrap (1+(nx l (vl l s.p s.ins).2 4).1)) 0) (nx l (vl l s.p s.ins).2 4).2 s)
def gJ (l:Sq Int) (fuel:Int) (param:Nat) (s:dv):dv:=
 bif (nx l s.p 14).1==0 then k3 l ⟨(nx l s.p 14).2,s.ins,s.ex⟩
 else bif (nx l s.p 14).1==1 then k7 l fuel param ⟨(nx l s.p 14).2,s.ins,s.ex⟩
 else bif (nx l s.p 14).1==2 then k7 l fuel param ⟨(nx l s.p 14).2,s.ins,s.ex⟩
 else bif (nx l s.p 14).1==3 then k7 l fuel param ⟨(nx l s.p 14).2,s.ins,s.ex⟩
 else bif (nx l s.p 14).1==4 then Wb l fuel param ⟨(nx l s.p 14).2,s.ins,s.ex⟩
 else bif (nx l s.p 14).1==5 then RX l fuel param ⟨(nx l s.p 14).2,s.ins,s.ex⟩
 else bif (nx l s.p 14).1==6 then QW l fuel param ⟨(nx l s.p 14).2,s.ins,s.ex⟩
 else bif (nx l s.p 14).1==7 then QW l fuel param ⟨(nx l s.p 14).2,s.ins,s.ex⟩
 else bif (nx l s.p 14).1==8 then TG l fuel param ⟨(nx l s.p 14).2,s.ins,s.ex⟩
 else bif (nx l s.p 14).1==9 then Ss l fuel param ⟨(nx l s.p 14).2,s.ins,s.ex⟩
 else bif (nx l s.p 14).1==10 then Ss l fuel param ⟨(nx l s.p 14).2,s.ins,s.ex⟩
 else bif (nx l s.p 14).1==11 then U8 l fuel param ⟨(nx l s.p 14).2,s.ins,s.ex⟩
 else bif (nx l s.p 14).1==12 then Vu l fuel param ⟨(nx l s.p 14).2,s.ins,s.ex⟩
 else UD l fuel param ⟨(nx l s.p 14).2,s.ins,s.ex⟩
def w4 (l:Sq Int) (s0:dv) (fuel:Int) (param:Nat) (o:dv):D→List ae→Prop:=gg [aB l s0.p,aL 0 2 s0.ins.n 3 s0.ex.n fuel param,bV s0.ins,j8 s0.ex] (.t []) [aB l o.p,aL 0 5 o.ins.n 4 o.ex.n fuel param,.dead,.dead,j8 o.ex,bV o.ins]
end
theorem NA {l:Sq Int} {p:Nat} (h0:Nat.beq (nx l p 4).1.toNat 0=false) (h1:Nat.beq (nx l p 4).1.toNat 1=false) (h2:Nat.beq (nx l p 4).1.toNat 2=false) (h3:Nat.beq (nx l p 4).1.toNat 3=false):False:=by
 obtain ⟨d,hd,dp⟩:=il (l:=l) (p:=p) (n:=4) (by omega) (by omega)
 rw [hd] at h0 h1 h2 h3
 have g:∀ k,Nat.beq (d:Int).toNat k=false→d≠k:=fun k hk e=>by
  subst e
  rw [show Nat.beq (d:Int).toNat d=true from cB d] at hk
  cases hk
 have:=g 0 h0; have:=g 1 h1; have:=g 2 h2; have:=g 3 h3
 omega
theorem NI {l:Sq Int} {p:Nat} (h0:Nat.beq (nx l p 2).1.toNat 0=false) (h1:Nat.beq (nx l p 2).1.toNat 1=false):False:=by
 obtain ⟨d,hd,dp⟩:=il (l:=l) (p:=p) (n:=2) (by omega) (by omega)
 rw [hd] at h0 h1
 have g:∀ k,Nat.beq (d:Int).toNat k=false→d≠k:=fun k hk e=>by
  subst e
  rw [show Nat.beq (d:Int).toNat d=true from cB d] at hk
  cases hk
 have:=g 0 h0; have:=g 1 h1
 omega
theorem si {l:Sq Int} {p:Nat} (n:Nat) (h1:1≤n) (h2:n≤1000):cC (nx l p (n:Int)).1 n=true:=by
 obtain ⟨d,hd,dp⟩:=il (l:=l) (p:=p) (n:=(n:Int)) (by omega) (by omega)
 rw [hd]
 exact au (by omega)
def fc:Nat→Bool:=fun i=>Nat.beq i 3||Nat.beq i 7||Nat.beq i 11||Nat.beq i 15||Nat.beq i 18||Nat.beq i 23||Nat.beq i 24||Nat.beq i 26||Nat.beq i 27||Nat.beq i 30||Nat.beq i 33||Nat.beq i 34||Nat.beq i 35||Nat.beq i 37||Nat.beq i 40||Nat.beq i 44||Nat.beq i 47||Nat.beq i 49||Nat.beq i 52
theorem Xh:Fn 22:=⟨by kernel_rfl,by kernel_rfl⟩
noncomputable abbrev eI:jr:=(2,((.c (.rt 0 0 0)),[]))
noncomputable abbrev mJ (ax:Sq Int) (aX:Nat):jr:=(20,((int ((nx ax aX 14).1)),[]))
noncomputable abbrev ko (ax:Sq Int) (aX:Nat) (aN:Sq af) (cq:Sq ag) (ct:Int) (dJ:Nat):List ae:=[(aB ax ((nx ax aX 14).2)),(dY aN cq ct dJ),(bl aN),(bE cq)]
noncomputable abbrev CW (ax:Sq Int) (aX:Nat):aG:=[dG,eI,(mJ ax aX),(38,((bool true),[]))]
theorem XE (L:LP) (QE:D→List ae→Prop) (sn:Sq af→af→Sq af) (sx:Sq ag→ag→Sq ag) (l:Sq Int) (p:Nat) (ins:Sq af) (aa:Sq ag) (fuel:Int) (param:Nat) (h:(WC 19 [(.c (.rt 0 0 0)),(int 14)] (qK l p ins aa fuel param) (int ((nx l p 14).1)) 0 (aB l ((nx l p 14).2))∧br ((nx l p 14).1==0) (L (aj 22 3) ⟨[dG,eI,(mJ l p),(21,((bool true),[]))],(ko l p ins aa fuel param),[]⟩) (br ((nx l p 14).1==1) (L (aj 22 7) ⟨(CW l p),(ko l p ins aa fuel param),[]⟩) (br ((nx l p 14).1==2) (L (aj 22 7) ⟨(CW l p),(ko l p ins aa fuel param),[]⟩) (br ((nx l p 14).1==3) (L (aj 22 7) ⟨(CW l p),(ko l p ins aa fuel param),[]⟩) (br ((nx l p 14).1==4) (L (aj 22 11) ⟨[dG,eI,(mJ l p),(56,((bool true),[]))],(ko l p ins aa fuel param),[]⟩) (br ((nx l p 14).1==5) (L (aj 22 15) ⟨[dG,eI,(mJ l p),(70,((bool true),[]))],(ko l p ins aa fuel param),[]⟩) (br ((nx l p 14).1==6) (L (aj 22 23) ⟨[dG,eI,(mJ l p),(98,((bool true),[]))],(ko l p ins aa fuel param),[]⟩) (br ((nx l p 14).1==7) (L (aj 22 23) ⟨[dG,eI,(mJ l p),(98,((bool true),[]))],(ko l p ins aa fuel param),[]⟩) (br ((nx l p 14).1==8) (L (aj 22 26) ⟨[dG,eI,(mJ l p),(109,((bool true),[]))],(ko l p ins aa fuel param),[]⟩) (br ((nx l p 14).1==9) (L (aj 22 30) ⟨[dG,eI,(mJ l p),(121,((bool true),[]))],(ko l p ins aa fuel param),[]⟩) (br ((nx l p 14).1==10) (L (aj 22 30) ⟨[dG,eI,(mJ l p),(121,((bool true),[]))],(ko l p ins aa fuel param),[]⟩) (br ((nx l p 14).1==11) (L (aj 22 37) ⟨[dG,eI,(mJ l p),(153,((bool true),[]))],(ko l p ins aa fuel param),[]⟩) (br ((nx l p 14).1==12) (L (aj 22 44) ⟨[dG,eI,(mJ l p),(185,((bool true),[]))],(ko l p ins aa fuel param),[]⟩) (br ((nx l p 14).1==13) (L (aj 22 49) ⟨[dG,eI,(201,((bool true),[]))],(ko l p ins aa fuel param),[]⟩) (QE (.t []) [(aB l ((nx l p 14).2)),(aL 0 2 ins.1 3 aa.1 fuel (↑param:Int)),(.arr 40 14 ins.1 (fun i=>bn (ins.2 i))),(.arr 73 3 aa.1 (fun i=>bq (aa.2 i)))])))))))))))))))):gL (lr l sn sx) 22 fc L QE [.c (.rt 1 0 0)] [aB l p,aL 0 2 ins.n 3 aa.n fuel param,bV ins,j8 aa]:=Eq.mp (by kernel_rfl) h
noncomputable abbrev j4:jr:=(0,.c (.rt 1 0 0),[])
noncomputable abbrev jq:jr:=(2,.c (.rt 0 0 0),[])
noncomputable def DW (sn:Sq af→af→Sq af) (sx:Sq ag→ag→Sq ag) (l:Sq Int) (p:Nat) (ins:Sq af) (aa:Sq ag) (fuel:Int) (param:Nat)  : VS:=⟨[j4,jq],[aB l p,aL 0 2 ins.n 4 aa.n fuel param,bV ins,.dead,j8 aa],[]⟩
noncomputable abbrev oo:C:=.im (.v (.string ({ data := #[115] })))
noncomputable abbrev mW (ax:Sq Int) (aX:Nat):ae:=aB ax ((nx ax (nx ax aX 7).2 4).2)
theorem Ru (L:LP) (QE:D→List ae→Prop) (sn:Sq af→af→Sq af) (sx:Sq ag→ag→Sq ag) (l:Sq Int) (p:Nat) (ins:Sq af) (aa:Sq ag) (fuel:Int) (param:Nat)  (h:(WC 19 [(.c (.rt 0 0 0)),(int 7)] [(aB l p),(aL 0 2 ins.1 4 aa.1 fuel (↑param:Int)),(bl ins),.dead,(bE aa)] (int ((nx l p 7).1)) 0 (aB l ((nx l p 7).2))∧(WC 19 [(.c (.rt 0 0 0)),(int 4)] [(aB l ((nx l p 7).2)),(aL 0 2 ins.1 4 aa.1 fuel (↑param:Int)),(bl ins),.dead,(bE aa),(.row 37 3 4 [(ci 3),(ci (IntKind.i64.wrap ((nx l p 7).1-2))),da,(ci 1),(ci 0),da,(ci 2),(ci 1),da,(ci 4),(ci 0),oo])] (int ((nx l (nx l p 7).2 4).1)) 0 (aB l ((nx l (nx l p 7).2 4).2))∧nd (cC (nx l (nx l p 7).2 4).1 4) (br ((nx l (nx l p 7).2 4).1.toNat.beq 0) ((LC 20 [(.c (.rt 1 0 0)),(.a [(ci 2),(ci 0),(ci 0),(ci 0),(ci 0),dS,(ci 3),(ci (IntKind.i64.wrap ((nx l p 7).1-2))),da,dS,(ci 0),(ci 0),(ci (-1)),eV])] [(mW l p),(aL 0 2 ins.1 4 aa.1 fuel (↑param:Int)),(bl ins),.dead,(bE aa),(.row 37 3 4 [(ci 3),(ci (IntKind.i64.wrap ((nx l p 7).1-2))),da,(ci 1),(ci 0),da,(ci 2),(ci 1),da,(ci 4),(ci 0),oo])] (dy ins) [(mW l p),(aL 0 6 ((sn ins { op:=Int.ofNat 2,a:=Int.ofNat 0,b:=Int.ofNat 0,c:=Int.ofNat 0,n:=Int.ofNat 0,args:={ n:=0,get:=fun x=>Int.ofNat 0 },k:={ kind:=Int.ofNat 3,n:=bR (I.v (Value.int IntKind.i64 (IntKind.i64.wrap ((nx l p 7).1-2)))),s:={ data:={ toList:=[] } } },names:={ n:=0,get:=fun x=>{ data:={ toList:=[] } } },place:={ fn:=Int.ofNat 0,line:=Int.ofNat 0 },exit:=Int.negSucc 0,once:=false }).1) 4 aa.1 fuel (↑param:Int)),.dead,.dead,(bE aa),(.row 37 3 4 [(ci 3),(ci (IntKind.i64.wrap ((nx l p 7).1-2))),da,(ci 1),(ci 0),da,(ci 2),(ci 1),da,(ci 4),(ci 0),oo]),(.arr 40 14 ((sn ins { op:=Int.ofNat 2,a:=Int.ofNat 0,b:=Int.ofNat 0,c:=Int.ofNat 0,n:=Int.ofNat 0,args:={ n:=0,get:=fun x=>Int.ofNat 0 },k:={ kind:=Int.ofNat 3,n:=bR (I.v (Value.int IntKind.i64 (IntKind.i64.wrap ((nx l p 7).1-2)))),s:={ data:={ toList:=[] } } },names:={ n:=0,get:=fun x=>{ data:={ toList:=[] } } },place:={ fn:=Int.ofNat 0,line:=Int.ofNat 0 },exit:=Int.negSucc 0,once:=false }).1) (fun i=>bn ((sn ins { op:=Int.ofNat 2,a:=Int.ofNat 0,b:=Int.ofNat 0,c:=Int.ofNat 0,n:=Int.ofNat 0,args:={ n:=0,get:=fun x=>Int.ofNat 0 },k:={ kind:=Int.ofNat 3,n:=bR (I.v (Value.int IntKind.i64 (IntKind.i64.wrap ((nx l p 7).1-2)))),s:={ data:={ toList:=[] } } },names:={ n:=0,get:=fun x=>{ data:={ toList:=[] } } },place:={ fn:=Int.ofNat 0,line:=Int.ofNat 0 },exit:=Int.negSucc 0,once:=false }).2 i)))]∧QE (.t []) [(aB l ((nx l (nx l p 7).2 4).2)),(aL 0 6 ((sn ins { op:=Int.ofNat 2,a:=Int.ofNat 0,b:=Int.ofNat 0,c:=Int.ofNat 0,n:=Int.ofNat 0,args:={ n:=0,get:=fun x=>Int.ofNat 0 },k:={ kind:=Int.ofNat 3,n:=bR (I.v (Value.int IntKind.i64 (IntKind.i64.wrap ((nx l p 7).1-2)))),s:={ data:={ toList:=[] } } },names:={ n:=0,get:=fun x=>{ data:={ toList:=[] } } },place:={ fn:=Int.ofNat 0,line:=Int.ofNat 0 },exit:=Int.negSucc 0,once:=false }).1) 4 aa.1 fuel (↑param:Int)),.dead,.dead,(.arr 73 3 aa.1 (fun i=>bq (aa.2 i))),(.row 37 3 4 [(ci 3),(ci (IntKind.i64.wrap ((nx l p 7).1-2))),(.im (.v (.string ⟨⟨[]⟩⟩))),(ci 1),(ci 0),(.im (.v (.string ⟨⟨[]⟩⟩))),(ci 2),(ci 1),(.im (.v (.string ⟨⟨[]⟩⟩))),(ci 4),(ci 0),(.im (.v (.string ({ data := #[115] }))))]),(.arr 40 14 ((sn ins { op:=Int.ofNat 2,a:=Int.ofNat 0,b:=Int.ofNat 0,c:=Int.ofNat 0,n:=Int.ofNat 0,args:={ n:=0,get:=fun x=>Int.ofNat 0 },k:={ kind:=Int.ofNat 3,n:=bR (I.v (Value.int IntKind.i64 (IntKind.i64.wrap ((nx l p 7).1-2)))),s:={ data:={ toList:=[] } } },names:={ n:=0,get:=fun x=>{ data:={ toList:=[] } } },place:={ fn:=Int.ofNat 0,line:=Int.ofNat 0 },exit:=Int.negSucc 0,once:=false }).1) (fun i=>bn ((sn ins { op:=Int.ofNat 2,a:=Int.ofNat 0,b:=Int.ofNat 0,c:=Int.ofNat 0,n:=Int.ofNat 0,args:={ n:=0,get:=fun x=>Int.ofNat 0 },k:={ kind:=Int.ofNat 3,n:=bR (I.v (Value.int IntKind.i64 (IntKind.i64.wrap ((nx l p 7).1-2)))),s:={ data:={ toList:=[] } } },names:={ n:=0,get:=fun x=>{ data:={ toList:=[] } } },place:={ fn:=Int.ofNat 0,line:=Int.ofNat 0 },exit:=Int.negSucc 0,once:=false }).2 i)))])) (br ((nx l (nx l p 7).2 4).1.toNat.beq 1) ((LC 20 [(.c (.rt 1 0 0)),(.a [(ci 2),(ci 0),(ci 0),(ci 0),(ci 0),dS,(ci 1),(ci 0),da,dS,(ci 0),(ci 0),(ci (-1)),eV])] [(mW l p),(aL 0 2 ins.1 4 aa.1 fuel (↑param:Int)),(bl ins),.dead,(bE aa),(.row 37 3 4 [(ci 3),(ci (IntKind.i64.wrap ((nx l p 7).1-2))),da,(ci 1),(ci 0),da,(ci 2),(ci 1),da,(ci 4),(ci 0),oo])] (dy ins) [(mW l p),(aL 0 6 ((sn ins { op:=Int.ofNat 2,a:=Int.ofNat 0,b:=Int.ofNat 0,c:=Int.ofNat 0,n:=Int.ofNat 0,args:={ n:=0,get:=fun x=>Int.ofNat 0 },k:={ kind:=Int.ofNat 1,n:=Int.ofNat 0,s:={ data:={ toList:=[] } } },names:={ n:=0,get:=fun x=>{ data:={ toList:=[] } } },place:={ fn:=Int.ofNat 0,line:=Int.ofNat 0 },exit:=Int.negSucc 0,once:=false }).1) 4 aa.1 fuel (↑param:Int)),.dead,.dead,(bE aa),(.row 37 3 4 [(ci 3),(ci (IntKind.i64.wrap ((nx l p 7).1-2))),da,(ci 1),(ci 0),da,(ci 2),(ci 1),da,(ci 4),(ci 0),oo]),(.arr 40 14 ((sn ins { op:=Int.ofNat 2,a:=Int.ofNat 0,b:=Int.ofNat 0,c:=Int.ofNat 0,n:=Int.ofNat 0,args:={ n:=0,get:=fun x=>Int.ofNat 0 },k:={ kind:=Int.ofNat 1,n:=Int.ofNat 0,s:={ data:={ toList:=[] } } },names:={ n:=0,get:=fun x=>{ data:={ toList:=[] } } },place:={ fn:=Int.ofNat 0,line:=Int.ofNat 0 },exit:=Int.negSucc 0,once:=false }).1) (fun i=>bn ((sn ins { op:=Int.ofNat 2,a:=Int.ofNat 0,b:=Int.ofNat 0,c:=Int.ofNat 0,n:=Int.ofNat 0,args:={ n:=0,get:=fun x=>Int.ofNat 0 },k:={ kind:=Int.ofNat 1,n:=Int.ofNat 0,s:={ data:={ toList:=[] } } },names:={ n:=0,get:=fun x=>{ data:={ toList:=[] } } },place:={ fn:=Int.ofNat 0,line:=Int.ofNat 0 },exit:=Int.negSucc 0,once:=false }).2 i)))]∧QE (.t []) [(aB l ((nx l (nx l p 7).2 4).2)),(aL 0 6 ((sn ins { op:=Int.ofNat 2,a:=Int.ofNat 0,b:=Int.ofNat 0,c:=Int.ofNat 0,n:=Int.ofNat 0,args:={ n:=0,get:=fun x=>Int.ofNat 0 },k:={ kind:=Int.ofNat 1,n:=Int.ofNat 0,s:={ data:={ toList:=[] } } },names:={ n:=0,get:=fun x=>{ data:={ toList:=[] } } },place:={ fn:=Int.ofNat 0,line:=Int.ofNat 0 },exit:=Int.negSucc 0,once:=false }).1) 4 aa.1 fuel (↑param:Int)),.dead,.dead,(.arr 73 3 aa.1 (fun i=>bq (aa.2 i))),(.row 37 3 4 [(ci 3),(ci (IntKind.i64.wrap ((nx l p 7).1-2))),(.im (.v (.string ⟨⟨[]⟩⟩))),(ci 1),(ci 0),(.im (.v (.string ⟨⟨[]⟩⟩))),(ci 2),(ci 1),(.im (.v (.string ⟨⟨[]⟩⟩))),(ci 4),(ci 0),(.im (.v (.string ({ data := #[115] }))))]),(.arr 40 14 ((sn ins { op:=Int.ofNat 2,a:=Int.ofNat 0,b:=Int.ofNat 0,c:=Int.ofNat 0,n:=Int.ofNat 0,args:={ n:=0,get:=fun x=>Int.ofNat 0 },k:={ kind:=Int.ofNat 1,n:=Int.ofNat 0,s:={ data:={ toList:=[] } } },names:={ n:=0,get:=fun x=>{ data:={ toList:=[] } } },place:={ fn:=Int.ofNat 0,line:=Int.ofNat 0 },exit:=Int.negSucc 0,once:=false }).1) (fun i=>bn ((sn ins { op:=Int.ofNat 2,a:=Int.ofNat 0,b:=Int.ofNat 0,c:=Int.ofNat 0,n:=Int.ofNat 0,args:={ n:=0,get:=fun x=>Int.ofNat 0 },k:={ kind:=Int.ofNat 1,n:=Int.ofNat 0,s:={ data:={ toList:=[] } } },names:={ n:=0,get:=fun x=>{ data:={ toList:=[] } } },place:={ fn:=Int.ofNat 0,line:=Int.ofNat 0 },exit:=Int.negSucc 0,once:=false }).2 i)))])) (br ((nx l (nx l p 7).2 4).1.toNat.beq 2) ((LC 20 [(.c (.rt 1 0 0)),(.a [(ci 2),(ci 0),(ci 0),(ci 0),(ci 0),dS,(ci 2),(ci 1),da,dS,(ci 0),(ci 0),(ci (-1)),eV])] [(mW l p),(aL 0 2 ins.1 4 aa.1 fuel (↑param:Int)),(bl ins),.dead,(bE aa),(.row 37 3 4 [(ci 3),(ci (IntKind.i64.wrap ((nx l p 7).1-2))),da,(ci 1),(ci 0),da,(ci 2),(ci 1),da,(ci 4),(ci 0),oo])] (dy ins) [(mW l p),(aL 0 6 ((sn ins { op:=Int.ofNat 2,a:=Int.ofNat 0,b:=Int.ofNat 0,c:=Int.ofNat 0,n:=Int.ofNat 0,args:={ n:=0,get:=fun x=>Int.ofNat 0 },k:={ kind:=Int.ofNat 2,n:=Int.ofNat 1,s:={ data:={ toList:=[] } } },names:={ n:=0,get:=fun x=>{ data:={ toList:=[] } } },place:={ fn:=Int.ofNat 0,line:=Int.ofNat 0 },exit:=Int.negSucc 0,once:=false }).1) 4 aa.1 fuel (↑param:Int)),.dead,.dead,(bE aa),(.row 37 3 4 [(ci 3),(ci (IntKind.i64.wrap ((nx l p 7).1-2))),da,(ci 1),(ci 0),da,(ci 2),(ci 1),da,(ci 4),(ci 0),oo]),(.arr 40 14 ((sn ins { op:=Int.ofNat 2,a:=Int.ofNat 0,b:=Int.ofNat 0,c:=Int.ofNat 0,n:=Int.ofNat 0,args:={ n:=0,get:=fun x=>Int.ofNat 0 },k:={ kind:=Int.ofNat 2,n:=Int.ofNat 1,s:={ data:={ toList:=[] } } },names:={ n:=0,get:=fun x=>{ data:={ toList:=[] } } },place:={ fn:=Int.ofNat 0,line:=Int.ofNat 0 },exit:=Int.negSucc 0,once:=false }).1) (fun i=>bn ((sn ins { op:=Int.ofNat 2,a:=Int.ofNat 0,b:=Int.ofNat 0,c:=Int.ofNat 0,n:=Int.ofNat 0,args:={ n:=0,get:=fun x=>Int.ofNat 0 },k:={ kind:=Int.ofNat 2,n:=Int.ofNat 1,s:={ data:={ toList:=[] } } },names:={ n:=0,get:=fun x=>{ data:={ toList:=[] } } },place:={ fn:=Int.ofNat 0,line:=Int.ofNat 0 },exit:=Int.negSucc 0,once:=false }).2 i)))]∧QE (.t []) [(aB l ((nx l (nx l p 7).2 4).2)),(aL 0 6 ((sn ins { op:=Int.ofNat 2,a:=Int.ofNat 0,b:=Int.ofNat 0,c:=Int.ofNat 0,n:=Int.ofNat 0,args:={ n:=0,get:=fun x=>Int.ofNat 0 },k:={ kind:=Int.ofNat 2,n:=Int.ofNat 1,s:={ data:={ toList:=[] } } },names:={ n:=0,get:=fun x=>{ data:={ toList:=[] } } },place:={ fn:=Int.ofNat 0,line:=Int.ofNat 0 },exit:=Int.negSucc 0,once:=false }).1) 4 aa.1 fuel (↑param:Int)),.dead,.dead,(.arr 73 3 aa.1 (fun i=>bq (aa.2 i))),(.row 37 3 4 [(ci 3),(ci (IntKind.i64.wrap ((nx l p 7).1-2))),(.im (.v (.string ⟨⟨[]⟩⟩))),(ci 1),(ci 0),(.im (.v (.string ⟨⟨[]⟩⟩))),(ci 2),(ci 1),(.im (.v (.string ⟨⟨[]⟩⟩))),(ci 4),(ci 0),(.im (.v (.string ({ data := #[115] }))))]),(.arr 40 14 ((sn ins { op:=Int.ofNat 2,a:=Int.ofNat 0,b:=Int.ofNat 0,c:=Int.ofNat 0,n:=Int.ofNat 0,args:={ n:=0,get:=fun x=>Int.ofNat 0 },k:={ kind:=Int.ofNat 2,n:=Int.ofNat 1,s:={ data:={ toList:=[] } } },names:={ n:=0,get:=fun x=>{ data:={ toList:=[] } } },place:={ fn:=Int.ofNat 0,line:=Int.ofNat 0 },exit:=Int.negSucc 0,once:=false }).1) (fun i=>bn ((sn ins { op:=Int.ofNat 2,a:=Int.ofNat 0,b:=Int.ofNat 0,c:=Int.ofNat 0,n:=Int.ofNat 0,args:={ n:=0,get:=fun x=>Int.ofNat 0 },k:={ kind:=Int.ofNat 2,n:=Int.ofNat 1,s:={ data:={ toList:=[] } } },names:={ n:=0,get:=fun x=>{ data:={ toList:=[] } } },place:={ fn:=Int.ofNat 0,line:=Int.ofNat 0 },exit:=Int.negSucc 0,once:=false }).2 i)))])) (br ((nx l (nx l p 7).2 4).1.toNat.beq 3) ((LC 20 [(.c (.rt 1 0 0)),(.a [(ci 2),(ci 0),(ci 0),(ci 0),(ci 0),dS,(ci 4),(ci 0),oo,dS,(ci 0),(ci 0),(ci (-1)),eV])] [(mW l p),(aL 0 2 ins.1 4 aa.1 fuel (↑param:Int)),(bl ins),.dead,(bE aa),(.row 37 3 4 [(ci 3),(ci (IntKind.i64.wrap ((nx l p 7).1-2))),da,(ci 1),(ci 0),da,(ci 2),(ci 1),da,(ci 4),(ci 0),oo])] (dy ins) [(mW l p),(aL 0 6 ((sn ins { op:=Int.ofNat 2,a:=Int.ofNat 0,b:=Int.ofNat 0,c:=Int.ofNat 0,n:=Int.ofNat 0,args:={ n:=0,get:=fun x=>Int.ofNat 0 },k:={ kind:=Int.ofNat 4,n:=Int.ofNat 0,s:={ data := #[115] } },names:={ n:=0,get:=fun x=>{ data:={ toList:=[] } } },place:={ fn:=Int.ofNat 0,line:=Int.ofNat 0 },exit:=Int.negSucc 0,once:=false }).1) 4 aa.1 fuel (↑param:Int)),.dead,.dead,(bE aa),(.row 37 3 4 [(ci 3),(ci (IntKind.i64.wrap ((nx l p 7).1-2))),da,(ci 1),(ci 0),da,(ci 2),(ci 1),da,(ci 4),(ci 0),oo]),(.arr 40 14 ((sn ins { op:=Int.ofNat 2,a:=Int.ofNat 0,b:=Int.ofNat 0,c:=Int.ofNat 0,n:=Int.ofNat 0,args:={ n:=0,get:=fun x=>Int.ofNat 0 },k:={ kind:=Int.ofNat 4,n:=Int.ofNat 0,s:={ data := #[115] } },names:={ n:=0,get:=fun x=>{ data:={ toList:=[] } } },place:={ fn:=Int.ofNat 0,line:=Int.ofNat 0 },exit:=Int.negSucc 0,once:=false }).1) (fun i=>bn ((sn ins { op:=Int.ofNat 2,a:=Int.ofNat 0,b:=Int.ofNat 0,c:=Int.ofNat 0,n:=Int.ofNat 0,args:={ n:=0,get:=fun x=>Int.ofNat 0 },k:={ kind:=Int.ofNat 4,n:=Int.ofNat 0,s:={ data := #[115] } },names:={ n:=0,get:=fun x=>{ data:={ toList:=[] } } },place:={ fn:=Int.ofNat 0,line:=Int.ofNat 0 },exit:=Int.negSucc 0,once:=false }).2 i)))]∧QE (.t []) [(aB l ((nx l (nx l p 7).2 4).2)),(aL 0 6 ((sn ins { op:=Int.ofNat 2,a:=Int.ofNat 0,b:=Int.ofNat 0,c:=Int.ofNat 0,n:=Int.ofNat 0,args:={ n:=0,get:=fun x=>Int.ofNat 0 },k:={ kind:=Int.ofNat 4,n:=Int.ofNat 0,s:={ data := #[115] } },names:={ n:=0,get:=fun x=>{ data:={ toList:=[] } } },place:={ fn:=Int.ofNat 0,line:=Int.ofNat 0 },exit:=Int.negSucc 0,once:=false }).1) 4 aa.1 fuel (↑param:Int)),.dead,.dead,(.arr 73 3 aa.1 (fun i=>bq (aa.2 i))),(.row 37 3 4 [(ci 3),(ci (IntKind.i64.wrap ((nx l p 7).1-2))),(.im (.v (.string ⟨⟨[]⟩⟩))),(ci 1),(ci 0),(.im (.v (.string ⟨⟨[]⟩⟩))),(ci 2),(ci 1),(.im (.v (.string ⟨⟨[]⟩⟩))),(ci 4),(ci 0),(.im (.v (.string ({ data := #[115] }))))]),(.arr 40 14 ((sn ins { op:=Int.ofNat 2,a:=Int.ofNat 0,b:=Int.ofNat 0,c:=Int.ofNat 0,n:=Int.ofNat 0,args:={ n:=0,get:=fun x=>Int.ofNat 0 },k:={ kind:=Int.ofNat 4,n:=Int.ofNat 0,s:={ data := #[115] } },names:={ n:=0,get:=fun x=>{ data:={ toList:=[] } } },place:={ fn:=Int.ofNat 0,line:=Int.ofNat 0 },exit:=Int.negSucc 0,once:=false }).1) (fun i=>bn ((sn ins { op:=Int.ofNat 2,a:=Int.ofNat 0,b:=Int.ofNat 0,c:=Int.ofNat 0,n:=Int.ofNat 0,args:={ n:=0,get:=fun x=>Int.ofNat 0 },k:={ kind:=Int.ofNat 4,n:=Int.ofNat 0,s:={ data := #[115] } },names:={ n:=0,get:=fun x=>{ data:={ toList:=[] } } },place:={ fn:=Int.ofNat 0,line:=Int.ofNat 0 },exit:=Int.negSucc 0,once:=false }).2 i)))])) (False)))))))):dh (lr l sn sx) 22 fc L QE 3 (DW sn sx l p ins aa fuel param ):=Eq.mp (by kernel_rfl) h
noncomputable abbrev pR (ax:Sq Int) (aX:Nat) (aN:Sq af) (cq:Sq ag) (ct:Int) (dJ:Nat):VS:=⟨[j4,jq],[aB ax aX,aL 0 2 aN.n 3 cq.n ct dJ,bV aN,j8 cq],[]⟩
noncomputable def vB (sn:Sq af→af→Sq af) (sx:Sq ag→ag→Sq ag) (l:Sq Int) (p:Nat) (ins:Sq af) (aa:Sq ag) (fuel:Int) (param:Nat)  : VS:=(pR l p ins aa fuel param)
noncomputable abbrev C9 (ax:Sq ag→ag→Sq ag) (aX:Sq ag) (aN:Sq Int) (cq:Nat) (ct:Sq af) (dJ:Int) (ec:Nat):ae:=.arr 73 3 ((ax aX (lv aN (vl aN (vl aN (nx aN cq 10).2 ct).2 ct).2 ct dJ ec).1).1) (fun i=>bq ((ax aX (lv aN (vl aN (vl aN (nx aN cq 10).2 ct).2 ct).2 ct dJ ec).1).2 i))
theorem Tt (L:LP) (QE:D→List ae→Prop) (sn:Sq af→af→Sq af) (sx:Sq ag→ag→Sq ag) (l:Sq Int) (p:Nat) (ins:Sq af) (aa:Sq ag) (fuel:Int) (param:Nat)  (h:(WC 19 [(.c (.rt 0 0 0)),(int 10)] (qK l p ins aa fuel param) (int ((nx l p 10).1)) 0 (aB l ((nx l p 10).2))∧(WC 23 dc [(aB l ((nx l p 10).2)),(dY ins aa fuel param),(bl ins),(bE aa)] (int ((vl l (nx l p 10).2 ins).1)) 0 (aB l ((vl l (nx l p 10).2 ins).2))∧(WC 23 dc [(aB l ((vl l (nx l p 10).2 ins).2)),(dY ins aa fuel param),(bl ins),(bE aa)] (int ((vl l (vl l (nx l p 10).2 ins).2 ins).1)) 0 (aB l ((vl l (vl l (nx l p 10).2 ins).2 ins).2))∧(LC 21 dc [(aB l ((vl l (vl l (nx l p 10).2 ins).2 ins).2)),(dY ins aa fuel param),(bl ins),(bE aa),(.box (gk 4 (vl l (nx l p 10).2 ins).1 (vl l (vl l (nx l p 10).2 ins).2 ins).1 0 (bR (I.v (Value.int IntKind.i64 (IntKind.i64.wrap (5+(nx l p 10).1))))) 0))] (ic aa) [(aB l ((lv l (vl l (vl l (nx l p 10).2 ins).2 ins).2 ins fuel param).2)),(aL 0 2 ins.1 5 ((sx aa (lv l (vl l (vl l (nx l p 10).2 ins).2 ins).2 ins fuel param).1).1) fuel (↑param:Int)),(bl ins),.dead,(.box (gk 4 (vl l (nx l p 10).2 ins).1 (vl l (vl l (nx l p 10).2 ins).2 ins).1 0 (bR (I.v (Value.int IntKind.i64 (IntKind.i64.wrap (5+(nx l p 10).1))))) 0)),(C9 sx aa l p ins fuel param)]∧(LC 20 [(.c (.rt 1 0 0)),(.a (gk 4 (vl l (nx l p 10).2 ins).1 (vl l (vl l (nx l p 10).2 ins).2 ins).1 0 (bR (I.v (Value.int IntKind.i64 (IntKind.i64.wrap (5+(nx l p 10).1))))) (Int.ofNat aa.1)))] [(aB l ((lv l (vl l (vl l (nx l p 10).2 ins).2 ins).2 ins fuel param).2)),(aL 0 2 ins.1 5 ((sx aa (lv l (vl l (vl l (nx l p 10).2 ins).2 ins).2 ins fuel param).1).1) fuel (↑param:Int)),(bl ins),.dead,(.box (gk 4 (vl l (nx l p 10).2 ins).1 (vl l (vl l (nx l p 10).2 ins).2 ins).1 0 (bR (I.v (Value.int IntKind.i64 (IntKind.i64.wrap (5+(nx l p 10).1))))) (Int.ofNat aa.1))),(C9 sx aa l p ins fuel param)] (dy ins) [(aB l ((lv l (vl l (vl l (nx l p 10).2 ins).2 ins).2 ins fuel param).2)),(aL 0 6 ((sn ins (cm 4 (vl l (nx l p 10).2 ins).1 (vl l (vl l (nx l p 10).2 ins).2 ins).1 0 (bR (I.v (Value.int IntKind.i64 (IntKind.i64.wrap (5+(nx l p 10).1))))) (Int.ofNat aa.1))).1) 5 ((sx aa (lv l (vl l (vl l (nx l p 10).2 ins).2 ins).2 ins fuel param).1).1) fuel (↑param:Int)),.dead,.dead,(.box (gk 4 (vl l (nx l p 10).2 ins).1 (vl l (vl l (nx l p 10).2 ins).2 ins).1 0 (bR (I.v (Value.int IntKind.i64 (IntKind.i64.wrap (5+(nx l p 10).1))))) (Int.ofNat aa.1))),(C9 sx aa l p ins fuel param),(.arr 40 14 ((sn ins (cm 4 (vl l (nx l p 10).2 ins).1 (vl l (vl l (nx l p 10).2 ins).2 ins).1 0 (bR (I.v (Value.int IntKind.i64 (IntKind.i64.wrap (5+(nx l p 10).1))))) (Int.ofNat aa.1))).1) (fun i=>bn ((sn ins (cm 4 (vl l (nx l p 10).2 ins).1 (vl l (vl l (nx l p 10).2 ins).2 ins).1 0 (bR (I.v (Value.int IntKind.i64 (IntKind.i64.wrap (5+(nx l p 10).1))))) (Int.ofNat aa.1))).2 i)))]∧QE (.t []) [(aB l ((lv l (vl l (vl l (nx l p 10).2 ins).2 ins).2 ins fuel param).2)),(aL 0 6 ((sn ins (cm 4 (vl l (nx l p 10).2 ins).1 (vl l (vl l (nx l p 10).2 ins).2 ins).1 0 (bR (I.v (Value.int IntKind.i64 (IntKind.i64.wrap (5+(nx l p 10).1))))) (Int.ofNat aa.1))).1) 5 ((sx aa (lv l (vl l (vl l (nx l p 10).2 ins).2 ins).2 ins fuel param).1).1) fuel (↑param:Int)),.dead,.dead,(.box (gk 4 (vl l (nx l p 10).2 ins).1 (vl l (vl l (nx l p 10).2 ins).2 ins).1 0 (bR (I.v (Value.int IntKind.i64 (IntKind.i64.wrap (5+(nx l p 10).1))))) (Int.ofNat aa.1))),(.arr 73 3 ((sx aa (lv l (vl l (vl l (nx l p 10).2 ins).2 ins).2 ins fuel param).1).1) (fun i=>bq ((sx aa (lv l (vl l (vl l (nx l p 10).2 ins).2 ins).2 ins fuel param).1).2 i))),(.arr 40 14 ((sn ins (cm 4 (vl l (nx l p 10).2 ins).1 (vl l (vl l (nx l p 10).2 ins).2 ins).1 0 (bR (I.v (Value.int IntKind.i64 (IntKind.i64.wrap (5+(nx l p 10).1))))) (Int.ofNat aa.1))).1) (fun i=>bn ((sn ins (cm 4 (vl l (nx l p 10).2 ins).1 (vl l (vl l (nx l p 10).2 ins).2 ins).1 0 (bR (I.v (Value.int IntKind.i64 (IntKind.i64.wrap (5+(nx l p 10).1))))) (Int.ofNat aa.1))).2 i)))])))))):dh (lr l sn sx) 22 fc L QE 7 (vB sn sx l p ins aa fuel param ):=Eq.mp (by kernel_rfl) h
noncomputable def yk (sn:Sq af→af→Sq af) (sx:Sq ag→ag→Sq ag) (l:Sq Int) (p:Nat) (ins:Sq af) (aa:Sq ag) (fuel:Int) (param:Nat)  : VS:=(pR l p ins aa fuel param)
noncomputable abbrev jW (ax:Sq Int) (aX:Nat) (aN:Sq af):D:=int ((vl ax (nx ax aX 2).2 aN).1)
noncomputable abbrev rU (ax:Sq Int) (aX:Nat) (aN:Sq af):ae:=aB ax ((vl ax (nx ax aX 2).2 aN).2)
noncomputable abbrev DF (ax:Sq ag→ag→Sq ag) (aX:Sq ag) (aN:Sq Int) (cq:Nat) (ct:Sq af) (dJ:Int) (ec:Nat):ae:=.arr 73 3 ((ax aX (lv aN (vl aN (nx aN cq 2).2 ct).2 ct dJ ec).1).1) (fun i=>bq ((ax aX (lv aN (vl aN (nx aN cq 2).2 ct).2 ct dJ ec).1).2 i))
theorem N0 (L:LP) (QE:D→List ae→Prop) (sn:Sq af→af→Sq af) (sx:Sq ag→ag→Sq ag) (l:Sq Int) (p:Nat) (ins:Sq af) (aa:Sq ag) (fuel:Int) (param:Nat)  (h:(WC 19 l4 (qK l p ins aa fuel param) (kE l p) 0 (aB l ((nx l p 2).2))∧(WC 23 dc [(iX l p),(dY ins aa fuel param),(bl ins),(bE aa)] (jW l p ins) 0 (aB l ((vl l (nx l p 2).2 ins).2))∧(LC 21 dc [(rU l p ins),(dY ins aa fuel param),(bl ins),(bE aa),(.box (gk 3 (vl l (nx l p 2).2 ins).1 0 0 (bR (I.v (Value.int IntKind.i64 (IntKind.i64.wrap (3+(nx l p 2).1))))) 0))] (ic aa) [(aB l ((lv l (vl l (nx l p 2).2 ins).2 ins fuel param).2)),(aL 0 2 ins.1 5 ((sx aa (lv l (vl l (nx l p 2).2 ins).2 ins fuel param).1).1) fuel (↑param:Int)),(bl ins),.dead,(.box (gk 3 (vl l (nx l p 2).2 ins).1 0 0 (bR (I.v (Value.int IntKind.i64 (IntKind.i64.wrap (3+(nx l p 2).1))))) 0)),(DF sx aa l p ins fuel param)]∧(LC 20 [(.c (.rt 1 0 0)),(.a (gk 3 (vl l (nx l p 2).2 ins).1 0 0 (bR (I.v (Value.int IntKind.i64 (IntKind.i64.wrap (3+(nx l p 2).1))))) (Int.ofNat aa.1)))] [(aB l ((lv l (vl l (nx l p 2).2 ins).2 ins fuel param).2)),(aL 0 2 ins.1 5 ((sx aa (lv l (vl l (nx l p 2).2 ins).2 ins fuel param).1).1) fuel (↑param:Int)),(bl ins),.dead,(.box (gk 3 (vl l (nx l p 2).2 ins).1 0 0 (bR (I.v (Value.int IntKind.i64 (IntKind.i64.wrap (3+(nx l p 2).1))))) (Int.ofNat aa.1))),(DF sx aa l p ins fuel param)] (dy ins) [(aB l ((lv l (vl l (nx l p 2).2 ins).2 ins fuel param).2)),(aL 0 6 ((sn ins (cm 3 (vl l (nx l p 2).2 ins).1 0 0 (bR (I.v (Value.int IntKind.i64 (IntKind.i64.wrap (3+(nx l p 2).1))))) (Int.ofNat aa.1))).1) 5 ((sx aa (lv l (vl l (nx l p 2).2 ins).2 ins fuel param).1).1) fuel (↑param:Int)),.dead,.dead,(.box (gk 3 (vl l (nx l p 2).2 ins).1 0 0 (bR (I.v (Value.int IntKind.i64 (IntKind.i64.wrap (3+(nx l p 2).1))))) (Int.ofNat aa.1))),(DF sx aa l p ins fuel param),(.arr 40 14 ((sn ins (cm 3 (vl l (nx l p 2).2 ins).1 0 0 (bR (I.v (Value.int IntKind.i64 (IntKind.i64.wrap (3+(nx l p 2).1))))) (Int.ofNat aa.1))).1) (fun i=>bn ((sn ins (cm 3 (vl l (nx l p 2).2 ins).1 0 0 (bR (I.v (Value.int IntKind.i64 (IntKind.i64.wrap (3+(nx l p 2).1))))) (Int.ofNat aa.1))).2 i)))]∧QE (.t []) [(aB l ((lv l (vl l (nx l p 2).2 ins).2 ins fuel param).2)),(aL 0 6 ((sn ins (cm 3 (vl l (nx l p 2).2 ins).1 0 0 (bR (I.v (Value.int IntKind.i64 (IntKind.i64.wrap (3+(nx l p 2).1))))) (Int.ofNat aa.1))).1) 5 ((sx aa (lv l (vl l (nx l p 2).2 ins).2 ins fuel param).1).1) fuel (↑param:Int)),.dead,.dead,(.box (gk 3 (vl l (nx l p 2).2 ins).1 0 0 (bR (I.v (Value.int IntKind.i64 (IntKind.i64.wrap (3+(nx l p 2).1))))) (Int.ofNat aa.1))),(.arr 73 3 ((sx aa (lv l (vl l (nx l p 2).2 ins).2 ins fuel param).1).1) (fun i=>bq ((sx aa (lv l (vl l (nx l p 2).2 ins).2 ins fuel param).1).2 i))),(.arr 40 14 ((sn ins (cm 3 (vl l (nx l p 2).2 ins).1 0 0 (bR (I.v (Value.int IntKind.i64 (IntKind.i64.wrap (3+(nx l p 2).1))))) (Int.ofNat aa.1))).1) (fun i=>bn ((sn ins (cm 3 (vl l (nx l p 2).2 ins).1 0 0 (bR (I.v (Value.int IntKind.i64 (IntKind.i64.wrap (3+(nx l p 2).1))))) (Int.ofNat aa.1))).2 i)))]))))):dh (lr l sn sx) 22 fc L QE 11 (yk sn sx l p ins aa fuel param ):=Eq.mp (by kernel_rfl) h
noncomputable def yj (sn:Sq af→af→Sq af) (sx:Sq ag→ag→Sq ag) (l:Sq Int) (p:Nat) (ins:Sq af) (aa:Sq ag) (fuel:Int) (param:Nat)  : VS:=(pR l p ins aa fuel param)
noncomputable abbrev iP:ae:=.row 3 1 2 [(ci 10),(ci 11)]
noncomputable abbrev rL (ax:Sq Int) (aX:Nat) (aN:Sq af):D:=int ((vl ax (vl ax (nx ax aX 2).2 aN).2 aN).1)
noncomputable abbrev xS (ax:Sq Int) (aX:Nat) (aN:Sq af) (cq:Sq ag) (ct:Int) (dJ:Nat):List ae:=[(iX ax aX),(dY aN cq ct dJ),(bl aN),(bE cq),.dead,.dead,.dead,.dead,.dead]
noncomputable abbrev yJ (ax:Sq Int) (aX:Nat) (aN:Sq af) (cq:Sq ag) (ct:Int) (dJ:Nat):List ae:=[(rU ax aX aN),(dY aN cq ct dJ),(bl aN),(bE cq),.dead,.dead,.dead,.dead,.dead]
noncomputable abbrev Ab (ax:Sq Int) (aX:Nat) (aN:Sq af):ae:=aB ax ((vl ax (vl ax (nx ax aX 2).2 aN).2 aN).2)
noncomputable abbrev z7 (ax:Sq Int) (aX:Nat) (aN:Sq af):ae:=.box (gk 4 (vl ax (nx ax aX 2).2 aN).1 (vl ax (vl ax (nx ax aX 2).2 aN).2 aN).1 0 10 0)
noncomputable abbrev rW (ax:Sq Int) (aX:Nat) (aN:Sq af) (cq:Int) (ct:Nat):ae:=aB ax ((lv ax (vl ax (vl ax (nx ax aX 2).2 aN).2 aN).2 aN cq ct).2)
noncomputable abbrev xm (ax:Sq af) (aX:Sq ag→ag→Sq ag) (aN:Sq ag) (cq:Sq Int) (ct:Nat) (dJ:Int) (ec:Nat):ae:=aL 0 2 ax.1 9 ((aX aN (lv cq (vl cq (vl cq (nx cq ct 2).2 ax).2 ax).2 ax dJ ec).1).1) dJ (↑ec:Int)
noncomputable abbrev rZ (ax:Sq ag→ag→Sq ag) (aX:Sq ag) (aN:Sq Int) (cq:Nat) (ct:Sq af) (dJ:Int) (ec:Nat):ae:=.arr 73 3 ((ax aX (lv aN (vl aN (vl aN (nx aN cq 2).2 ct).2 ct).2 ct dJ ec).1).1) (fun i=>bq ((ax aX (lv aN (vl aN (vl aN (nx aN cq 2).2 ct).2 ct).2 ct dJ ec).1).2 i))
noncomputable abbrev Fp (ax:Sq Int) (aX:Nat) (aN:Sq af) (cq:Sq ag):List C:=gk 4 (vl ax (nx ax aX 2).2 aN).1 (vl ax (vl ax (nx ax aX 2).2 aN).2 aN).1 0 10 (Int.ofNat cq.1)
noncomputable abbrev KM (ax:Sq Int) (aX:Nat) (aN:Sq af) (cq:Int) (ct:Nat) (dJ:Sq ag→ag→Sq ag) (ec:Sq ag):List ae:=[(rW ax aX aN cq ct),(xm aN dJ ec ax aX cq ct),(bl aN),.dead,iP,.dead,.dead,.dead,(.box (Fp ax aX aN ec)),(rZ dJ ec ax aX aN cq ct)]
noncomputable abbrev Pp (ax:Sq Int) (aX:Nat) (aN:Sq af) (cq:Int) (ct:Nat) (dJ:Sq af→af→Sq af) (ec:Sq ag) (qY:Sq ag→ag→Sq ag):List ae:=[(rW ax aX aN cq ct),(aL 0 10 ((dJ aN (cm 4 (vl ax (nx ax aX 2).2 aN).1 (vl ax (vl ax (nx ax aX 2).2 aN).2 aN).1 0 10 (Int.ofNat ec.1))).1) 9 ((qY ec (lv ax (vl ax (vl ax (nx ax aX 2).2 aN).2 aN).2 aN cq ct).1).1) cq (↑ct:Int)),.dead,.dead,iP,.dead,.dead,.dead,(.box (Fp ax aX aN ec)),(rZ qY ec ax aX aN cq ct),(.arr 40 14 ((dJ aN (cm 4 (vl ax (nx ax aX 2).2 aN).1 (vl ax (vl ax (nx ax aX 2).2 aN).2 aN).1 0 10 (Int.ofNat ec.1))).1) (fun i=>bn ((dJ aN (cm 4 (vl ax (nx ax aX 2).2 aN).1 (vl ax (vl ax (nx ax aX 2).2 aN).2 aN).1 0 10 (Int.ofNat ec.1))).2 i)))]
noncomputable abbrev yw (ax:Sq af):aG:=[dG,eI,(6,((dy ax),[]))]
noncomputable abbrev ya (ax:Sq Int) (aX:Nat) (aN:Sq af):ae:=.box (gk 4 (vl ax (nx ax aX 2).2 aN).1 (vl ax (vl ax (nx ax aX 2).2 aN).2 aN).1 0 11 0)
noncomputable abbrev FK (ax:Sq Int) (aX:Nat) (aN:Sq af) (cq:Sq ag):List C:=gk 4 (vl ax (nx ax aX 2).2 aN).1 (vl ax (vl ax (nx ax aX 2).2 aN).2 aN).1 0 11 (Int.ofNat cq.1)
noncomputable abbrev JD (ax:Sq Int) (aX:Nat) (aN:Sq af) (cq:Int) (ct:Nat) (dJ:Sq ag→ag→Sq ag) (ec:Sq ag):List ae:=[(rW ax aX aN cq ct),(xm aN dJ ec ax aX cq ct),(bl aN),.dead,iP,.dead,.dead,.dead,(.box (FK ax aX aN ec)),(rZ dJ ec ax aX aN cq ct)]
noncomputable abbrev OJ (ax:Sq Int) (aX:Nat) (aN:Sq af) (cq:Int) (ct:Nat) (dJ:Sq af→af→Sq af) (ec:Sq ag) (qY:Sq ag→ag→Sq ag):List ae:=[(rW ax aX aN cq ct),(aL 0 10 ((dJ aN (cm 4 (vl ax (nx ax aX 2).2 aN).1 (vl ax (vl ax (nx ax aX 2).2 aN).2 aN).1 0 11 (Int.ofNat ec.1))).1) 9 ((qY ec (lv ax (vl ax (vl ax (nx ax aX 2).2 aN).2 aN).2 aN cq ct).1).1) cq (↑ct:Int)),.dead,.dead,iP,.dead,.dead,.dead,(.box (FK ax aX aN ec)),(rZ qY ec ax aX aN cq ct),(.arr 40 14 ((dJ aN (cm 4 (vl ax (nx ax aX 2).2 aN).1 (vl ax (vl ax (nx ax aX 2).2 aN).2 aN).1 0 11 (Int.ofNat ec.1))).1) (fun i=>bn ((dJ aN (cm 4 (vl ax (nx ax aX 2).2 aN).1 (vl ax (vl ax (nx ax aX 2).2 aN).2 aN).1 0 11 (Int.ofNat ec.1))).2 i)))]
theorem Py (L:LP) (QE:D→List ae→Prop) (sn:Sq af→af→Sq af) (sx:Sq ag→ag→Sq ag) (l:Sq Int) (p:Nat) (ins:Sq af) (aa:Sq ag) (fuel:Int) (param:Nat)  (h:(WC 19 l4 [(aB l p),(dY ins aa fuel param),(bl ins),(bE aa),iP,.dead,.dead,.dead,.dead] (kE l p) 0 (aB l ((nx l p 2).2))∧nd (cC (nx l p 2).1 2) (br ((nx l p 2).1.toNat.beq 0) ((WC 23 dc [(iX l p),(dY ins aa fuel param),(bl ins),(bE aa),iP,.dead,.dead,.dead,.dead] (jW l p ins) 0 (aB l ((vl l (nx l p 2).2 ins).2))∧(WC 23 dc [(rU l p ins),(dY ins aa fuel param),(bl ins),(bE aa),iP,.dead,.dead,.dead,.dead] (rL l p ins) 0 (aB l ((vl l (vl l (nx l p 2).2 ins).2 ins).2))∧(WC 19 l4 [(aB l p),(dY ins aa fuel param),(bl ins),(bE aa),.dead,.dead,.dead,.dead,.dead] (kE l p) 0 (aB l ((nx l p 2).2))∧nd (cC (nx l p 2).1 2) (br ((nx l p 2).1.toNat.beq 0) ((WC 23 dc (xS l p ins aa fuel param) (jW l p ins) 0 (aB l ((vl l (nx l p 2).2 ins).2))∧(WC 23 dc (yJ l p ins aa fuel param) (rL l p ins) 0 (aB l ((vl l (vl l (nx l p 2).2 ins).2 ins).2))∧(LC 21 dc [(Ab l p ins),(dY ins aa fuel param),(bl ins),(bE aa),iP,.dead,.dead,.dead,(z7 l p ins)] (ic aa) [(rW l p ins fuel param),(xm ins sx aa l p fuel param),(bl ins),.dead,iP,.dead,.dead,.dead,(z7 l p ins),(rZ sx aa l p ins fuel param)]∧(LC 20 [(.c (.rt 1 0 0)),(.a (Fp l p ins aa))] (KM l p ins fuel param sx aa) (dy ins) (Pp l p ins fuel param sn aa sx)∧L (aj 22 18) ⟨(yw ins),(Pp l p ins fuel param sn aa sx),[]⟩))))) (br ((nx l p 2).1.toNat.beq 1) ((WC 23 dc (xS l p ins aa fuel param) (jW l p ins) 0 (aB l ((vl l (nx l p 2).2 ins).2))∧(WC 23 dc (yJ l p ins aa fuel param) (rL l p ins) 0 (aB l ((vl l (vl l (nx l p 2).2 ins).2 ins).2))∧(LC 21 dc [(Ab l p ins),(dY ins aa fuel param),(bl ins),(bE aa),iP,.dead,.dead,.dead,(ya l p ins)] (ic aa) [(rW l p ins fuel param),(xm ins sx aa l p fuel param),(bl ins),.dead,iP,.dead,.dead,.dead,(ya l p ins),(rZ sx aa l p ins fuel param)]∧(LC 20 [(.c (.rt 1 0 0)),(.a (FK l p ins aa))] (JD l p ins fuel param sx aa) (dy ins) (OJ l p ins fuel param sn aa sx)∧L (aj 22 18) ⟨(yw ins),(OJ l p ins fuel param sn aa sx),[]⟩))))) (False))))))) (br ((nx l p 2).1.toNat.beq 1) ((WC 23 dc [(iX l p),(dY ins aa fuel param),(bl ins),(bE aa),iP,.dead,.dead,.dead,.dead] (jW l p ins) 0 (aB l ((vl l (nx l p 2).2 ins).2))∧(WC 23 dc [(rU l p ins),(dY ins aa fuel param),(bl ins),(bE aa),iP,.dead,.dead,.dead,.dead] (rL l p ins) 0 (aB l ((vl l (vl l (nx l p 2).2 ins).2 ins).2))∧(WC 19 l4 [(aB l p),(dY ins aa fuel param),(bl ins),(bE aa),.dead,.dead,.dead,.dead,.dead] (kE l p) 0 (aB l ((nx l p 2).2))∧nd (cC (nx l p 2).1 2) (br ((nx l p 2).1.toNat.beq 0) ((WC 23 dc (xS l p ins aa fuel param) (jW l p ins) 0 (aB l ((vl l (nx l p 2).2 ins).2))∧(WC 23 dc (yJ l p ins aa fuel param) (rL l p ins) 0 (aB l ((vl l (vl l (nx l p 2).2 ins).2 ins).2))∧(LC 21 dc [(Ab l p ins),(dY ins aa fuel param),(bl ins),(bE aa),iP,.dead,.dead,.dead,(z7 l p ins)] (ic aa) [(rW l p ins fuel param),(xm ins sx aa l p fuel param),(bl ins),.dead,iP,.dead,.dead,.dead,(z7 l p ins),(rZ sx aa l p ins fuel param)]∧(LC 20 [(.c (.rt 1 0 0)),(.a (Fp l p ins aa))] (KM l p ins fuel param sx aa) (dy ins) (Pp l p ins fuel param sn aa sx)∧L (aj 22 18) ⟨(yw ins),(Pp l p ins fuel param sn aa sx),[]⟩))))) (br ((nx l p 2).1.toNat.beq 1) ((WC 23 dc (xS l p ins aa fuel param) (jW l p ins) 0 (aB l ((vl l (nx l p 2).2 ins).2))∧(WC 23 dc (yJ l p ins aa fuel param) (rL l p ins) 0 (aB l ((vl l (vl l (nx l p 2).2 ins).2 ins).2))∧(LC 21 dc [(Ab l p ins),(dY ins aa fuel param),(bl ins),(bE aa),iP,.dead,.dead,.dead,(ya l p ins)] (ic aa) [(rW l p ins fuel param),(xm ins sx aa l p fuel param),(bl ins),.dead,iP,.dead,.dead,.dead,(ya l p ins),(rZ sx aa l p ins fuel param)]∧(LC 20 [(.c (.rt 1 0 0)),(.a (FK l p ins aa))] (JD l p ins fuel param sx aa) (dy ins) (OJ l p ins fuel param sn aa sx)∧L (aj 22 18) ⟨(yw ins),(OJ l p ins fuel param sn aa sx),[]⟩))))) (False))))))) (False))))):dh (lr l sn sx) 22 fc L QE 15 (yj sn sx l p ins aa fuel param ):=Eq.mp (by kernel_rfl) h
noncomputable abbrev re (ax:Sq Int) (aX:Nat) (aN:Sq af) (cq:Sq ag) (ct:Int) (dJ:Nat):List ae:=[aB ax aX,aL 0 5 aN.n 4 cq.n ct dJ,.dead,.dead,j8 cq,bV aN]
noncomputable def te (sn:Sq af→af→Sq af) (sx:Sq ag→ag→Sq ag) (l:Sq Int) (p:Nat) (ins:Sq af) (aa:Sq ag) (fuel:Int) (param:Nat) (c:Int):VS:=⟨[j4,jq,(6,int c,[])],(re l p ins aa fuel param),[]⟩
noncomputable abbrev hX (ax:Sq af) (aX:Sq ag) (aN:Int) (cq:Nat):ae:=aL 0 5 ax.1 4 aX.1 aN (↑cq:Int)
noncomputable abbrev rq (ax:Sq Int) (aX:Nat) (aN:Sq af) (cq:Sq ag) (ct:Int) (dJ:Nat):List ae:=[(aB ax aX),(hX aN cq ct dJ),.dead,.dead,(bE cq),(bl aN)]
noncomputable abbrev C6 (ax:Sq ag→ag→Sq ag) (aX:Sq ag) (aN:Sq Int) (cq:Nat) (ct:Sq af) (dJ:Int) (ec:Nat):ae:=.arr 73 3 ((ax aX (lv aN (nx aN cq 2).2 ct dJ ec).1).1) (fun i=>bq ((ax aX (lv aN (nx aN cq 2).2 ct dJ ec).1).2 i))
theorem Oz (L:LP) (QE:D→List ae→Prop) (sn:Sq af→af→Sq af) (sx:Sq ag→ag→Sq ag) (l:Sq Int) (p:Nat) (ins:Sq af) (aa:Sq ag) (fuel:Int) (param:Nat) (c:Int) (h:(WC 19 l4 (rq l p ins aa fuel param) (kE l p) 0 (aB l ((nx l p 2).2))∧(LC 21 dc [(iX l p),(hX ins aa fuel param),.dead,.dead,(bE aa),(bl ins),(.box (gk 5 c 0 0 (nx l p 2).1 0))] (ic aa) [(aB l ((lv l (nx l p 2).2 ins fuel param).2)),(aL 0 5 ins.1 7 ((sx aa (lv l (nx l p 2).2 ins fuel param).1).1) fuel (↑param:Int)),.dead,.dead,.dead,(bl ins),(.box (gk 5 c 0 0 (nx l p 2).1 0)),(C6 sx aa l p ins fuel param)]∧(LC 20 [(.c (.rt 1 0 0)),(.a (gk 5 c 0 0 (nx l p 2).1 (Int.ofNat aa.1)))] [(aB l ((lv l (nx l p 2).2 ins fuel param).2)),(aL 0 5 ins.1 7 ((sx aa (lv l (nx l p 2).2 ins fuel param).1).1) fuel (↑param:Int)),.dead,.dead,.dead,(bl ins),(.box (gk 5 c 0 0 (nx l p 2).1 (Int.ofNat aa.1))),(C6 sx aa l p ins fuel param)] (dy ins) [(aB l ((lv l (nx l p 2).2 ins fuel param).2)),(aL 0 8 ((sn ins (cm 5 c 0 0 (nx l p 2).1 (Int.ofNat aa.1))).1) 7 ((sx aa (lv l (nx l p 2).2 ins fuel param).1).1) fuel (↑param:Int)),.dead,.dead,.dead,.dead,(.box (gk 5 c 0 0 (nx l p 2).1 (Int.ofNat aa.1))),(C6 sx aa l p ins fuel param),(.arr 40 14 ((sn ins (cm 5 c 0 0 (nx l p 2).1 (Int.ofNat aa.1))).1) (fun i=>bn ((sn ins (cm 5 c 0 0 (nx l p 2).1 (Int.ofNat aa.1))).2 i)))]∧QE (.t []) [(aB l ((lv l (nx l p 2).2 ins fuel param).2)),(aL 0 8 ((sn ins (cm 5 c 0 0 (nx l p 2).1 (Int.ofNat aa.1))).1) 7 ((sx aa (lv l (nx l p 2).2 ins fuel param).1).1) fuel (↑param:Int)),.dead,.dead,.dead,.dead,(.box (gk 5 c 0 0 (nx l p 2).1 (Int.ofNat aa.1))),(.arr 73 3 ((sx aa (lv l (nx l p 2).2 ins fuel param).1).1) (fun i=>bq ((sx aa (lv l (nx l p 2).2 ins fuel param).1).2 i))),(.arr 40 14 ((sn ins (cm 5 c 0 0 (nx l p 2).1 (Int.ofNat aa.1))).1) (fun i=>bn ((sn ins (cm 5 c 0 0 (nx l p 2).1 (Int.ofNat aa.1))).2 i)))])))):dh (lr l sn sx) 22 fc L QE 18 (te sn sx l p ins aa fuel param c):=Eq.mp (by kernel_rfl) h
noncomputable def tg (sn:Sq af→af→Sq af) (sx:Sq ag→ag→Sq ag) (l:Sq Int) (p:Nat) (ins:Sq af) (aa:Sq ag) (fuel:Int) (param:Nat)  : VS:=(pR l p ins aa fuel param)
noncomputable abbrev Fo (ax:Sq Int) (aX:Nat) (aN:Sq af) (cq:Int) (ct:Nat) (dJ:Sq af→af→Sq af) (ec:Sq ag) (qY:Sq ag→ag→Sq ag):List ae:=[(aB ax ((eW ax aX aN cq ct).2)),(aL 0 5 ((dJ aN (ia ax aX aN ct ec.1)).1) 4 ((qY ec (eW ax aX aN cq ct).1).1) cq (↑ct:Int)),.dead,.dead,(.arr 73 3 ((qY ec (eW ax aX aN cq ct).1).1) (fun i=>bq ((qY ec (eW ax aX aN cq ct).1).2 i))),(.arr 40 14 ((dJ aN (ia ax aX aN ct ec.1)).1) (fun i=>bn ((dJ aN (ia ax aX aN ct ec.1)).2 i)))]
theorem O7 (L:LP) (QE:D→List ae→Prop) (sn:Sq af→af→Sq af) (sx:Sq ag→ag→Sq ag) (l:Sq Int) (p:Nat) (ins:Sq af) (aa:Sq ag) (fuel:Int) (param:Nat)  (h:(LC 34 dc (qK l p ins aa fuel param) (int ((gf l p ins param).1)) (Fo l p ins fuel param sn aa sx)∧L (aj 22 24) ⟨[dG,eI,(8,((int ((gf l p ins param).1)),[]))],(Fo l p ins fuel param sn aa sx),[]⟩)):dh (lr l sn sx) 22 fc L QE 23 (tg sn sx l p ins aa fuel param ):=Eq.mp (by kernel_rfl) h
noncomputable def yZ (sn:Sq af→af→Sq af) (sx:Sq ag→ag→Sq ag) (l:Sq Int) (p:Nat) (ins:Sq af) (aa:Sq ag) (fuel:Int) (param:Nat) (c:Int):VS:=⟨[j4,jq,(8,int c,[])],(re l p ins aa fuel param),[]⟩
noncomputable abbrev Kq (ax:Sq Int) (aX:Nat) (aN:Sq af→af→Sq af) (cq:Sq af) (ct:Int) (dJ:Sq ag) (ec:Int) (qY:Nat):List ae:=[(iX ax aX),(aL 0 6 ((aN cq (cm 10 ct 0 0 (nx ax aX 2).1 (-1))).1) 4 dJ.1 ec (↑qY:Int)),.dead,.dead,(bE dJ),.dead,(.arr 40 14 ((aN cq (cm 10 ct 0 0 (nx ax aX 2).1 (-1))).1) (fun i=>bn ((aN cq (cm 10 ct 0 0 (nx ax aX 2).1 (-1))).2 i)))]
theorem NG (L:LP) (QE:D→List ae→Prop) (sn:Sq af→af→Sq af) (sx:Sq ag→ag→Sq ag) (l:Sq Int) (p:Nat) (ins:Sq af) (aa:Sq ag) (fuel:Int) (param:Nat) (c:Int) (h:(WC 19 l4 (rq l p ins aa fuel param) (kE l p) 0 (aB l ((nx l p 2).2))∧(LC 20 [(.c (.rt 1 0 0)),(.a (gk 10 c 0 0 (nx l p 2).1 (-1)))] [(iX l p),(hX ins aa fuel param),.dead,.dead,(bE aa),(bl ins)] (dy ins) (Kq l p sn ins c aa fuel param)∧QE (.t []) [(aB l ((nx l p 2).2)),(aL 0 6 ((sn ins (cm 10 c 0 0 (nx l p 2).1 (-1))).1) 4 aa.1 fuel (↑param:Int)),.dead,.dead,(.arr 73 3 aa.1 (fun i=>bq (aa.2 i))),.dead,(.arr 40 14 ((sn ins (cm 10 c 0 0 (nx l p 2).1 (-1))).1) (fun i=>bn ((sn ins (cm 10 c 0 0 (nx l p 2).1 (-1))).2 i)))]))):dh (lr l sn sx) 22 fc L QE 24 (yZ sn sx l p ins aa fuel param c):=Eq.mp (by kernel_rfl) h
noncomputable def Af (sn:Sq af→af→Sq af) (sx:Sq ag→ag→Sq ag) (l:Sq Int) (p:Nat) (ins:Sq af) (aa:Sq ag) (fuel:Int) (param:Nat)  : VS:=(pR l p ins aa fuel param)
theorem Pq (L:LP) (QE:D→List ae→Prop) (sn:Sq af→af→Sq af) (sx:Sq ag→ag→Sq ag) (l:Sq Int) (p:Nat) (ins:Sq af) (aa:Sq ag) (fuel:Int) (param:Nat)  (h:(LC 34 dc (qK l p ins aa fuel param) (int ((gf l p ins param).1)) (Fo l p ins fuel param sn aa sx)∧L (aj 22 27) ⟨[dG,eI,(9,((int ((gf l p ins param).1)),[]))],(Fo l p ins fuel param sn aa sx),[]⟩)):dh (lr l sn sx) 22 fc L QE 26 (Af sn sx l p ins aa fuel param ):=Eq.mp (by kernel_rfl) h
noncomputable def yO (sn:Sq af→af→Sq af) (sx:Sq ag→ag→Sq ag) (l:Sq Int) (p:Nat) (ins:Sq af) (aa:Sq ag) (fuel:Int) (param:Nat) (c:Int):VS:=⟨[j4,jq,(9,int c,[])],(re l p ins aa fuel param),[]⟩
theorem Pl (L:LP) (QE:D→List ae→Prop) (sn:Sq af→af→Sq af) (sx:Sq ag→ag→Sq ag) (l:Sq Int) (p:Nat) (ins:Sq af) (aa:Sq ag) (fuel:Int) (param:Nat) (c:Int) (h:(WC 23 dc (rq l p ins aa fuel param) (int ((vl l p ins).1)) 0 (aB l ((vl l p ins).2))∧(WC 19 l4 [(aB l ((vl l p ins).2)),(hX ins aa fuel param),.dead,.dead,(bE aa),(bl ins)] (int ((nx l (vl l p ins).2 2).1)) 0 (aB l ((nx l (vl l p ins).2 2).2))∧(LC 20 [(.c (.rt 1 0 0)),(.a (gk 11 c (vl l p ins).1 0 (nx l (vl l p ins).2 2).1 (-1)))] [(tp l p ins),(hX ins aa fuel param),.dead,.dead,(bE aa),(bl ins)] (dy ins) [(tp l p ins),(aL 0 6 ((sn ins (cm 11 c (vl l p ins).1 0 (nx l (vl l p ins).2 2).1 (-1))).1) 4 aa.1 fuel (↑param:Int)),.dead,.dead,(bE aa),.dead,(.arr 40 14 ((sn ins (cm 11 c (vl l p ins).1 0 (nx l (vl l p ins).2 2).1 (-1))).1) (fun i=>bn ((sn ins (cm 11 c (vl l p ins).1 0 (nx l (vl l p ins).2 2).1 (-1))).2 i)))]∧QE (.t []) [(aB l ((nx l (vl l p ins).2 2).2)),(aL 0 6 ((sn ins (cm 11 c (vl l p ins).1 0 (nx l (vl l p ins).2 2).1 (-1))).1) 4 aa.1 fuel (↑param:Int)),.dead,.dead,(.arr 73 3 aa.1 (fun i=>bq (aa.2 i))),.dead,(.arr 40 14 ((sn ins (cm 11 c (vl l p ins).1 0 (nx l (vl l p ins).2 2).1 (-1))).1) (fun i=>bn ((sn ins (cm 11 c (vl l p ins).1 0 (nx l (vl l p ins).2 2).1 (-1))).2 i)))])))):dh (lr l sn sx) 22 fc L QE 27 (yO sn sx l p ins aa fuel param c):=Eq.mp (by kernel_rfl) h
noncomputable def sZ (sn:Sq af→af→Sq af) (sx:Sq ag→ag→Sq ag) (l:Sq Int) (p:Nat) (ins:Sq af) (aa:Sq ag) (fuel:Int) (param:Nat)  : VS:=(pR l p ins aa fuel param)
noncomputable abbrev Qi (ax:Sq Int) (aX:Nat) (aN:Sq af) (cq:Int) (ct:Nat) (dJ:Sq af→af→Sq af) (ec:Sq ag) (qY:Sq ag→ag→Sq ag):List ae:=[(aB ax ((lv ax aX aN cq ct).2)),(aL 0 6 ((dJ aN (cm 15 0 0 0 32 (Int.ofNat ec.1))).1) 5 ((qY ec (lv ax aX aN cq ct).1).1) cq (↑ct:Int)),.dead,.dead,(.box (gk 15 0 0 0 32 (Int.ofNat ec.1))),(wO qY ec ax aX aN cq ct),(.arr 40 14 ((dJ aN (cm 15 0 0 0 32 (Int.ofNat ec.1))).1) (fun i=>bn ((dJ aN (cm 15 0 0 0 32 (Int.ofNat ec.1))).2 i)))]
theorem NX (L:LP) (QE:D→List ae→Prop) (sn:Sq af→af→Sq af) (sx:Sq ag→ag→Sq ag) (l:Sq Int) (p:Nat) (ins:Sq af) (aa:Sq ag) (fuel:Int) (param:Nat)  (h:(LC 21 dc [(aB l p),(dY ins aa fuel param),(bl ins),(bE aa),(.box (gk 15 0 0 0 32 0))] (ic aa) [(aB l ((lv l p ins fuel param).2)),(aL 0 2 ins.1 5 ((sx aa (lv l p ins fuel param).1).1) fuel (↑param:Int)),(bl ins),.dead,(.box (gk 15 0 0 0 32 0)),(wO sx aa l p ins fuel param)]∧(LC 20 [(.c (.rt 1 0 0)),(.a (gk 15 0 0 0 32 (Int.ofNat aa.1)))] [(aB l ((lv l p ins fuel param).2)),(aL 0 2 ins.1 5 ((sx aa (lv l p ins fuel param).1).1) fuel (↑param:Int)),(bl ins),.dead,(.box (gk 15 0 0 0 32 (Int.ofNat aa.1))),(wO sx aa l p ins fuel param)] (dy ins) (Qi l p ins fuel param sn aa sx)∧L (aj 22 33) ⟨[dG,eI],(Qi l p ins fuel param sn aa sx),[]⟩))):dh (lr l sn sx) 22 fc L QE 30 (sZ sn sx l p ins aa fuel param ):=Eq.mp (by kernel_rfl) h
noncomputable def zu (sn:Sq af→af→Sq af) (sx:Sq ag→ag→Sq ag) (l:Sq Int) (p:Nat) (ins:Sq af) (aa:Sq ag) (fuel:Int) (param:Nat)  : VS:=⟨[j4,jq],(re l p ins aa fuel param),[]⟩
noncomputable abbrev PO (ax:Sq Int) (aX:Nat) (aN:Sq af→af→Sq af) (cq:Sq af) (ct:Sq ag) (dJ:Int) (ec:Nat):List ae:=[(aB ax aX),(aL 0 6 ((aN cq { op:=Int.ofNat 16,a:=Int.ofNat 0,b:=Int.ofNat 0,c:=Int.ofNat 0,n:=Int.ofNat 0,args:={ n:=0,get:=fun x=>Int.ofNat 0 },k:={ kind:=Int.ofNat 0,n:=Int.ofNat 0,s:={ data:={ toList:=[] } } },names:={ n:=2,get:=fun i=>rS (ff (Ig.get i)) },place:={ fn:=Int.ofNat 0,line:=Int.ofNat 0 },exit:=Int.negSucc 0,once:=false }).1) 4 ct.1 dJ (↑ec:Int)),.dead,.dead,(bE ct),.dead,(.arr 40 14 ((aN cq { op:=Int.ofNat 16,a:=Int.ofNat 0,b:=Int.ofNat 0,c:=Int.ofNat 0,n:=Int.ofNat 0,args:={ n:=0,get:=fun x=>Int.ofNat 0 },k:={ kind:=Int.ofNat 0,n:=Int.ofNat 0,s:={ data:={ toList:=[] } } },names:={ n:=2,get:=fun i=>rS (ff (Ig.get i)) },place:={ fn:=Int.ofNat 0,line:=Int.ofNat 0 },exit:=Int.negSucc 0,once:=false }).1) (fun i=>bn ((aN cq { op:=Int.ofNat 16,a:=Int.ofNat 0,b:=Int.ofNat 0,c:=Int.ofNat 0,n:=Int.ofNat 0,args:={ n:=0,get:=fun x=>Int.ofNat 0 },k:={ kind:=Int.ofNat 0,n:=Int.ofNat 0,s:={ data:={ toList:=[] } } },names:={ n:=2,get:=fun i=>rS (ff (Ig.get i)) },place:={ fn:=Int.ofNat 0,line:=Int.ofNat 0 },exit:=Int.negSucc 0,once:=false }).2 i)))]
theorem Ov (L:LP) (QE:D→List ae→Prop) (sn:Sq af→af→Sq af) (sx:Sq ag→ag→Sq ag) (l:Sq Int) (p:Nat) (ins:Sq af) (aa:Sq ag) (fuel:Int) (param:Nat)  (h:(LC 26 [] [] (.c vo) []∧(LC 20 [(.c (.rt 1 0 0)),(.a [(ci 16),(ci 0),(ci 0),(ci 0),(ci 0),dS,(ci 0),(ci 0),da,vo,(ci 0),(ci 0),(ci (-1)),eV])] (rq l p ins aa fuel param) (dy ins) (PO l p sn ins aa fuel param)∧L (aj 22 34) ⟨[dG,eI,(11,((dy ins),[]))],(PO l p sn ins aa fuel param),[]⟩))):dh (lr l sn sx) 22 fc L QE 33 (zu sn sx l p ins aa fuel param ):=Eq.mp (by kernel_rfl) h
noncomputable def yp (sn:Sq af→af→Sq af) (sx:Sq ag→ag→Sq ag) (l:Sq Int) (p:Nat) (ins:Sq af) (aa:Sq ag) (fuel:Int) (param:Nat) (c:Int):VS:=⟨[j4,jq,(11,int c,[])],(re l p ins aa fuel param),[]⟩
noncomputable abbrev PL (ax:Sq Int) (aX aN:Nat) (cq:Sq af→af→Sq af) (ct:Sq af) (dJ:Int) (ec:Sq ag) (qY:Int):List ae:=[(aB ax ((nx ax (nx ax aX (↑aN:Int)).2 2).2)),(aL 0 6 ((cq ct (cm 11 dJ (nx ax aX (↑aN:Int)).1 0 (nx ax (nx ax aX (↑aN:Int)).2 2).1 (-1))).1) 4 ec.1 qY (↑aN:Int)),.dead,.dead,(bE ec),.dead,(.arr 40 14 ((cq ct (cm 11 dJ (nx ax aX (↑aN:Int)).1 0 (nx ax (nx ax aX (↑aN:Int)).2 2).1 (-1))).1) (fun i=>bn ((cq ct (cm 11 dJ (nx ax aX (↑aN:Int)).1 0 (nx ax (nx ax aX (↑aN:Int)).2 2).1 (-1))).2 i)))]
theorem Pm (L:LP) (QE:D→List ae→Prop) (sn:Sq af→af→Sq af) (sx:Sq ag→ag→Sq ag) (l:Sq Int) (p:Nat) (ins:Sq af) (aa:Sq ag) (fuel:Int) (param:Nat) (c:Int) (h:(WC 19 [(.c (.rt 0 0 0)),(mS param)] (rq l p ins aa fuel param) (int ((nx l p (↑param:Int)).1)) 0 (aB l ((nx l p (↑param:Int)).2))∧(WC 19 l4 [(aB l ((nx l p (↑param:Int)).2)),(hX ins aa fuel param),.dead,.dead,(bE aa),(bl ins)] (int ((nx l (nx l p (↑param:Int)).2 2).1)) 0 (aB l ((nx l (nx l p (↑param:Int)).2 2).2))∧(LC 20 [(.c (.rt 1 0 0)),(.a (gk 11 c (nx l p (↑param:Int)).1 0 (nx l (nx l p (↑param:Int)).2 2).1 (-1)))] [(aB l ((nx l (nx l p (↑param:Int)).2 2).2)),(hX ins aa fuel param),.dead,.dead,(bE aa),(bl ins)] (dy ins) (PL l p param sn ins c aa fuel)∧L (aj 22 35) ⟨[dG,eI,(11,((int c),[]))],(PL l p param sn ins c aa fuel),[]⟩)))):dh (lr l sn sx) 22 fc L QE 34 (yp sn sx l p ins aa fuel param c):=Eq.mp (by kernel_rfl) h
noncomputable def yU (sn:Sq af→af→Sq af) (sx:Sq ag→ag→Sq ag) (l:Sq Int) (p:Nat) (ins:Sq af) (aa:Sq ag) (fuel:Int) (param:Nat) (c:Int):VS:=⟨[j4,jq,(11,int c,[])],(re l p ins aa fuel param),[]⟩
theorem OV (L:LP) (QE:D→List ae→Prop) (sn:Sq af→af→Sq af) (sx:Sq ag→ag→Sq ag) (l:Sq Int) (p:Nat) (ins:Sq af) (aa:Sq ag) (fuel:Int) (param:Nat) (c:Int) (h:(WC 19 l4 (rq l p ins aa fuel param) (kE l p) 0 (aB l ((nx l p 2).2))∧(LC 20 [(.c (.rt 1 0 0)),(.a (gk 10 c 0 0 (nx l p 2).1 (-1)))] [(iX l p),(hX ins aa fuel param),.dead,.dead,(bE aa),(bl ins)] (dy ins) (Kq l p sn ins c aa fuel param)∧QE (.t []) [(aB l ((nx l p 2).2)),(aL 0 6 ((sn ins (cm 10 c 0 0 (nx l p 2).1 (-1))).1) 4 aa.1 fuel (↑param:Int)),.dead,.dead,(.arr 73 3 aa.1 (fun i=>bq (aa.2 i))),.dead,(.arr 40 14 ((sn ins (cm 10 c 0 0 (nx l p 2).1 (-1))).1) (fun i=>bn ((sn ins (cm 10 c 0 0 (nx l p 2).1 (-1))).2 i)))]))):dh (lr l sn sx) 22 fc L QE 35 (yU sn sx l p ins aa fuel param c):=Eq.mp (by kernel_rfl) h
noncomputable def xD (sn:Sq af→af→Sq af) (sx:Sq ag→ag→Sq ag) (l:Sq Int) (p:Nat) (ins:Sq af) (aa:Sq ag) (fuel:Int) (param:Nat)  : VS:=(pR l p ins aa fuel param)
noncomputable abbrev CP (ax:Sq ag→ag→Sq ag) (aX:Sq ag) (aN:Sq Int) (cq:Nat) (ct:Sq af) (dJ:Int) (ec:Nat):ae:=.arr 73 3 ((ax aX (lv aN (vl aN (vl aN cq ct).2 ct).2 ct dJ ec).1).1) (fun i=>bq ((ax aX (lv aN (vl aN (vl aN cq ct).2 ct).2 ct dJ ec).1).2 i))
noncomputable abbrev EA (ax:Sq Int) (aX:Nat) (aN:Sq af) (cq:Sq ag):List C:=gk 9 (vl ax aX aN).1 (vl ax (vl ax aX aN).2 aN).1 0 0 (Int.ofNat cq.1)
noncomputable abbrev Qc (ax:Sq Int) (aX:Nat) (aN:Sq af) (cq:Int) (ct:Nat) (dJ:Sq af→af→Sq af) (ec:Sq ag) (qY:Sq ag→ag→Sq ag):List ae:=[(aB ax ((lv ax (vl ax (vl ax aX aN).2 aN).2 aN cq ct).2)),(aL 0 6 ((dJ aN (cm 9 (vl ax aX aN).1 (vl ax (vl ax aX aN).2 aN).1 0 0 (Int.ofNat ec.1))).1) 5 ((qY ec (lv ax (vl ax (vl ax aX aN).2 aN).2 aN cq ct).1).1) cq (↑ct:Int)),.dead,.dead,(.box (EA ax aX aN ec)),(CP qY ec ax aX aN cq ct),(.arr 40 14 ((dJ aN (cm 9 (vl ax aX aN).1 (vl ax (vl ax aX aN).2 aN).1 0 0 (Int.ofNat ec.1))).1) (fun i=>bn ((dJ aN (cm 9 (vl ax aX aN).1 (vl ax (vl ax aX aN).2 aN).1 0 0 (Int.ofNat ec.1))).2 i)))]
theorem OE (L:LP) (QE:D→List ae→Prop) (sn:Sq af→af→Sq af) (sx:Sq ag→ag→Sq ag) (l:Sq Int) (p:Nat) (ins:Sq af) (aa:Sq ag) (fuel:Int) (param:Nat)  (h:(WC 23 dc (qK l p ins aa fuel param) (int ((vl l p ins).1)) 0 (aB l ((vl l p ins).2))∧(WC 23 dc [(aB l ((vl l p ins).2)),(dY ins aa fuel param),(bl ins),(bE aa)] (int ((vl l (vl l p ins).2 ins).1)) 0 (aB l ((vl l (vl l p ins).2 ins).2))∧(LC 21 dc [(aB l ((vl l (vl l p ins).2 ins).2)),(dY ins aa fuel param),(bl ins),(bE aa),(.box (gk 9 (vl l p ins).1 (vl l (vl l p ins).2 ins).1 0 0 0))] (ic aa) [(aB l ((lv l (vl l (vl l p ins).2 ins).2 ins fuel param).2)),(aL 0 2 ins.1 5 ((sx aa (lv l (vl l (vl l p ins).2 ins).2 ins fuel param).1).1) fuel (↑param:Int)),(bl ins),.dead,(.box (gk 9 (vl l p ins).1 (vl l (vl l p ins).2 ins).1 0 0 0)),(CP sx aa l p ins fuel param)]∧(LC 20 [(.c (.rt 1 0 0)),(.a (EA l p ins aa))] [(aB l ((lv l (vl l (vl l p ins).2 ins).2 ins fuel param).2)),(aL 0 2 ins.1 5 ((sx aa (lv l (vl l (vl l p ins).2 ins).2 ins fuel param).1).1) fuel (↑param:Int)),(bl ins),.dead,(.box (EA l p ins aa)),(CP sx aa l p ins fuel param)] (dy ins) (Qc l p ins fuel param sn aa sx)∧L (aj 22 40) ⟨[dG,eI,(12,((.c (.rt 4 0 0)),[]))],(Qc l p ins fuel param sn aa sx),[]⟩))))):dh (lr l sn sx) 22 fc L QE 37 (xD sn sx l p ins aa fuel param ):=Eq.mp (by kernel_rfl) h
noncomputable def xM (sn:Sq af→af→Sq af) (sx:Sq ag→ag→Sq ag) (l:Sq Int) (p:Nat) (ins:Sq af) (aa:Sq ag) (fuel:Int) (param:Nat) (x:af):VS:=⟨[j4,jq,(12,.c (.rt 6 0 0),[])],[aB l p,aL 0 5 ins.n 4 aa.n fuel param,.dead,.dead,j8 aa,bV ins,.box (lift (aT x))],[]⟩
noncomputable abbrev L7 (ax:Sq Int) (aX:Nat) (aN:Sq af) (cq:Sq af→af→Sq af) (ct:af) (dJ:Sq ag) (ec:Int) (qY:Nat):List ae:=[(rU ax aX aN),(aL 0 9 ((cq aN (cm 13 ct.2 ct.3 (vl ax (nx ax aX 2).2 aN).1 0 (-1))).1) 4 dJ.1 ec (↑qY:Int)),.dead,.dead,(bE dJ),.dead,(cY ct),.dead,.dead,(.arr 40 14 ((cq aN (cm 13 ct.2 ct.3 (vl ax (nx ax aX 2).2 aN).1 0 (-1))).1) (fun i=>bn ((cq aN (cm 13 ct.2 ct.3 (vl ax (nx ax aX 2).2 aN).1 0 (-1))).2 i)))]
theorem O6 (L:LP) (QE:D→List ae→Prop) (sn:Sq af→af→Sq af) (sx:Sq ag→ag→Sq ag) (l:Sq Int) (p:Nat) (ins:Sq af) (aa:Sq ag) (fuel:Int) (param:Nat) (x:af) (h:(WC 19 l4 [(aB l p),(hX ins aa fuel param),.dead,.dead,(bE aa),(bl ins),(cY x)] (kE l p) 0 (aB l ((nx l p 2).2))∧br ((nx l p 2).1==0) ((LC 20 [(.c (.rt 1 0 0)),(.a (gk 12 x.2 x.3 0 0 (-1)))] [(iX l p),(hX ins aa fuel param),.dead,.dead,(bE aa),(bl ins),(cY x)] (dy ins) [(iX l p),(aL 0 7 ((sn ins (cm 12 x.2 x.3 0 0 (-1))).1) 4 aa.1 fuel (↑param:Int)),.dead,.dead,(bE aa),.dead,(cY x),(.arr 40 14 ((sn ins (cm 12 x.2 x.3 0 0 (-1))).1) (fun i=>bn ((sn ins (cm 12 x.2 x.3 0 0 (-1))).2 i)))]∧QE (.t []) [(aB l ((nx l p 2).2)),(aL 0 7 ((sn ins (cm 12 x.2 x.3 0 0 (-1))).1) 4 aa.1 fuel (↑param:Int)),.dead,.dead,(.arr 73 3 aa.1 (fun i=>bq (aa.2 i))),.dead,(.box (lift (aT (x)))),(.arr 40 14 ((sn ins (cm 12 x.2 x.3 0 0 (-1))).1) (fun i=>bn ((sn ins (cm 12 x.2 x.3 0 0 (-1))).2 i)))])) ((WC 23 dc [(iX l p),(hX ins aa fuel param),.dead,.dead,(bE aa),(bl ins),(cY x),.dead,.dead] (jW l p ins) 0 (aB l ((vl l (nx l p 2).2 ins).2))∧(LC 20 [(.c (.rt 1 0 0)),(.a (gk 13 x.2 x.3 (vl l (nx l p 2).2 ins).1 0 (-1)))] [(rU l p ins),(hX ins aa fuel param),.dead,.dead,(bE aa),(bl ins),(cY x),.dead,.dead] (dy ins) (L7 l p ins sn x aa fuel param)∧(WC 23 dc [(iX l p),(hX ins aa fuel param),.dead,.dead,(bE aa),(bl ins),(cY x),.dead,.dead] (jW l p ins) 0 (aB l ((vl l (nx l p 2).2 ins).2))∧(LC 20 [(.c (.rt 1 0 0)),(.a (gk 13 x.2 x.3 (vl l (nx l p 2).2 ins).1 0 (-1)))] [(rU l p ins),(hX ins aa fuel param),.dead,.dead,(bE aa),(bl ins),(cY x),.dead,.dead] (dy ins) (L7 l p ins sn x aa fuel param)∧QE (.t []) [(aB l ((vl l (nx l p 2).2 ins).2)),(aL 0 9 ((sn ins (cm 13 x.2 x.3 (vl l (nx l p 2).2 ins).1 0 (-1))).1) 4 aa.1 fuel (↑param:Int)),.dead,.dead,(.arr 73 3 aa.1 (fun i=>bq (aa.2 i))),.dead,(.box (lift (aT (x)))),.dead,.dead,(.arr 40 14 ((sn ins (cm 13 x.2 x.3 (vl l (nx l p 2).2 ins).1 0 (-1))).1) (fun i=>bn ((sn ins (cm 13 x.2 x.3 (vl l (nx l p 2).2 ins).1 0 (-1))).2 i)))]))))))):dh (lr l sn sx) 22 fc L QE 40 (xM sn sx l p ins aa fuel param x):=Eq.mp (by kernel_rfl) h
noncomputable def zf (sn:Sq af→af→Sq af) (sx:Sq ag→ag→Sq ag) (l:Sq Int) (p:Nat) (ins:Sq af) (aa:Sq ag) (fuel:Int) (param:Nat)  : VS:=(pR l p ins aa fuel param)
noncomputable abbrev CY (ax:Sq ag→ag→Sq ag) (aX:Sq ag) (aN:Sq Int) (cq:Nat) (ct:Sq af) (dJ:Int) (ec:Nat):ae:=.arr 73 3 ((ax aX (lv aN (vl aN cq ct).2 ct dJ ec).1).1) (fun i=>bq ((ax aX (lv aN (vl aN cq ct).2 ct dJ ec).1).2 i))
noncomputable abbrev PU (ax:Sq Int) (aX:Nat) (aN:Sq af) (cq:Int) (ct:Nat) (dJ:Sq af→af→Sq af) (ec:Sq ag) (qY:Sq ag→ag→Sq ag):List ae:=[(aB ax ((lv ax (vl ax aX aN).2 aN cq ct).2)),(aL 0 6 ((dJ aN (cm 8 (vl ax aX aN).1 0 0 0 (Int.ofNat ec.1))).1) 5 ((qY ec (lv ax (vl ax aX aN).2 aN cq ct).1).1) cq (↑ct:Int)),.dead,.dead,(.box (gk 8 (vl ax aX aN).1 0 0 0 (Int.ofNat ec.1))),(CY qY ec ax aX aN cq ct),(.arr 40 14 ((dJ aN (cm 8 (vl ax aX aN).1 0 0 0 (Int.ofNat ec.1))).1) (fun i=>bn ((dJ aN (cm 8 (vl ax aX aN).1 0 0 0 (Int.ofNat ec.1))).2 i)))]
theorem M8 (L:LP) (QE:D→List ae→Prop) (sn:Sq af→af→Sq af) (sx:Sq ag→ag→Sq ag) (l:Sq Int) (p:Nat) (ins:Sq af) (aa:Sq ag) (fuel:Int) (param:Nat)  (h:(WC 23 dc (qK l p ins aa fuel param) (int ((vl l p ins).1)) 0 (aB l ((vl l p ins).2))∧(LC 21 dc [(aB l ((vl l p ins).2)),(dY ins aa fuel param),(bl ins),(bE aa),(.box (gk 8 (vl l p ins).1 0 0 0 0))] (ic aa) [(aB l ((lv l (vl l p ins).2 ins fuel param).2)),(aL 0 2 ins.1 5 ((sx aa (lv l (vl l p ins).2 ins fuel param).1).1) fuel (↑param:Int)),(bl ins),.dead,(.box (gk 8 (vl l p ins).1 0 0 0 0)),(CY sx aa l p ins fuel param)]∧(LC 20 [(.c (.rt 1 0 0)),(.a (gk 8 (vl l p ins).1 0 0 0 (Int.ofNat aa.1)))] [(aB l ((lv l (vl l p ins).2 ins fuel param).2)),(aL 0 2 ins.1 5 ((sx aa (lv l (vl l p ins).2 ins fuel param).1).1) fuel (↑param:Int)),(bl ins),.dead,(.box (gk 8 (vl l p ins).1 0 0 0 (Int.ofNat aa.1))),(CY sx aa l p ins fuel param)] (dy ins) (PU l p ins fuel param sn aa sx)∧L (aj 22 47) ⟨[dG,(13,((.c (.rt 4 0 0)),[]))],(PU l p ins fuel param sn aa sx),[]⟩)))):dh (lr l sn sx) 22 fc L QE 44 (zf sn sx l p ins aa fuel param ):=Eq.mp (by kernel_rfl) h
noncomputable def zy (sn:Sq af→af→Sq af) (sx:Sq ag→ag→Sq ag) (l:Sq Int) (p:Nat) (ins:Sq af) (aa:Sq ag) (fuel:Int) (param:Nat) (x:af):VS:=⟨[j4,(13,.c (.rt 6 0 0),[])],[aB l p,aL 0 5 ins.n 4 aa.n fuel param,.dead,.dead,j8 aa,bV ins,.box (lift (aT x))],[]⟩
theorem OA (L:LP) (QE:D→List ae→Prop) (sn:Sq af→af→Sq af) (sx:Sq ag→ag→Sq ag) (l:Sq Int) (p:Nat) (ins:Sq af) (aa:Sq ag) (fuel:Int) (param:Nat) (x:af) (h:(LC 20 [(.c (.rt 1 0 0)),(.a (gk 14 x.2 0 0 0 (-1)))] [(aB l p),(hX ins aa fuel param),.dead,.dead,(bE aa),(bl ins),(cY x)] (dy ins) [(aB l p),(aL 0 7 ((sn ins (cm 14 x.2 0 0 0 (-1))).1) 4 aa.1 fuel (↑param:Int)),.dead,.dead,(bE aa),.dead,(cY x),(.arr 40 14 ((sn ins (cm 14 x.2 0 0 0 (-1))).1) (fun i=>bn ((sn ins (cm 14 x.2 0 0 0 (-1))).2 i)))]∧QE (.t []) [(aB l p),(aL 0 7 ((sn ins (cm 14 x.2 0 0 0 (-1))).1) 4 aa.1 fuel (↑param:Int)),.dead,.dead,(.arr 73 3 aa.1 (fun i=>bq (aa.2 i))),.dead,(.box (lift (aT (x)))),(.arr 40 14 ((sn ins (cm 14 x.2 0 0 0 (-1))).1) (fun i=>bn ((sn ins (cm 14 x.2 0 0 0 (-1))).2 i)))])):dh (lr l sn sx) 22 fc L QE 47 (zy sn sx l p ins aa fuel param x):=Eq.mp (by kernel_rfl) h
noncomputable def zm (sn:Sq af→af→Sq af) (sx:Sq ag→ag→Sq ag) (l:Sq Int) (p:Nat) (ins:Sq af) (aa:Sq ag) (fuel:Int) (param:Nat)  : VS:=(pR l p ins aa fuel param)
noncomputable abbrev GI (ax:Sq ag→ag→Sq ag) (aX:Sq ag) (aN:Sq Int) (cq:Nat) (ct:Sq af) (dJ:Int) (ec:Nat):ae:=.arr 73 3 ((ax aX (lv aN (nx aN (vl aN cq ct).2 4).2 ct dJ ec).1).1) (fun i=>bq ((ax aX (lv aN (nx aN (vl aN cq ct).2 4).2 ct dJ ec).1).2 i))
theorem Nv (L:LP) (QE:D→List ae→Prop) (sn:Sq af→af→Sq af) (sx:Sq ag→ag→Sq ag) (l:Sq Int) (p:Nat) (ins:Sq af) (aa:Sq ag) (fuel:Int) (param:Nat)  (h:(WC 23 dc (qK l p ins aa fuel param) (int ((vl l p ins).1)) 0 (aB l ((vl l p ins).2))∧(WC 19 [(.c (.rt 0 0 0)),(int 4)] [(aB l ((vl l p ins).2)),(dY ins aa fuel param),(bl ins),(bE aa)] (int ((nx l (vl l p ins).2 4).1)) 0 (aB l ((nx l (vl l p ins).2 4).2))∧(LC 21 dc [(aB l ((nx l (vl l p ins).2 4).2)),(dY ins aa fuel param),(bl ins),(bE aa),(.box (gk 6 (vl l p ins).1 0 0 (bR (I.v (Value.int IntKind.i64 (IntKind.i64.wrap (1+(nx l (vl l p ins).2 4).1))))) 0))] (ic aa) [(aB l ((lv l (nx l (vl l p ins).2 4).2 ins fuel param).2)),(aL 0 2 ins.1 5 ((sx aa (lv l (nx l (vl l p ins).2 4).2 ins fuel param).1).1) fuel (↑param:Int)),(bl ins),.dead,(.box (gk 6 (vl l p ins).1 0 0 (bR (I.v (Value.int IntKind.i64 (IntKind.i64.wrap (1+(nx l (vl l p ins).2 4).1))))) 0)),(GI sx aa l p ins fuel param)]∧(LC 20 [(.c (.rt 1 0 0)),(.a (gk 6 (vl l p ins).1 0 0 (bR (I.v (Value.int IntKind.i64 (IntKind.i64.wrap (1+(nx l (vl l p ins).2 4).1))))) (Int.ofNat aa.1)))] [(aB l ((lv l (nx l (vl l p ins).2 4).2 ins fuel param).2)),(aL 0 2 ins.1 5 ((sx aa (lv l (nx l (vl l p ins).2 4).2 ins fuel param).1).1) fuel (↑param:Int)),(bl ins),.dead,(.box (gk 6 (vl l p ins).1 0 0 (bR (I.v (Value.int IntKind.i64 (IntKind.i64.wrap (1+(nx l (vl l p ins).2 4).1))))) (Int.ofNat aa.1))),(GI sx aa l p ins fuel param)] (dy ins) [(aB l ((lv l (nx l (vl l p ins).2 4).2 ins fuel param).2)),(aL 0 6 ((sn ins (cm 6 (vl l p ins).1 0 0 (bR (I.v (Value.int IntKind.i64 (IntKind.i64.wrap (1+(nx l (vl l p ins).2 4).1))))) (Int.ofNat aa.1))).1) 5 ((sx aa (lv l (nx l (vl l p ins).2 4).2 ins fuel param).1).1) fuel (↑param:Int)),.dead,.dead,(.box (gk 6 (vl l p ins).1 0 0 (bR (I.v (Value.int IntKind.i64 (IntKind.i64.wrap (1+(nx l (vl l p ins).2 4).1))))) (Int.ofNat aa.1))),(GI sx aa l p ins fuel param),(.arr 40 14 ((sn ins (cm 6 (vl l p ins).1 0 0 (bR (I.v (Value.int IntKind.i64 (IntKind.i64.wrap (1+(nx l (vl l p ins).2 4).1))))) (Int.ofNat aa.1))).1) (fun i=>bn ((sn ins (cm 6 (vl l p ins).1 0 0 (bR (I.v (Value.int IntKind.i64 (IntKind.i64.wrap (1+(nx l (vl l p ins).2 4).1))))) (Int.ofNat aa.1))).2 i)))]∧L (aj 22 52) ⟨[dG,eI,(14,((.c (.rt 4 0 0)),[]))],[(aB l ((lv l (nx l (vl l p ins).2 4).2 ins fuel param).2)),(aL 0 6 ((sn ins (cm 6 (vl l p ins).1 0 0 (bR (I.v (Value.int IntKind.i64 (IntKind.i64.wrap (1+(nx l (vl l p ins).2 4).1))))) (Int.ofNat aa.1))).1) 5 ((sx aa (lv l (nx l (vl l p ins).2 4).2 ins fuel param).1).1) fuel (↑param:Int)),.dead,.dead,(.box (gk 6 (vl l p ins).1 0 0 (bR (I.v (Value.int IntKind.i64 (IntKind.i64.wrap (1+(nx l (vl l p ins).2 4).1))))) (Int.ofNat aa.1))),(GI sx aa l p ins fuel param),(.arr 40 14 ((sn ins (cm 6 (vl l p ins).1 0 0 (bR (I.v (Value.int IntKind.i64 (IntKind.i64.wrap (1+(nx l (vl l p ins).2 4).1))))) (Int.ofNat aa.1))).1) (fun i=>bn ((sn ins (cm 6 (vl l p ins).1 0 0 (bR (I.v (Value.int IntKind.i64 (IntKind.i64.wrap (1+(nx l (vl l p ins).2 4).1))))) (Int.ofNat aa.1))).2 i)))],[]⟩))))):dh (lr l sn sx) 22 fc L QE 49 (zm sn sx l p ins aa fuel param ):=Eq.mp (by kernel_rfl) h
noncomputable def xT (sn:Sq af→af→Sq af) (sx:Sq ag→ag→Sq ag) (l:Sq Int) (p:Nat) (ins:Sq af) (aa:Sq ag) (fuel:Int) (param:Nat) (x:af):VS:=⟨[j4,jq,(14,.c (.rt 6 0 0),[])],[aB l p,aL 0 5 ins.n 4 aa.n fuel param,.dead,.dead,j8 aa,bV ins,.box (lift (aT x))],[]⟩
noncomputable abbrev Ld (ax:af) (aX:Sq Int) (aN:Nat):List D:=[(.c (.rt 1 0 0)),(.a [(ci 19),(ci ax.2),(ci 0),(ci 0),(ci 0),dS,(ci 0),(ci 0),da,dS,(ci 0),(ci ((nx aX aN 3).1)),(ci (-1)),eV])]
theorem NP (L:LP) (QE:D→List ae→Prop) (sn:Sq af→af→Sq af) (sx:Sq ag→ag→Sq ag) (l:Sq Int) (p:Nat) (ins:Sq af) (aa:Sq ag) (fuel:Int) (param:Nat) (x:af) (h:(WC 19 [(.c (.rt 0 0 0)),(int 3)] [(aB l p),(hX ins aa fuel param),.dead,.dead,(bE aa),(bl ins),(cY x),.dead,.dead] (int ((nx l p 3).1)) 0 (aB l ((nx l p 3).2))∧(LC 20 (Ld x l p) [(aB l ((nx l p 3).2)),(hX ins aa fuel param),.dead,.dead,(bE aa),(bl ins),(cY x),.dead,.dead] (dy ins) [(aB l ((nx l p 3).2)),(aL 0 9 ((sn ins { op:=Int.ofNat 19,a:=x.2,b:=Int.ofNat 0,c:=Int.ofNat 0,n:=Int.ofNat 0,args:={ n:=0,get:=fun x=>Int.ofNat 0 },k:={ kind:=Int.ofNat 0,n:=Int.ofNat 0,s:={ data:={ toList:=[] } } },names:={ n:=0,get:=fun x=>{ data:={ toList:=[] } } },place:={ fn:=Int.ofNat 0,line:=(nx l p 3).1 },exit:=Int.negSucc 0,once:=false }).1) 4 aa.1 fuel (↑param:Int)),.dead,.dead,(bE aa),.dead,(cY x),.dead,.dead,(.arr 40 14 ((sn ins { op:=Int.ofNat 19,a:=x.2,b:=Int.ofNat 0,c:=Int.ofNat 0,n:=Int.ofNat 0,args:={ n:=0,get:=fun x=>Int.ofNat 0 },k:={ kind:=Int.ofNat 0,n:=Int.ofNat 0,s:={ data:={ toList:=[] } } },names:={ n:=0,get:=fun x=>{ data:={ toList:=[] } } },place:={ fn:=Int.ofNat 0,line:=(nx l p 3).1 },exit:=Int.negSucc 0,once:=false }).1) (fun i=>bn ((sn ins { op:=Int.ofNat 19,a:=x.2,b:=Int.ofNat 0,c:=Int.ofNat 0,n:=Int.ofNat 0,args:={ n:=0,get:=fun x=>Int.ofNat 0 },k:={ kind:=Int.ofNat 0,n:=Int.ofNat 0,s:={ data:={ toList:=[] } } },names:={ n:=0,get:=fun x=>{ data:={ toList:=[] } } },place:={ fn:=Int.ofNat 0,line:=(nx l p 3).1 },exit:=Int.negSucc 0,once:=false }).2 i)))]∧(WC 19 [(.c (.rt 0 0 0)),(int 3)] [(aB l p),(hX ins aa fuel param),.dead,.dead,(bE aa),(bl ins),(cY x),.dead,.dead] (int ((nx l p 3).1)) 0 (aB l ((nx l p 3).2))∧(LC 20 (Ld x l p) [(aB l ((nx l p 3).2)),(hX ins aa fuel param),.dead,.dead,(bE aa),(bl ins),(cY x),.dead,.dead] (dy ins) [(aB l ((nx l p 3).2)),(aL 0 9 ((sn ins { op:=Int.ofNat 19,a:=x.2,b:=Int.ofNat 0,c:=Int.ofNat 0,n:=Int.ofNat 0,args:={ n:=0,get:=fun x=>Int.ofNat 0 },k:={ kind:=Int.ofNat 0,n:=Int.ofNat 0,s:={ data:={ toList:=[] } } },names:={ n:=0,get:=fun x=>{ data:={ toList:=[] } } },place:={ fn:=Int.ofNat 0,line:=(nx l p 3).1 },exit:=Int.negSucc 0,once:=false }).1) 4 aa.1 fuel (↑param:Int)),.dead,.dead,(bE aa),.dead,(cY x),.dead,.dead,(.arr 40 14 ((sn ins { op:=Int.ofNat 19,a:=x.2,b:=Int.ofNat 0,c:=Int.ofNat 0,n:=Int.ofNat 0,args:={ n:=0,get:=fun x=>Int.ofNat 0 },k:={ kind:=Int.ofNat 0,n:=Int.ofNat 0,s:={ data:={ toList:=[] } } },names:={ n:=0,get:=fun x=>{ data:={ toList:=[] } } },place:={ fn:=Int.ofNat 0,line:=(nx l p 3).1 },exit:=Int.negSucc 0,once:=false }).1) (fun i=>bn ((sn ins { op:=Int.ofNat 19,a:=x.2,b:=Int.ofNat 0,c:=Int.ofNat 0,n:=Int.ofNat 0,args:={ n:=0,get:=fun x=>Int.ofNat 0 },k:={ kind:=Int.ofNat 0,n:=Int.ofNat 0,s:={ data:={ toList:=[] } } },names:={ n:=0,get:=fun x=>{ data:={ toList:=[] } } },place:={ fn:=Int.ofNat 0,line:=(nx l p 3).1 },exit:=Int.negSucc 0,once:=false }).2 i)))]∧QE (.t []) [(aB l ((nx l p 3).2)),(aL 0 9 ((sn ins { op:=Int.ofNat 19,a:=x.2,b:=Int.ofNat 0,c:=Int.ofNat 0,n:=Int.ofNat 0,args:={ n:=0,get:=fun x=>Int.ofNat 0 },k:={ kind:=Int.ofNat 0,n:=Int.ofNat 0,s:={ data:={ toList:=[] } } },names:={ n:=0,get:=fun x=>{ data:={ toList:=[] } } },place:={ fn:=Int.ofNat 0,line:=(nx l p 3).1 },exit:=Int.negSucc 0,once:=false }).1) 4 aa.1 fuel (↑param:Int)),.dead,.dead,(.arr 73 3 aa.1 (fun i=>bq (aa.2 i))),.dead,(.box (lift (aT (x)))),.dead,.dead,(.arr 40 14 ((sn ins { op:=Int.ofNat 19,a:=x.2,b:=Int.ofNat 0,c:=Int.ofNat 0,n:=Int.ofNat 0,args:={ n:=0,get:=fun x=>Int.ofNat 0 },k:={ kind:=Int.ofNat 0,n:=Int.ofNat 0,s:={ data:={ toList:=[] } } },names:={ n:=0,get:=fun x=>{ data:={ toList:=[] } } },place:={ fn:=Int.ofNat 0,line:=(nx l p 3).1 },exit:=Int.negSucc 0,once:=false }).1) (fun i=>bn ((sn ins { op:=Int.ofNat 19,a:=x.2,b:=Int.ofNat 0,c:=Int.ofNat 0,n:=Int.ofNat 0,args:={ n:=0,get:=fun x=>Int.ofNat 0 },k:={ kind:=Int.ofNat 0,n:=Int.ofNat 0,s:={ data:={ toList:=[] } } },names:={ n:=0,get:=fun x=>{ data:={ toList:=[] } } },place:={ fn:=Int.ofNat 0,line:=(nx l p 3).1 },exit:=Int.negSucc 0,once:=false }).2 i)))]))))):dh (lr l sn sx) 22 fc L QE 52 (xT sn sx l p ins aa fuel param x):=Eq.mp (by kernel_rfl) h
theorem O5 (s0:dv) (l:Sq Int) (p:Nat) (ins:Sq af) (aa:Sq ag) (fuel:Int) (param:Nat) (hl:l.n≤maxLen) (hI:ins.n≤930) (hE:aa.n≤930) (hF:0≤fuel∧fuel≤1000) (hP:param≤1000) (c:Int):ah 22 4 (w4 l s0 fuel param (TD l c ⟨p,ins,aa⟩)) (aj 22 35) (yU bC bT l p ins aa fuel param c):=by
 refine aH (X:=lr l bC bT) (stop:=fc) (OV _ _ bC bT l p ins aa fuel param c ?_)
 refine ⟨ej l _ _ hl rfl,?_⟩
 refine ⟨eM (m:=0) (q:=1) (i:=5) (j:=4) _ _ (by first|omega|(simp only [eA]; omega)) (by first|exact bp.refl _|exact iJ (by repeat' (first|exact az.nil|refine az.cons ?_ ?_|exact eN.refl _|exact eN.nil _ _))) rfl (aP rfl) rfl rfl (aP rfl),?_⟩
 exact ⟨[0,1,2,3,4,6],.t [],_,_,rfl,(rc (rc (rc (rc (rc (rc .nil)))))),⟨6,aP rfl,aP rfl,rfl,rfl,bp.refl _,⟨.inr rfl,⟨.inr rfl,⟨.inr rfl,⟨.inr rfl,⟨rfl,⟨rfl,trivial⟩⟩⟩⟩⟩⟩⟩⟩
theorem N8 (s0:dv) (l:Sq Int) (p:Nat) (ins:Sq af) (aa:Sq ag) (fuel:Int) (param:Nat) (hl:l.n≤maxLen) (hI:ins.n≤910) (hE:aa.n≤910) (hF:0≤fuel∧fuel≤1000) (hP:param≤1000) (c:Int):ah 22 4 (w4 l s0 fuel param (TD l c ⟨p,ins,aa⟩)) (aj 22 24) (yZ bC bT l p ins aa fuel param c):=by
 refine aH (X:=lr l bC bT) (stop:=fc) (NG _ _ bC bT l p ins aa fuel param c ?_)
 refine ⟨ej l _ _ hl rfl,?_⟩
 refine ⟨eM (m:=0) (q:=1) (i:=5) (j:=4) _ _ (by first|omega|(simp only [eA]; omega)) (by first|exact bp.refl _|exact iJ (by repeat' (first|exact az.nil|refine az.cons ?_ ?_|exact eN.refl _|exact eN.nil _ _))) rfl (aP rfl) rfl rfl (aP rfl),?_⟩
 exact ⟨[0,1,2,3,4,6],.t [],_,_,rfl,(rc (rc (rc (rc (rc (rc .nil)))))),⟨6,aP rfl,aP rfl,rfl,rfl,bp.refl _,⟨.inr rfl,⟨.inr rfl,⟨.inr rfl,⟨.inr rfl,⟨rfl,⟨rfl,trivial⟩⟩⟩⟩⟩⟩⟩⟩
theorem Pe (s0:dv) (l:Sq Int) (p:Nat) (ins:Sq af) (aa:Sq ag) (fuel:Int) (param:Nat) (hl:l.n≤maxLen) (hI:ins.n≤920) (hE:aa.n≤920) (hF:0≤fuel∧fuel≤1000) (hP:param≤1000) (c:Int):ah 22 4 (w4 l s0 fuel param (Wk l param c ⟨p,ins,aa⟩)) (aj 22 34) (yp bC bT l p ins aa fuel param c):=by
 refine aH (X:=lr l bC bT) (stop:=fc) (Pm _ _ bC bT l p ins aa fuel param c ?_)
 refine ⟨ej l _ _ hl rfl,?_⟩
 refine ⟨ej l _ _ hl rfl,?_⟩
 refine ⟨eM (m:=0) (q:=1) (i:=5) (j:=4) _ _ (by first|omega|(simp only [eA]; omega)) (by first|exact bp.refl _|exact iJ (by repeat' (first|exact az.nil|refine az.cons ?_ ?_|exact eN.refl _|exact eN.nil _ _))) rfl (aP rfl) rfl rfl (aP rfl),?_⟩
 exact ah.rename [0,1,2,3,4,6] rfl (ah.le (yU bC bT l ((nx l (nx l p (↑param:Int)).2 2).2) ((bC ins (cm 11 c (nx l p (↑param:Int)).1 0 (nx l (nx l p (↑param:Int)).2 2).1 (-1)))) (aa) fuel param (c)) (by repeat' (first|exact trivial|refine cR rfl ?_)) (rc (rc (rc (rc (rc (rc .nil)))))) rfl (O5 s0 l ((nx l (nx l p (↑param:Int)).2 2).2) ((bC ins (cm 11 c (nx l p (↑param:Int)).1 0 (nx l (nx l p (↑param:Int)).2 2).1 (-1)))) (aa) fuel param hl (by first|omega|(simp only [eA]; omega)) (by first|omega|(simp only [eA]; omega)) hF hP (c)))
theorem Nn (s0:dv) (l:Sq Int) (p:Nat) (ins:Sq af) (aa:Sq ag) (fuel:Int) (param:Nat) (hl:l.n≤maxLen) (hI:ins.n≤910) (hE:aa.n≤910) (hF:0≤fuel∧fuel≤1000) (hP:param≤1000)  : ah 22 4 (w4 l s0 fuel param (Wy l param ⟨p,ins,aa⟩)) (aj 22 33) (zu bC bT l p ins aa fuel param ):=by
 refine aH (X:=lr l bC bT) (stop:=fc) (Ov _ _ bC bT l p ins aa fuel param  ?_)
 refine ⟨PY,?_⟩
 refine ⟨eM (m:=0) (q:=1) (i:=5) (j:=4) _ _ (by first|omega|(simp only [eA]; omega)) (by first|exact bp.refl _|exact iJ (by repeat' (first|exact az.nil|refine az.cons ?_ ?_|exact eN.refl _|exact eN.nil _ _))) rfl (aP rfl) rfl rfl (aP rfl),?_⟩
 exact ah.rename [0,1,2,3,4,6] rfl (ah.le (yp bC bT l (p) ((bC ins { op:=Int.ofNat 16,a:=Int.ofNat 0,b:=Int.ofNat 0,c:=Int.ofNat 0,n:=Int.ofNat 0,args:={ n:=0,get:=fun x=>Int.ofNat 0 },k:={ kind:=Int.ofNat 0,n:=Int.ofNat 0,s:={ data:={ toList:=[] } } },names:={ n:=2,get:=fun i=>rS (ff (Ig.get i)) },place:={ fn:=Int.ofNat 0,line:=Int.ofNat 0 },exit:=Int.negSucc 0,once:=false })) (aa) fuel param ((↑ins.1:Int))) (by repeat' (first|exact trivial|refine cR rfl ?_)) (rc (rc (rc (rc (rc (rc .nil)))))) rfl (Pe s0 l (p) ((bC ins { op:=Int.ofNat 16,a:=Int.ofNat 0,b:=Int.ofNat 0,c:=Int.ofNat 0,n:=Int.ofNat 0,args:={ n:=0,get:=fun x=>Int.ofNat 0 },k:={ kind:=Int.ofNat 0,n:=Int.ofNat 0,s:={ data:={ toList:=[] } } },names:={ n:=2,get:=fun i=>rS (ff (Ig.get i)) },place:={ fn:=Int.ofNat 0,line:=Int.ofNat 0 },exit:=Int.negSucc 0,once:=false })) (aa) fuel param hl (by first|omega|(simp only [eA]; omega)) (by first|omega|(simp only [eA]; omega)) hF hP ((↑ins.1:Int))))
theorem Oq (s0:dv) (l:Sq Int) (p:Nat) (ins:Sq af) (aa:Sq ag) (fuel:Int) (param:Nat) (hl:l.n≤maxLen) (hI:ins.n≤910) (hE:aa.n≤910) (hF:0≤fuel∧fuel≤1000) (hP:param≤1000) (c:Int):ah 22 4 (w4 l s0 fuel param (Wq l c ⟨p,ins,aa⟩)) (aj 22 27) (yO bC bT l p ins aa fuel param c):=by
 refine aH (X:=lr l bC bT) (stop:=fc) (Pl _ _ bC bT l p ins aa fuel param c ?_)
 refine ⟨fy (m:=0) (q:=1) (i:=5) (j:=4) l _ _ hl (by omega) rfl rfl rfl rfl (aP rfl),?_⟩
 refine ⟨ej l _ _ hl rfl,?_⟩
 refine ⟨eM (m:=0) (q:=1) (i:=5) (j:=4) _ _ (by first|omega|(simp only [eA]; omega)) (by first|exact bp.refl _|exact iJ (by repeat' (first|exact az.nil|refine az.cons ?_ ?_|exact eN.refl _|exact eN.nil _ _))) rfl (aP rfl) rfl rfl (aP rfl),?_⟩
 exact ⟨[0,1,2,3,4,6],.t [],_,_,rfl,(rc (rc (rc (rc (rc (rc .nil)))))),⟨6,aP rfl,aP rfl,rfl,rfl,bp.refl _,⟨.inr rfl,⟨.inr rfl,⟨.inr rfl,⟨.inr rfl,⟨rfl,⟨rfl,trivial⟩⟩⟩⟩⟩⟩⟩⟩
theorem Og (s0:dv) (l:Sq Int) (p:Nat) (ins:Sq af) (aa:Sq ag) (fuel:Int) (param:Nat) (hl:l.n≤maxLen) (hI:ins.n≤910) (hE:aa.n≤910) (hF:0≤fuel∧fuel≤1000) (hP:param≤1000) (x:af):ah 22 4 (w4 l s0 fuel param (Qv l x ⟨p,ins,aa⟩)) (aj 22 40) (xM bC bT l p ins aa fuel param x):=by
 refine aH (X:=lr l bC bT) (stop:=fc) (O6 _ _ bC bT l p ins aa fuel param x ?_)
 refine ⟨ej l _ _ hl rfl,?_⟩
 refine ay (fun h0=>?_) (fun h0=>?_)
 ·refine ⟨eM (m:=0) (q:=1) (i:=5) (j:=4) _ _ (by first|omega|(simp only [eA]; omega)) (by first|exact bp.refl _|exact iJ (by repeat' (first|exact az.nil|refine az.cons ?_ ?_|exact eN.refl _|exact eN.nil _ _))) rfl (aP rfl) rfl rfl (aP rfl),?_⟩
  simp only [Qv,show ((nx l p 2).1==0)=true from h0,cond_true,cond_false]
  exact ⟨[0,1,2,3,4,7],.t [],_,_,rfl,(rc (rc (rc (rc (rc (rc .nil)))))),⟨6,aP rfl,aP rfl,rfl,rfl,bp.refl _,⟨.inr rfl,⟨.inr rfl,⟨.inr rfl,⟨.inr rfl,⟨rfl,⟨rfl,trivial⟩⟩⟩⟩⟩⟩⟩⟩
 ·refine ⟨fy (m:=0) (q:=1) (i:=5) (j:=4) l _ _ hl (by omega) rfl rfl rfl rfl (aP rfl),?_⟩
  refine ⟨eM (m:=0) (q:=1) (i:=5) (j:=4) _ _ (by first|omega|(simp only [eA]; omega)) (by first|exact bp.refl _|exact iJ (by repeat' (first|exact az.nil|refine az.cons ?_ ?_|exact eN.refl _|exact eN.nil _ _))) rfl (aP rfl) rfl rfl (aP rfl),?_⟩
  refine ⟨fy (m:=0) (q:=1) (i:=5) (j:=4) l _ _ hl (by omega) rfl rfl rfl rfl (aP rfl),?_⟩
  refine ⟨eM (m:=0) (q:=1) (i:=5) (j:=4) _ _ (by first|omega|(simp only [eA]; omega)) (by first|exact bp.refl _|exact iJ (by repeat' (first|exact az.nil|refine az.cons ?_ ?_|exact eN.refl _|exact eN.nil _ _))) rfl (aP rfl) rfl rfl (aP rfl),?_⟩
  simp only [Qv,show ((nx l p 2).1==0)=false from h0,cond_true,cond_false]
  exact ⟨[0,1,2,3,4,9],.t [],_,_,rfl,(rc (rc (rc (rc (rc (rc .nil)))))),⟨6,aP rfl,aP rfl,rfl,rfl,bp.refl _,⟨.inr rfl,⟨.inr rfl,⟨.inr rfl,⟨.inr rfl,⟨rfl,⟨rfl,trivial⟩⟩⟩⟩⟩⟩⟩⟩
theorem Po (s0:dv) (l:Sq Int) (p:Nat) (ins:Sq af) (aa:Sq ag) (fuel:Int) (param:Nat) (hl:l.n≤maxLen) (hI:ins.n≤910) (hE:aa.n≤910) (hF:0≤fuel∧fuel≤1000) (hP:param≤1000) (x:af):ah 22 4 (w4 l s0 fuel param (Ww x ⟨p,ins,aa⟩)) (aj 22 47) (zy bC bT l p ins aa fuel param x):=by
 refine aH (X:=lr l bC bT) (stop:=fc) (OA _ _ bC bT l p ins aa fuel param x ?_)
 refine ⟨eM (m:=0) (q:=1) (i:=5) (j:=4) _ _ (by first|omega|(simp only [eA]; omega)) (by first|exact bp.refl _|exact iJ (by repeat' (first|exact az.nil|refine az.cons ?_ ?_|exact eN.refl _|exact eN.nil _ _))) rfl (aP rfl) rfl rfl (aP rfl),?_⟩
 exact ⟨[0,1,2,3,4,7],.t [],_,_,rfl,(rc (rc (rc (rc (rc (rc .nil)))))),⟨6,aP rfl,aP rfl,rfl,rfl,bp.refl _,⟨.inr rfl,⟨.inr rfl,⟨.inr rfl,⟨.inr rfl,⟨rfl,⟨rfl,trivial⟩⟩⟩⟩⟩⟩⟩⟩
theorem NY (s0:dv) (l:Sq Int) (p:Nat) (ins:Sq af) (aa:Sq ag) (fuel:Int) (param:Nat) (hl:l.n≤maxLen) (hI:ins.n≤910) (hE:aa.n≤910) (hF:0≤fuel∧fuel≤1000) (hP:param≤1000) (x:af):ah 22 4 (w4 l s0 fuel param (Wh l x ⟨p,ins,aa⟩)) (aj 22 52) (xT bC bT l p ins aa fuel param x):=by
 refine aH (X:=lr l bC bT) (stop:=fc) (NP _ _ bC bT l p ins aa fuel param x ?_)
 refine ⟨ej l _ _ hl rfl,?_⟩
 refine ⟨eM (m:=0) (q:=1) (i:=5) (j:=4) _ _ (by first|omega|(simp only [eA]; omega)) (by first|exact bp.refl _|exact iJ (by repeat' (first|exact az.nil|refine az.cons ?_ ?_|exact eN.refl _|exact eN.nil _ _))) rfl (aP rfl) rfl rfl (aP rfl),?_⟩
 refine ⟨ej l _ _ hl rfl,?_⟩
 refine ⟨eM (m:=0) (q:=1) (i:=5) (j:=4) _ _ (by first|omega|(simp only [eA]; omega)) (by first|exact bp.refl _|exact iJ (by repeat' (first|exact az.nil|refine az.cons ?_ ?_|exact eN.refl _|exact eN.nil _ _))) rfl (aP rfl) rfl rfl (aP rfl),?_⟩
 exact ⟨[0,1,2,3,4,9],.t [],_,_,rfl,(rc (rc (rc (rc (rc (rc .nil)))))),⟨6,aP rfl,aP rfl,rfl,rfl,bp.refl _,⟨.inr rfl,⟨.inr rfl,⟨.inr rfl,⟨.inr rfl,⟨rfl,⟨rfl,trivial⟩⟩⟩⟩⟩⟩⟩⟩
theorem Fm (s0:dv) (l:Sq Int) (p:Nat) (ins:Sq af) (aa:Sq ag) (fuel:Int) (param:Nat) (hl:l.n≤maxLen) (hI:ins.n≤910) (hE:aa.n≤910) (hF:0≤fuel∧fuel≤1000) (hP:param≤1000) (c:Int):ah 22 4 (w4 l s0 fuel param (Wi l fuel param c ⟨p,ins,aa⟩)) (aj 22 18) (te bC bT l p ins aa fuel param c):=by
 refine aH (X:=lr l bC bT) (stop:=fc) (Oz _ _ bC bT l p ins aa fuel param c ?_)
 refine ⟨ej l _ _ hl rfl,?_⟩
 refine ⟨lY (m:=0) (q:=1) (i:=5) (j:=4) l _ _ _ hl (by first|omega|(simp only [eA]; omega)) (by first|omega|(simp only [eA]; omega)) hF hP rfl rfl rfl rfl rfl,?_⟩
 refine ⟨eM (m:=0) (q:=1) (i:=5) (j:=7) _ _ (by first|omega|(simp only [eA]; omega)) (by first|exact bp.refl _|exact iJ (by repeat' (first|exact az.nil|refine az.cons ?_ ?_|exact eN.refl _|exact eN.nil _ _))) rfl (aP rfl) rfl rfl (aP rfl),?_⟩
 exact ⟨[0,1,2,3,7,8],.t [],_,_,rfl,(rc (rc (rc (rc (rc (rc .nil)))))),⟨6,aP rfl,aP rfl,rfl,rfl,bp.refl _,⟨.inr rfl,⟨.inr rfl,⟨.inr rfl,⟨.inr rfl,⟨rfl,⟨rfl,trivial⟩⟩⟩⟩⟩⟩⟩⟩
theorem Rv (s0:dv) (l:Sq Int) (p:Nat) (ins:Sq af) (aa:Sq ag) (fuel:Int) (param:Nat) (hl:l.n≤maxLen) (hI:ins.n≤900) (hE:aa.n≤900) (hF:0≤fuel∧fuel≤1000) (hP:param≤1000)  : ah 22 4 (w4 l s0 fuel param (k3 l ⟨p,ins,aa⟩)) (aj 22 3) (DW bC bT l p ins aa fuel param ):=by
 refine aH (X:=lr l bC bT) (stop:=fc) (Ru _ _ bC bT l p ins aa fuel param  ?_)
 refine ⟨ej l _ _ hl rfl,?_⟩
 refine ⟨ej l _ _ hl rfl,?_⟩
 refine aA (by first|rfl|assumption|exact si 4 (by decide) (by decide)|exact si 2 (by decide) (by decide)|(simp; done)|omega) ?_
 refine ay (fun h0=>?_) (fun h0=>?_)
 ·refine ⟨eM (m:=0) (q:=1) (i:=2) (j:=4) _ _ (by first|omega|(simp only [eA]; omega)) (by first|exact bp.refl _|exact iJ (by repeat' (first|exact az.nil|refine az.cons ?_ ?_|exact eN.refl _|exact eN.nil _ _))) rfl (aP rfl) rfl rfl (aP rfl),?_⟩
  simp only [k3,PG,h0,cond_true,cond_false]
  exact ⟨[0,1,2,3,4,6],.t [],_,_,rfl,(rc (rc (rc (rc (rc (rc .nil)))))),⟨6,aP rfl,aP rfl,rfl,rfl,bp.refl _,⟨.inr rfl,⟨.inr rfl,⟨.inr rfl,⟨.inr rfl,⟨rfl,⟨rfl,trivial⟩⟩⟩⟩⟩⟩⟩⟩
 ·refine ay (fun h1=>?_) (fun h1=>?_)
  ·refine ⟨eM (m:=0) (q:=1) (i:=2) (j:=4) _ _ (by first|omega|(simp only [eA]; omega)) (by first|exact bp.refl _|exact iJ (by repeat' (first|exact az.nil|refine az.cons ?_ ?_|exact eN.refl _|exact eN.nil _ _))) rfl (aP rfl) rfl rfl (aP rfl),?_⟩
   simp only [k3,PG,h0,h1,cond_true,cond_false]
   exact ⟨[0,1,2,3,4,6],.t [],_,_,rfl,(rc (rc (rc (rc (rc (rc .nil)))))),⟨6,aP rfl,aP rfl,rfl,rfl,bp.refl _,⟨.inr rfl,⟨.inr rfl,⟨.inr rfl,⟨.inr rfl,⟨rfl,⟨rfl,trivial⟩⟩⟩⟩⟩⟩⟩⟩
  ·refine ay (fun h2=>?_) (fun h2=>?_)
   ·refine ⟨eM (m:=0) (q:=1) (i:=2) (j:=4) _ _ (by first|omega|(simp only [eA]; omega)) (by first|exact bp.refl _|exact iJ (by repeat' (first|exact az.nil|refine az.cons ?_ ?_|exact eN.refl _|exact eN.nil _ _))) rfl (aP rfl) rfl rfl (aP rfl),?_⟩
    simp only [k3,PG,h0,h1,h2,cond_true,cond_false]
    exact ⟨[0,1,2,3,4,6],.t [],_,_,rfl,(rc (rc (rc (rc (rc (rc .nil)))))),⟨6,aP rfl,aP rfl,rfl,rfl,bp.refl _,⟨.inr rfl,⟨.inr rfl,⟨.inr rfl,⟨.inr rfl,⟨rfl,⟨rfl,trivial⟩⟩⟩⟩⟩⟩⟩⟩
   ·refine ay (fun h3=>?_) (fun h3=>?_)
    ·refine ⟨eM (m:=0) (q:=1) (i:=2) (j:=4) _ _ (by first|omega|(simp only [eA]; omega)) (by first|exact bp.refl _|exact iJ (by repeat' (first|exact az.nil|refine az.cons ?_ ?_|exact eN.refl _|exact eN.nil _ _))) rfl (aP rfl) rfl rfl (aP rfl),?_⟩
     simp only [k3,PG,h0,h1,h2,h3,cond_true,cond_false]
     exact ⟨[0,1,2,3,4,6],.t [],_,_,rfl,(rc (rc (rc (rc (rc (rc .nil)))))),⟨6,aP rfl,aP rfl,rfl,rfl,bp.refl _,⟨.inr rfl,⟨.inr rfl,⟨.inr rfl,⟨.inr rfl,⟨rfl,⟨rfl,trivial⟩⟩⟩⟩⟩⟩⟩⟩
    ·exact NA h0 h1 h2 h3
theorem DY (s0:dv) (l:Sq Int) (p:Nat) (ins:Sq af) (aa:Sq ag) (fuel:Int) (param:Nat) (hl:l.n≤maxLen) (hI:ins.n≤900) (hE:aa.n≤900) (hF:0≤fuel∧fuel≤1000) (hP:param≤1000)  : ah 22 4 (w4 l s0 fuel param (k7 l fuel param ⟨p,ins,aa⟩)) (aj 22 7) (vB bC bT l p ins aa fuel param ):=by
 refine aH (X:=lr l bC bT) (stop:=fc) (Tt _ _ bC bT l p ins aa fuel param  ?_)
 refine ⟨ej l _ _ hl rfl,?_⟩
 refine ⟨fy (m:=0) (q:=1) (i:=2) (j:=3) l _ _ hl (by omega) rfl rfl rfl rfl (aP rfl),?_⟩
 refine ⟨fy (m:=0) (q:=1) (i:=2) (j:=3) l _ _ hl (by omega) rfl rfl rfl rfl (aP rfl),?_⟩
 refine ⟨lY (m:=0) (q:=1) (i:=2) (j:=3) l _ _ _ hl (by first|omega|(simp only [eA]; omega)) (by first|omega|(simp only [eA]; omega)) hF hP rfl rfl rfl rfl rfl,?_⟩
 refine ⟨eM (m:=0) (q:=1) (i:=2) (j:=5) _ _ (by first|omega|(simp only [eA]; omega)) (by first|exact bp.refl _|exact iJ (by repeat' (first|exact az.nil|refine az.cons ?_ ?_|exact eN.refl _|exact eN.nil _ _))) rfl (aP rfl) rfl rfl (aP rfl),?_⟩
 exact ⟨[0,1,2,3,5,6],.t [],_,_,rfl,(rc (rc (rc (rc (rc (rc .nil)))))),⟨6,aP rfl,aP rfl,rfl,rfl,bp.refl _,⟨.inr rfl,⟨.inr rfl,⟨.inr rfl,⟨.inr rfl,⟨rfl,⟨rfl,trivial⟩⟩⟩⟩⟩⟩⟩⟩
theorem NN (s0:dv) (l:Sq Int) (p:Nat) (ins:Sq af) (aa:Sq ag) (fuel:Int) (param:Nat) (hl:l.n≤maxLen) (hI:ins.n≤900) (hE:aa.n≤900) (hF:0≤fuel∧fuel≤1000) (hP:param≤1000)  : ah 22 4 (w4 l s0 fuel param (Wb l fuel param ⟨p,ins,aa⟩)) (aj 22 11) (yk bC bT l p ins aa fuel param ):=by
 refine aH (X:=lr l bC bT) (stop:=fc) (N0 _ _ bC bT l p ins aa fuel param  ?_)
 refine ⟨ej l _ _ hl rfl,?_⟩
 refine ⟨fy (m:=0) (q:=1) (i:=2) (j:=3) l _ _ hl (by omega) rfl rfl rfl rfl (aP rfl),?_⟩
 refine ⟨lY (m:=0) (q:=1) (i:=2) (j:=3) l _ _ _ hl (by first|omega|(simp only [eA]; omega)) (by first|omega|(simp only [eA]; omega)) hF hP rfl rfl rfl rfl rfl,?_⟩
 refine ⟨eM (m:=0) (q:=1) (i:=2) (j:=5) _ _ (by first|omega|(simp only [eA]; omega)) (by first|exact bp.refl _|exact iJ (by repeat' (first|exact az.nil|refine az.cons ?_ ?_|exact eN.refl _|exact eN.nil _ _))) rfl (aP rfl) rfl rfl (aP rfl),?_⟩
 exact ⟨[0,1,2,3,5,6],.t [],_,_,rfl,(rc (rc (rc (rc (rc (rc .nil)))))),⟨6,aP rfl,aP rfl,rfl,rfl,bp.refl _,⟨.inr rfl,⟨.inr rfl,⟨.inr rfl,⟨.inr rfl,⟨rfl,⟨rfl,trivial⟩⟩⟩⟩⟩⟩⟩⟩
theorem O0 (s0:dv) (l:Sq Int) (p:Nat) (ins:Sq af) (aa:Sq ag) (fuel:Int) (param:Nat) (hl:l.n≤maxLen) (hI:ins.n≤900) (hE:aa.n≤900) (hF:0≤fuel∧fuel≤1000) (hP:param≤1000)  : ah 22 4 (w4 l s0 fuel param (RX l fuel param ⟨p,ins,aa⟩)) (aj 22 15) (yj bC bT l p ins aa fuel param ):=by
 refine aH (X:=lr l bC bT) (stop:=fc) (Py _ _ bC bT l p ins aa fuel param  ?_)
 refine ⟨ej l _ _ hl rfl,?_⟩
 refine aA (by first|rfl|assumption|exact si 4 (by decide) (by decide)|exact si 2 (by decide) (by decide)|(simp; done)|omega) ?_
 refine ay (fun h0=>?_) (fun h0=>?_)
 ·refine ⟨fy (m:=0) (q:=1) (i:=2) (j:=3) l _ _ hl (by omega) rfl rfl rfl rfl (aP rfl),?_⟩
  refine ⟨fy (m:=0) (q:=1) (i:=2) (j:=3) l _ _ hl (by omega) rfl rfl rfl rfl (aP rfl),?_⟩
  refine ⟨ej l _ _ hl rfl,?_⟩
  refine aA (by first|rfl|assumption|exact si 4 (by decide) (by decide)|exact si 2 (by decide) (by decide)|(simp; done)|omega) ?_
  refine ay (fun h1=>?_) (fun h1=>Bool.noConfusion (h0.symm.trans h1))
  refine ⟨fy (m:=0) (q:=1) (i:=2) (j:=3) l _ _ hl (by omega) rfl rfl rfl rfl (aP rfl),?_⟩
  refine ⟨fy (m:=0) (q:=1) (i:=2) (j:=3) l _ _ hl (by omega) rfl rfl rfl rfl (aP rfl),?_⟩
  refine ⟨lY (m:=0) (q:=1) (i:=2) (j:=3) l _ _ _ hl (by first|omega|(simp only [eA]; omega)) (by first|omega|(simp only [eA]; omega)) hF hP rfl rfl rfl rfl rfl,?_⟩
  refine ⟨eM (m:=0) (q:=1) (i:=2) (j:=9) _ _ (by first|omega|(simp only [eA]; omega)) (by first|exact bp.refl _|exact iJ (by repeat' (first|exact az.nil|refine az.cons ?_ ?_|exact eN.refl _|exact eN.nil _ _))) rfl (aP rfl) rfl rfl (aP rfl),?_⟩
  simp only [RX,MJ,h0,cond_true,cond_false]
  exact ah.rename [0,1,2,3,9,10] rfl (ah.le (te bC bT l ((lv l (vl l (vl l (nx l p 2).2 ins).2 ins).2 ins fuel param).2) ((bC ins (cm 4 (vl l (nx l p 2).2 ins).1 (vl l (vl l (nx l p 2).2 ins).2 ins).1 0 10 (Int.ofNat aa.1)))) ((bT aa (lv l (vl l (vl l (nx l p 2).2 ins).2 ins).2 ins fuel param).1)) fuel param ((↑ins.1:Int))) (by repeat' (first|exact trivial|refine cR rfl ?_)) (rc (rc (rc (rc (rc (rc .nil)))))) rfl (Fm s0 l ((lv l (vl l (vl l (nx l p 2).2 ins).2 ins).2 ins fuel param).2) ((bC ins (cm 4 (vl l (nx l p 2).2 ins).1 (vl l (vl l (nx l p 2).2 ins).2 ins).1 0 10 (Int.ofNat aa.1)))) ((bT aa (lv l (vl l (vl l (nx l p 2).2 ins).2 ins).2 ins fuel param).1)) fuel param hl (by first|omega|(simp only [eA]; omega)) (by first|omega|(simp only [eA]; omega)) hF hP ((↑ins.1:Int))))
 ·refine ay (fun h1=>?_) (fun h1=>?_)
  ·refine ⟨fy (m:=0) (q:=1) (i:=2) (j:=3) l _ _ hl (by omega) rfl rfl rfl rfl (aP rfl),?_⟩
   refine ⟨fy (m:=0) (q:=1) (i:=2) (j:=3) l _ _ hl (by omega) rfl rfl rfl rfl (aP rfl),?_⟩
   refine ⟨ej l _ _ hl rfl,?_⟩
   refine aA (by first|rfl|assumption|exact si 4 (by decide) (by decide)|exact si 2 (by decide) (by decide)|(simp; done)|omega) ?_
   refine ay (fun h2=>Bool.noConfusion (h2.symm.trans h0)) (fun h2=>?_)
   refine ay (fun h3=>?_) (fun h3=>Bool.noConfusion (h1.symm.trans h3))
   refine ⟨fy (m:=0) (q:=1) (i:=2) (j:=3) l _ _ hl (by omega) rfl rfl rfl rfl (aP rfl),?_⟩
   refine ⟨fy (m:=0) (q:=1) (i:=2) (j:=3) l _ _ hl (by omega) rfl rfl rfl rfl (aP rfl),?_⟩
   refine ⟨lY (m:=0) (q:=1) (i:=2) (j:=3) l _ _ _ hl (by first|omega|(simp only [eA]; omega)) (by first|omega|(simp only [eA]; omega)) hF hP rfl rfl rfl rfl rfl,?_⟩
   refine ⟨eM (m:=0) (q:=1) (i:=2) (j:=9) _ _ (by first|omega|(simp only [eA]; omega)) (by first|exact bp.refl _|exact iJ (by repeat' (first|exact az.nil|refine az.cons ?_ ?_|exact eN.refl _|exact eN.nil _ _))) rfl (aP rfl) rfl rfl (aP rfl),?_⟩
   simp only [RX,MJ,h0,h1,cond_true,cond_false]
   exact ah.rename [0,1,2,3,9,10] rfl (ah.le (te bC bT l ((lv l (vl l (vl l (nx l p 2).2 ins).2 ins).2 ins fuel param).2) ((bC ins (cm 4 (vl l (nx l p 2).2 ins).1 (vl l (vl l (nx l p 2).2 ins).2 ins).1 0 11 (Int.ofNat aa.1)))) ((bT aa (lv l (vl l (vl l (nx l p 2).2 ins).2 ins).2 ins fuel param).1)) fuel param ((↑ins.1:Int))) (by repeat' (first|exact trivial|refine cR rfl ?_)) (rc (rc (rc (rc (rc (rc .nil)))))) rfl (Fm s0 l ((lv l (vl l (vl l (nx l p 2).2 ins).2 ins).2 ins fuel param).2) ((bC ins (cm 4 (vl l (nx l p 2).2 ins).1 (vl l (vl l (nx l p 2).2 ins).2 ins).1 0 11 (Int.ofNat aa.1)))) ((bT aa (lv l (vl l (vl l (nx l p 2).2 ins).2 ins).2 ins fuel param).1)) fuel param hl (by first|omega|(simp only [eA]; omega)) (by first|omega|(simp only [eA]; omega)) hF hP ((↑ins.1:Int))))
  ·exact NI h0 h1
theorem E6 (s0:dv) (l:Sq Int) (p:Nat) (ins:Sq af) (aa:Sq ag) (fuel:Int) (param:Nat) (hl:l.n≤maxLen) (hI:ins.n≤900) (hE:aa.n≤900) (hF:0≤fuel∧fuel≤1000) (hP:param≤1000)  : ah 22 4 (w4 l s0 fuel param (QW l fuel param ⟨p,ins,aa⟩)) (aj 22 23) (tg bC bT l p ins aa fuel param ):=by
 refine aH (X:=lr l bC bT) (stop:=fc) (O7 _ _ bC bT l p ins aa fuel param  ?_)
 refine ⟨QF (m:=0) (q:=1) (i:=2) (j:=3) l _ _ _ _ _ hl (by first|omega|(simp only [eA]; omega)) (by first|omega|(simp only [eA]; omega)) hF hP rfl rfl rfl rfl rfl,?_⟩
 exact ah.rename [0,1,2,3,4,5] rfl (ah.le (yZ bC bT l ((eW l p ins fuel param).2) ((bC ins (ia l p ins param aa.1))) ((bT aa (eW l p ins fuel param).1)) fuel param (((gf l p ins param).1))) (by repeat' (first|exact trivial|refine cR rfl ?_)) (rc (rc (rc (rc (rc (rc .nil)))))) rfl (N8 s0 l ((eW l p ins fuel param).2) ((bC ins (ia l p ins param aa.1))) ((bT aa (eW l p ins fuel param).1)) fuel param hl (by first|omega|(simp only [eA]; omega)) (by first|omega|(simp only [eA]; omega)) hF hP (((gf l p ins param).1))))
theorem MW (s0:dv) (l:Sq Int) (p:Nat) (ins:Sq af) (aa:Sq ag) (fuel:Int) (param:Nat) (hl:l.n≤maxLen) (hI:ins.n≤900) (hE:aa.n≤900) (hF:0≤fuel∧fuel≤1000) (hP:param≤1000)  : ah 22 4 (w4 l s0 fuel param (TG l fuel param ⟨p,ins,aa⟩)) (aj 22 26) (Af bC bT l p ins aa fuel param ):=by
 refine aH (X:=lr l bC bT) (stop:=fc) (Pq _ _ bC bT l p ins aa fuel param  ?_)
 refine ⟨QF (m:=0) (q:=1) (i:=2) (j:=3) l _ _ _ _ _ hl (by first|omega|(simp only [eA]; omega)) (by first|omega|(simp only [eA]; omega)) hF hP rfl rfl rfl rfl rfl,?_⟩
 exact ah.rename [0,1,2,3,4,5] rfl (ah.le (yO bC bT l ((eW l p ins fuel param).2) ((bC ins (ia l p ins param aa.1))) ((bT aa (eW l p ins fuel param).1)) fuel param (((gf l p ins param).1))) (by repeat' (first|exact trivial|refine cR rfl ?_)) (rc (rc (rc (rc (rc (rc .nil)))))) rfl (Oq s0 l ((eW l p ins fuel param).2) ((bC ins (ia l p ins param aa.1))) ((bT aa (eW l p ins fuel param).1)) fuel param hl (by first|omega|(simp only [eA]; omega)) (by first|omega|(simp only [eA]; omega)) hF hP (((gf l p ins param).1))))
theorem FW (s0:dv) (l:Sq Int) (p:Nat) (ins:Sq af) (aa:Sq ag) (fuel:Int) (param:Nat) (hl:l.n≤maxLen) (hI:ins.n≤900) (hE:aa.n≤900) (hF:0≤fuel∧fuel≤1000) (hP:param≤1000)  : ah 22 4 (w4 l s0 fuel param (Ss l fuel param ⟨p,ins,aa⟩)) (aj 22 30) (sZ bC bT l p ins aa fuel param ):=by
 refine aH (X:=lr l bC bT) (stop:=fc) (NX _ _ bC bT l p ins aa fuel param  ?_)
 refine ⟨lY (m:=0) (q:=1) (i:=2) (j:=3) l _ _ _ hl (by first|omega|(simp only [eA]; omega)) (by first|omega|(simp only [eA]; omega)) hF hP rfl rfl rfl rfl rfl,?_⟩
 refine ⟨eM (m:=0) (q:=1) (i:=2) (j:=5) _ _ (by first|omega|(simp only [eA]; omega)) (by first|exact bp.refl _|exact iJ (by repeat' (first|exact az.nil|refine az.cons ?_ ?_|exact eN.refl _|exact eN.nil _ _))) rfl (aP rfl) rfl rfl (aP rfl),?_⟩
 exact ah.rename [0,1,2,3,5,6] rfl (ah.le (zu bC bT l ((lv l p ins fuel param).2) ((bC ins (cm 15 0 0 0 32 (Int.ofNat aa.1)))) ((bT aa (lv l p ins fuel param).1)) fuel param) (by repeat' (first|exact trivial|refine cR rfl ?_)) (rc (rc (rc (rc (rc (rc .nil)))))) rfl (Nn s0 l ((lv l p ins fuel param).2) ((bC ins (cm 15 0 0 0 32 (Int.ofNat aa.1)))) ((bT aa (lv l p ins fuel param).1)) fuel param hl (by first|omega|(simp only [eA]; omega)) (by first|omega|(simp only [eA]; omega)) hF hP))
theorem Nk (s0:dv) (l:Sq Int) (p:Nat) (ins:Sq af) (aa:Sq ag) (fuel:Int) (param:Nat) (hl:l.n≤maxLen) (hI:ins.n≤900) (hE:aa.n≤900) (hF:0≤fuel∧fuel≤1000) (hP:param≤1000)  : ah 22 4 (w4 l s0 fuel param (U8 l fuel param ⟨p,ins,aa⟩)) (aj 22 37) (xD bC bT l p ins aa fuel param ):=by
 refine aH (X:=lr l bC bT) (stop:=fc) (OE _ _ bC bT l p ins aa fuel param  ?_)
 refine ⟨fy (m:=0) (q:=1) (i:=2) (j:=3) l _ _ hl (by omega) rfl rfl rfl rfl (aP rfl),?_⟩
 refine ⟨fy (m:=0) (q:=1) (i:=2) (j:=3) l _ _ hl (by omega) rfl rfl rfl rfl (aP rfl),?_⟩
 refine ⟨lY (m:=0) (q:=1) (i:=2) (j:=3) l _ _ _ hl (by first|omega|(simp only [eA]; omega)) (by first|omega|(simp only [eA]; omega)) hF hP rfl rfl rfl rfl rfl,?_⟩
 refine ⟨eM (m:=0) (q:=1) (i:=2) (j:=5) _ _ (by first|omega|(simp only [eA]; omega)) (by first|exact bp.refl _|exact iJ (by repeat' (first|exact az.nil|refine az.cons ?_ ?_|exact eN.refl _|exact eN.nil _ _))) rfl (aP rfl) rfl rfl (aP rfl),?_⟩
 exact ah.rename [0,1,2,3,5,6,4] rfl (ah.le (xM bC bT l ((lv l (vl l (vl l p ins).2 ins).2 ins fuel param).2) ((bC ins (cm 9 (vl l p ins).1 (vl l (vl l p ins).2 ins).1 0 0 (Int.ofNat aa.1)))) ((bT aa (lv l (vl l (vl l p ins).2 ins).2 ins fuel param).1)) fuel param (cm 9 (vl l p ins).1 (vl l (vl l p ins).2 ins).1 0 0 (Int.ofNat aa.1))) (by repeat' (first|exact trivial|refine cR rfl ?_)) (rc (rc (rc (rc (rc (rc (.cons (cw.box (by repeat' (first|exact az.nil|refine az.cons ?_ ?_|exact eN.refl _|exact eN.nil _ _))) .nil))))))) rfl (Og s0 l ((lv l (vl l (vl l p ins).2 ins).2 ins fuel param).2) ((bC ins (cm 9 (vl l p ins).1 (vl l (vl l p ins).2 ins).1 0 0 (Int.ofNat aa.1)))) ((bT aa (lv l (vl l (vl l p ins).2 ins).2 ins fuel param).1)) fuel param hl (by first|omega|(simp only [eA]; omega)) (by first|omega|(simp only [eA]; omega)) hF hP (cm 9 (vl l p ins).1 (vl l (vl l p ins).2 ins).1 0 0 (Int.ofNat aa.1))))
theorem Ox (s0:dv) (l:Sq Int) (p:Nat) (ins:Sq af) (aa:Sq ag) (fuel:Int) (param:Nat) (hl:l.n≤maxLen) (hI:ins.n≤900) (hE:aa.n≤900) (hF:0≤fuel∧fuel≤1000) (hP:param≤1000)  : ah 22 4 (w4 l s0 fuel param (Vu l fuel param ⟨p,ins,aa⟩)) (aj 22 44) (zf bC bT l p ins aa fuel param ):=by
 refine aH (X:=lr l bC bT) (stop:=fc) (M8 _ _ bC bT l p ins aa fuel param  ?_)
 refine ⟨fy (m:=0) (q:=1) (i:=2) (j:=3) l _ _ hl (by omega) rfl rfl rfl rfl (aP rfl),?_⟩
 refine ⟨lY (m:=0) (q:=1) (i:=2) (j:=3) l _ _ _ hl (by first|omega|(simp only [eA]; omega)) (by first|omega|(simp only [eA]; omega)) hF hP rfl rfl rfl rfl rfl,?_⟩
 refine ⟨eM (m:=0) (q:=1) (i:=2) (j:=5) _ _ (by first|omega|(simp only [eA]; omega)) (by first|exact bp.refl _|exact iJ (by repeat' (first|exact az.nil|refine az.cons ?_ ?_|exact eN.refl _|exact eN.nil _ _))) rfl (aP rfl) rfl rfl (aP rfl),?_⟩
 exact ah.rename [0,1,2,3,5,6,4] rfl (ah.le (zy bC bT l ((lv l (vl l p ins).2 ins fuel param).2) ((bC ins (cm 8 (vl l p ins).1 0 0 0 (Int.ofNat aa.1)))) ((bT aa (lv l (vl l p ins).2 ins fuel param).1)) fuel param (cm 8 (vl l p ins).1 0 0 0 (Int.ofNat aa.1))) (by repeat' (first|exact trivial|refine cR rfl ?_)) (rc (rc (rc (rc (rc (rc (.cons (cw.box (by repeat' (first|exact az.nil|refine az.cons ?_ ?_|exact eN.refl _|exact eN.nil _ _))) .nil))))))) rfl (Po s0 l ((lv l (vl l p ins).2 ins fuel param).2) ((bC ins (cm 8 (vl l p ins).1 0 0 0 (Int.ofNat aa.1)))) ((bT aa (lv l (vl l p ins).2 ins fuel param).1)) fuel param hl (by first|omega|(simp only [eA]; omega)) (by first|omega|(simp only [eA]; omega)) hF hP (cm 8 (vl l p ins).1 0 0 0 (Int.ofNat aa.1))))
theorem O1 (s0:dv) (l:Sq Int) (p:Nat) (ins:Sq af) (aa:Sq ag) (fuel:Int) (param:Nat) (hl:l.n≤maxLen) (hI:ins.n≤900) (hE:aa.n≤900) (hF:0≤fuel∧fuel≤1000) (hP:param≤1000)  : ah 22 4 (w4 l s0 fuel param (UD l fuel param ⟨p,ins,aa⟩)) (aj 22 49) (zm bC bT l p ins aa fuel param ):=by
 refine aH (X:=lr l bC bT) (stop:=fc) (Nv _ _ bC bT l p ins aa fuel param  ?_)
 refine ⟨fy (m:=0) (q:=1) (i:=2) (j:=3) l _ _ hl (by omega) rfl rfl rfl rfl (aP rfl),?_⟩
 refine ⟨ej l _ _ hl rfl,?_⟩
 refine ⟨lY (m:=0) (q:=1) (i:=2) (j:=3) l _ _ _ hl (by first|omega|(simp only [eA]; omega)) (by first|omega|(simp only [eA]; omega)) hF hP rfl rfl rfl rfl rfl,?_⟩
 refine ⟨eM (m:=0) (q:=1) (i:=2) (j:=5) _ _ (by first|omega|(simp only [eA]; omega)) (by first|exact bp.refl _|exact iJ (by repeat' (first|exact az.nil|refine az.cons ?_ ?_|exact eN.refl _|exact eN.nil _ _))) rfl (aP rfl) rfl rfl (aP rfl),?_⟩
 exact ah.rename [0,1,2,3,5,6,4] rfl (ah.le (xT bC bT l ((lv l (nx l (vl l p ins).2 4).2 ins fuel param).2) ((bC ins (cm 6 (vl l p ins).1 0 0 (bR (I.v (Value.int IntKind.i64 (IntKind.i64.wrap (1+(nx l (vl l p ins).2 4).1))))) (Int.ofNat aa.1)))) ((bT aa (lv l (nx l (vl l p ins).2 4).2 ins fuel param).1)) fuel param (cm 6 (vl l p ins).1 0 0 (bR (I.v (Value.int IntKind.i64 (IntKind.i64.wrap (1+(nx l (vl l p ins).2 4).1))))) (Int.ofNat aa.1))) (by repeat' (first|exact trivial|refine cR rfl ?_)) (rc (rc (rc (rc (rc (rc (.cons (cw.box (by repeat' (first|exact az.nil|refine az.cons ?_ ?_|exact eN.refl _|exact eN.nil _ _))) .nil))))))) rfl (NY s0 l ((lv l (nx l (vl l p ins).2 4).2 ins fuel param).2) ((bC ins (cm 6 (vl l p ins).1 0 0 (bR (I.v (Value.int IntKind.i64 (IntKind.i64.wrap (1+(nx l (vl l p ins).2 4).1))))) (Int.ofNat aa.1)))) ((bT aa (lv l (nx l (vl l p ins).2 4).2 ins fuel param).1)) fuel param hl (by first|omega|(simp only [eA]; omega)) (by first|omega|(simp only [eA]; omega)) hF hP (cm 6 (vl l p ins).1 0 0 (bR (I.v (Value.int IntKind.i64 (IntKind.i64.wrap (1+(nx l (vl l p ins).2 4).1))))) (Int.ofNat aa.1))))
theorem U9 (l:Sq Int) (p:Nat) (ins:Sq af) (aa:Sq ag) (fuel:Int) (param:Nat) (hl:l.n≤maxLen) (hI:ins.n≤900) (hE:aa.n≤900) (hF:0≤fuel∧fuel≤1000) (hP:param≤1000):LC 22 [.c (.rt 1 0 0)] [aB l p,aL 0 2 ins.n 3 aa.n fuel param,bV ins,j8 aa] (.t []) [aB l (gJ l fuel param ⟨p,ins,aa⟩).p,aL 0 5 (gJ l fuel param ⟨p,ins,aa⟩).ins.n 4 (gJ l fuel param ⟨p,ins,aa⟩).ex.n fuel param,.dead,.dead,j8 (gJ l fuel param ⟨p,ins,aa⟩).ex,bV (gJ l fuel param ⟨p,ins,aa⟩).ins]:=by
 refine jC Xh (aP (by kernel_rfl)) ?_
 show ah 22 4 (w4 l ⟨p,ins,aa⟩ fuel param (gJ l fuel param ⟨p,ins,aa⟩)) _ _
 refine fp (X:=lr l bC bT) (stop:=fc) (XE _ _ bC bT l p ins aa fuel param ?_)
 refine ⟨ej l _ _ hl rfl,?_⟩
 refine ay (fun h0=>?_) (fun h0=>?_)
 ·rw [show gJ l fuel param ⟨p,ins,aa⟩=k3 l ⟨(nx l p 14).2,ins,aa⟩ from by simp only [gJ,show ((nx l p 14).1==0)=true from h0,cond_true,cond_false]]
  exact ah.yb 1 4 3 _ _ _ _ _ _ rfl rfl rfl (ah.le (DW bC bT l ((nx l p 14).2) (ins) (aa) fuel param) (by repeat' (first|exact trivial|refine cR rfl ?_)) (rc (rc (rc (rc (rc .nil))))) rfl (Rv ⟨p,ins,aa⟩ l ((nx l p 14).2) (ins) (aa) fuel param hl (by first|omega|(simp only [eA]; omega)) (by first|omega|(simp only [eA]; omega)) hF hP))
 ·refine ay (fun h1=>?_) (fun h1=>?_)
  ·rw [show gJ l fuel param ⟨p,ins,aa⟩=k7 l fuel param ⟨(nx l p 14).2,ins,aa⟩ from by simp only [gJ,show ((nx l p 14).1==0)=false from h0,show ((nx l p 14).1==1)=true from h1,cond_true,cond_false]]
   exact ah.le (vB bC bT l ((nx l p 14).2) (ins) (aa) fuel param) (by repeat' (first|exact trivial|refine cR rfl ?_)) (rc (rc (rc (rc .nil)))) rfl (DY ⟨p,ins,aa⟩ l ((nx l p 14).2) (ins) (aa) fuel param hl (by first|omega|(simp only [eA]; omega)) (by first|omega|(simp only [eA]; omega)) hF hP)
  ·refine ay (fun h2=>?_) (fun h2=>?_)
   ·rw [show gJ l fuel param ⟨p,ins,aa⟩=k7 l fuel param ⟨(nx l p 14).2,ins,aa⟩ from by simp only [gJ,show ((nx l p 14).1==0)=false from h0,show ((nx l p 14).1==1)=false from h1,show ((nx l p 14).1==2)=true from h2,cond_true,cond_false]]
    exact ah.le (vB bC bT l ((nx l p 14).2) (ins) (aa) fuel param) (by repeat' (first|exact trivial|refine cR rfl ?_)) (rc (rc (rc (rc .nil)))) rfl (DY ⟨p,ins,aa⟩ l ((nx l p 14).2) (ins) (aa) fuel param hl (by first|omega|(simp only [eA]; omega)) (by first|omega|(simp only [eA]; omega)) hF hP)
   ·refine ay (fun h3=>?_) (fun h3=>?_)
    ·rw [show gJ l fuel param ⟨p,ins,aa⟩=k7 l fuel param ⟨(nx l p 14).2,ins,aa⟩ from by simp only [gJ,show ((nx l p 14).1==0)=false from h0,show ((nx l p 14).1==1)=false from h1,show ((nx l p 14).1==2)=false from h2,show ((nx l p 14).1==3)=true from h3,cond_true,cond_false]]
     exact ah.le (vB bC bT l ((nx l p 14).2) (ins) (aa) fuel param) (by repeat' (first|exact trivial|refine cR rfl ?_)) (rc (rc (rc (rc .nil)))) rfl (DY ⟨p,ins,aa⟩ l ((nx l p 14).2) (ins) (aa) fuel param hl (by first|omega|(simp only [eA]; omega)) (by first|omega|(simp only [eA]; omega)) hF hP)
    ·refine ay (fun h4=>?_) (fun h4=>?_)
     ·rw [show gJ l fuel param ⟨p,ins,aa⟩=Wb l fuel param ⟨(nx l p 14).2,ins,aa⟩ from by simp only [gJ,show ((nx l p 14).1==0)=false from h0,show ((nx l p 14).1==1)=false from h1,show ((nx l p 14).1==2)=false from h2,show ((nx l p 14).1==3)=false from h3,show ((nx l p 14).1==4)=true from h4,cond_true,cond_false]]
      exact ah.le (yk bC bT l ((nx l p 14).2) (ins) (aa) fuel param) (by repeat' (first|exact trivial|refine cR rfl ?_)) (rc (rc (rc (rc .nil)))) rfl (NN ⟨p,ins,aa⟩ l ((nx l p 14).2) (ins) (aa) fuel param hl (by first|omega|(simp only [eA]; omega)) (by first|omega|(simp only [eA]; omega)) hF hP)
     ·refine ay (fun h5=>?_) (fun h5=>?_)
      ·rw [show gJ l fuel param ⟨p,ins,aa⟩=RX l fuel param ⟨(nx l p 14).2,ins,aa⟩ from by simp only [gJ,show ((nx l p 14).1==0)=false from h0,show ((nx l p 14).1==1)=false from h1,show ((nx l p 14).1==2)=false from h2,show ((nx l p 14).1==3)=false from h3,show ((nx l p 14).1==4)=false from h4,show ((nx l p 14).1==5)=true from h5,cond_true,cond_false]]
       exact ah.le (yj bC bT l ((nx l p 14).2) (ins) (aa) fuel param) (by repeat' (first|exact trivial|refine cR rfl ?_)) (rc (rc (rc (rc .nil)))) rfl (O0 ⟨p,ins,aa⟩ l ((nx l p 14).2) (ins) (aa) fuel param hl (by first|omega|(simp only [eA]; omega)) (by first|omega|(simp only [eA]; omega)) hF hP)
      ·refine ay (fun h6=>?_) (fun h6=>?_)
       ·rw [show gJ l fuel param ⟨p,ins,aa⟩=QW l fuel param ⟨(nx l p 14).2,ins,aa⟩ from by simp only [gJ,show ((nx l p 14).1==0)=false from h0,show ((nx l p 14).1==1)=false from h1,show ((nx l p 14).1==2)=false from h2,show ((nx l p 14).1==3)=false from h3,show ((nx l p 14).1==4)=false from h4,show ((nx l p 14).1==5)=false from h5,show ((nx l p 14).1==6)=true from h6,cond_true,cond_false]]
        exact ah.le (tg bC bT l ((nx l p 14).2) (ins) (aa) fuel param) (by repeat' (first|exact trivial|refine cR rfl ?_)) (rc (rc (rc (rc .nil)))) rfl (E6 ⟨p,ins,aa⟩ l ((nx l p 14).2) (ins) (aa) fuel param hl (by first|omega|(simp only [eA]; omega)) (by first|omega|(simp only [eA]; omega)) hF hP)
       ·refine ay (fun h7=>?_) (fun h7=>?_)
        ·rw [show gJ l fuel param ⟨p,ins,aa⟩=QW l fuel param ⟨(nx l p 14).2,ins,aa⟩ from by simp only [gJ,show ((nx l p 14).1==0)=false from h0,show ((nx l p 14).1==1)=false from h1,show ((nx l p 14).1==2)=false from h2,show ((nx l p 14).1==3)=false from h3,show ((nx l p 14).1==4)=false from h4,show ((nx l p 14).1==5)=false from h5,show ((nx l p 14).1==6)=false from h6,show ((nx l p 14).1==7)=true from h7,cond_true,cond_false]]
         exact ah.le (tg bC bT l ((nx l p 14).2) (ins) (aa) fuel param) (by repeat' (first|exact trivial|refine cR rfl ?_)) (rc (rc (rc (rc .nil)))) rfl (E6 ⟨p,ins,aa⟩ l ((nx l p 14).2) (ins) (aa) fuel param hl (by first|omega|(simp only [eA]; omega)) (by first|omega|(simp only [eA]; omega)) hF hP)
        ·refine ay (fun h8=>?_) (fun h8=>?_)
         ·rw [show gJ l fuel param ⟨p,ins,aa⟩=TG l fuel param ⟨(nx l p 14).2,ins,aa⟩ from by simp only [gJ,show ((nx l p 14).1==0)=false from h0,show ((nx l p 14).1==1)=false from h1,show ((nx l p 14).1==2)=false from h2,show ((nx l p 14).1==3)=false from h3,show ((nx l p 14).1==4)=false from h4,show ((nx l p 14).1==5)=false from h5,show ((nx l p 14).1==6)=false from h6,show ((nx l p 14).1==7)=false from h7,show ((nx l p 14).1==8)=true from h8,cond_true,cond_false]]
          exact ah.le (Af bC bT l ((nx l p 14).2) (ins) (aa) fuel param) (by repeat' (first|exact trivial|refine cR rfl ?_)) (rc (rc (rc (rc .nil)))) rfl (MW ⟨p,ins,aa⟩ l ((nx l p 14).2) (ins) (aa) fuel param hl (by first|omega|(simp only [eA]; omega)) (by first|omega|(simp only [eA]; omega)) hF hP)
         ·refine ay (fun h9=>?_) (fun h9=>?_)
          ·rw [show gJ l fuel param ⟨p,ins,aa⟩=Ss l fuel param ⟨(nx l p 14).2,ins,aa⟩ from by simp only [gJ,show ((nx l p 14).1==0)=false from h0,show ((nx l p 14).1==1)=false from h1,show ((nx l p 14).1==2)=false from h2,show ((nx l p 14).1==3)=false from h3,show ((nx l p 14).1==4)=false from h4,show ((nx l p 14).1==5)=false from h5,show ((nx l p 14).1==6)=false from h6,show ((nx l p 14).1==7)=false from h7,show ((nx l p 14).1==8)=false from h8,show ((nx l p 14).1==9)=true from h9,cond_true,cond_false]]
           exact ah.le (sZ bC bT l ((nx l p 14).2) (ins) (aa) fuel param) (by repeat' (first|exact trivial|refine cR rfl ?_)) (rc (rc (rc (rc .nil)))) rfl (FW ⟨p,ins,aa⟩ l ((nx l p 14).2) (ins) (aa) fuel param hl (by first|omega|(simp only [eA]; omega)) (by first|omega|(simp only [eA]; omega)) hF hP)
          ·refine ay (fun Ar=>?_) (fun Ar=>?_)
           ·rw [show gJ l fuel param ⟨p,ins,aa⟩=Ss l fuel param ⟨(nx l p 14).2,ins,aa⟩ from by simp only [gJ,show ((nx l p 14).1==0)=false from h0,show ((nx l p 14).1==1)=false from h1,show ((nx l p 14).1==2)=false from h2,show ((nx l p 14).1==3)=false from h3,show ((nx l p 14).1==4)=false from h4,show ((nx l p 14).1==5)=false from h5,show ((nx l p 14).1==6)=false from h6,show ((nx l p 14).1==7)=false from h7,show ((nx l p 14).1==8)=false from h8,show ((nx l p 14).1==9)=false from h9,show ((nx l p 14).1==10)=true from Ar,cond_true,cond_false]]
            exact ah.le (sZ bC bT l ((nx l p 14).2) (ins) (aa) fuel param) (by repeat' (first|exact trivial|refine cR rfl ?_)) (rc (rc (rc (rc .nil)))) rfl (FW ⟨p,ins,aa⟩ l ((nx l p 14).2) (ins) (aa) fuel param hl (by first|omega|(simp only [eA]; omega)) (by first|omega|(simp only [eA]; omega)) hF hP)
           ·refine ay (fun S8=>?_) (fun S8=>?_)
            ·rw [show gJ l fuel param ⟨p,ins,aa⟩=U8 l fuel param ⟨(nx l p 14).2,ins,aa⟩ from by simp only [gJ,show ((nx l p 14).1==0)=false from h0,show ((nx l p 14).1==1)=false from h1,show ((nx l p 14).1==2)=false from h2,show ((nx l p 14).1==3)=false from h3,show ((nx l p 14).1==4)=false from h4,show ((nx l p 14).1==5)=false from h5,show ((nx l p 14).1==6)=false from h6,show ((nx l p 14).1==7)=false from h7,show ((nx l p 14).1==8)=false from h8,show ((nx l p 14).1==9)=false from h9,show ((nx l p 14).1==10)=false from Ar,show ((nx l p 14).1==11)=true from S8,cond_true,cond_false]]
             exact ah.le (xD bC bT l ((nx l p 14).2) (ins) (aa) fuel param) (by repeat' (first|exact trivial|refine cR rfl ?_)) (rc (rc (rc (rc .nil)))) rfl (Nk ⟨p,ins,aa⟩ l ((nx l p 14).2) (ins) (aa) fuel param hl (by first|omega|(simp only [eA]; omega)) (by first|omega|(simp only [eA]; omega)) hF hP)
            ·refine ay (fun Wf=>?_) (fun Wf=>?_)
             ·rw [show gJ l fuel param ⟨p,ins,aa⟩=Vu l fuel param ⟨(nx l p 14).2,ins,aa⟩ from by simp only [gJ,show ((nx l p 14).1==0)=false from h0,show ((nx l p 14).1==1)=false from h1,show ((nx l p 14).1==2)=false from h2,show ((nx l p 14).1==3)=false from h3,show ((nx l p 14).1==4)=false from h4,show ((nx l p 14).1==5)=false from h5,show ((nx l p 14).1==6)=false from h6,show ((nx l p 14).1==7)=false from h7,show ((nx l p 14).1==8)=false from h8,show ((nx l p 14).1==9)=false from h9,show ((nx l p 14).1==10)=false from Ar,show ((nx l p 14).1==11)=false from S8,show ((nx l p 14).1==12)=true from Wf,cond_true,cond_false]]
              exact ah.le (zf bC bT l ((nx l p 14).2) (ins) (aa) fuel param) (by repeat' (first|exact trivial|refine cR rfl ?_)) (rc (rc (rc (rc .nil)))) rfl (Ox ⟨p,ins,aa⟩ l ((nx l p 14).2) (ins) (aa) fuel param hl (by first|omega|(simp only [eA]; omega)) (by first|omega|(simp only [eA]; omega)) hF hP)
             ·refine ay (fun Y3=>?_) (fun Y3=>?_)
              ·rw [show gJ l fuel param ⟨p,ins,aa⟩=UD l fuel param ⟨(nx l p 14).2,ins,aa⟩ from by simp only [gJ,show ((nx l p 14).1==0)=false from h0,show ((nx l p 14).1==1)=false from h1,show ((nx l p 14).1==2)=false from h2,show ((nx l p 14).1==3)=false from h3,show ((nx l p 14).1==4)=false from h4,show ((nx l p 14).1==5)=false from h5,show ((nx l p 14).1==6)=false from h6,show ((nx l p 14).1==7)=false from h7,show ((nx l p 14).1==8)=false from h8,show ((nx l p 14).1==9)=false from h9,show ((nx l p 14).1==10)=false from Ar,show ((nx l p 14).1==11)=false from S8,show ((nx l p 14).1==12)=false from Wf,cond_true,cond_false]]
               exact ah.le (zm bC bT l ((nx l p 14).2) (ins) (aa) fuel param) (by repeat' (first|exact trivial|refine cR rfl ?_)) (rc (rc (rc (rc .nil)))) rfl (O1 ⟨p,ins,aa⟩ l ((nx l p 14).2) (ins) (aa) fuel param hl (by first|omega|(simp only [eA]; omega)) (by first|omega|(simp only [eA]; omega)) hF hP)
              ·exfalso
               obtain ⟨d,hd,dp⟩:=il (l:=l) (p:=p) (n:=14) (by omega) (by omega)
               have g0:((nx l p 14).1==0)=false:=h0
               have g1:((nx l p 14).1==1)=false:=h1
               have g2:((nx l p 14).1==2)=false:=h2
               have g3:((nx l p 14).1==3)=false:=h3
               have g4:((nx l p 14).1==4)=false:=h4
               have g5:((nx l p 14).1==5)=false:=h5
               have g6:((nx l p 14).1==6)=false:=h6
               have g7:((nx l p 14).1==7)=false:=h7
               have g8:((nx l p 14).1==8)=false:=h8
               have g9:((nx l p 14).1==9)=false:=h9
               have g10:((nx l p 14).1==10)=false:=Ar
               have g11:((nx l p 14).1==11)=false:=S8
               have g12:((nx l p 14).1==12)=false:=Wf
               have g13:((nx l p 14).1==13)=false:=Y3
               rw [hd] at g0 g1 g2 g3 g4 g5 g6 g7 g8 g9 g10 g11 g12 g13
               simp only [beq_eq_false_iff_ne,ne_eq] at g0 g1 g2 g3 g4 g5 g6 g7 g8 g9 g10 g11 g12 g13
               omega
theorem VN (l:Sq Int) (p:Nat) (ins:Sq af) (aa:Sq ag) (fuel:Int) (param:Nat) {m q i j:Nat} {RS:List ae} (hl:l.n≤maxLen) (hI:ins.n≤900) (hE:aa.n≤900) (hF:0≤fuel∧fuel≤1000) (hP:param≤1000) (hd:gI [m,q,i,j]=true) (h0:aY RS m=some (aB l p)) (h1:aY RS q=some (aL m i ins.n j aa.n fuel param)) (h2:aY RS i=some (bV ins)) (h3:aY RS j=some (j8 aa)) :
  LC 22 [.c (.rt q 0 0)] RS (.t []) (setAt (setAt (setAt (setAt RS m (aB l (gJ l fuel param ⟨p,ins,aa⟩).p)) q (aL m (RS.length+1) (gJ l fuel param ⟨p,ins,aa⟩).ins.n RS.length (gJ l fuel param ⟨p,ins,aa⟩).ex.n fuel param)) i .dead) j .dead++[j8 (gJ l fuel param ⟨p,ins,aa⟩).ex,bV (gJ l fuel param ⟨p,ins,aa⟩).ins]):=
 cl.zp (U9 l p ins aa fuel param hl hI hE hF hP) [m,q,i,j] RS hd ⟨h0,eD h0,h1,eD h1,h2,eD h2,h3,eD h3,rfl⟩
end Go.Proofs.YtghfgcfabbbbbaaDoor
set_option linter.unusedSectionVars false
namespace Go.Proofs.YtghfgcfabbbbbaaDoor
open Go Go.V
structure uC (e:ag):Prop where
 frames:e.frames.n≤900
 vars:∀ j,j<e.frames.n→(e.frames.get j).vars.n≤900
 aC:e.aC.n≤900
 names:∀ j,j<e.aC.n→(e.aC.get j).names.n≤900
 items:∀ j,j<e.aC.n→(e.aC.get j).items.n≤900
 pos:0<e.frames.n
structure oe (x:af):Prop where
 n:x.n≤9223372036854775807
 args:x.args.n≤900
 names:x.names.n≤900
 str:x.k.s.size≤900
structure cZ (s s':dv) (c d:Nat):Prop where
 ins:s'.ins.n≤s.ins.n+c
 ex:s'.ex.n≤s.ex.n+d
 gi:(∀ k,k<s.ins.n→oe (s.ins.get k))→∀ k,k<s'.ins.n→oe (s'.ins.get k)
 ge:(∀ k,k<s.ex.n→uC (s.ex.get k))→∀ k,k<s'.ex.n→uC (s'.ex.get k)
theorem cZ.refl (s:dv):cZ s s 0 0:=⟨bf _,bf _,fun h=>h,fun h=>h⟩
theorem cZ.trans {a b c:dv} {m n m' n':Nat} (h:cZ a b m n) (k:cZ b c m' n'):cZ a c (m+m') (n+n'):=
 ⟨by have:=h.ins; have:=k.ins; omega,by have:=h.ex; have:=k.ex; omega,fun q=>k.gi (h.gi q),fun q=>k.ge (h.ge q)⟩
theorem cZ.le {a b:dv} {m n m' n':Nat} (h:cZ a b m n) (h1:m≤m') (h2:n≤n'):cZ a b m' n' :=
 ⟨by have:=h.ins; omega,by have:=h.ex; omega,h.gi,h.ge⟩
theorem iG {α:Type} {P:α→Prop} {s:Sq α} {x:α} (h:∀ k,k<s.n→P (s.get k)) (hx:P x):∀ k,k<(cW s ⟨1,fun _=>x⟩).n→P ((cW s ⟨1,fun _=>x⟩).get k):=by
 intro k hk
 show P (Bool.rec x (s.get k) (Nat.blt k s.n))
 cases hb:Nat.blt k s.n with
 | true=>exact h k (by simpa [cX] using hb)
 | false=>exact hx
theorem cZ.add (s:dv) (p:Nat) {x:af} (hx:oe x):cZ s ⟨p,bC s.ins x,s.ex⟩ 1 0:=
 ⟨bf _,bf _,fun h=>iG h hx,fun h=>h⟩
theorem cZ.both (s:dv) (p:Nat) {x:af} {e:ag} (hx:oe x) (he:uC e):cZ s ⟨p,bC s.ins x,bT s.ex e⟩ 1 1:=
 ⟨bf _,bf _,fun h=>iG h hx,fun h=>iG h he⟩
theorem yt (k:Int):IntKind.i64.wrap k≤9223372036854775807:=by
 have e1:(2 ^ IntKind.i64.bits:Int)=18446744073709551616:=by rfl
 have e2:(2 ^ (IntKind.i64.bits-1):Int)=9223372036854775808:=by rfl
 have e4:IntKind.i64.signed=true:=rfl
 unfold IntKind.wrap
 simp only [e1,e2,e4]
 have h1:k%18446744073709551616<18446744073709551616:=Int.emod_lt_of_pos _ (by omega)
 split
 ·omega
 ·rename_i h
  simp only [Bool.true_and,decide_eq_true_eq] at h
  omega
theorem Gn {l:Sq Int} {p:Nat} {n:Int} (h2:n≤900):(nx l p n).1≤900:=by
 by_cases h1:1≤n
 ·have:=(uE (l:=l) (p:=p) h1 (by omega)).2
  omega
 ·unfold nx
  rw [show decide (n<1)=true from decide_eq_true (by omega)]
  cases decide ((p:Int)≥(l.n:Int))<;>simp
theorem eZ {op a b c n e:Int} (h:n≤9223372036854775807):oe (cm op a b c n e):=⟨h,bB _,bB _,bB _⟩
theorem oe.exit {x:af} (h:oe x) (e:Int):oe { x with exit:=e }:=⟨h.n,h.args,h.names,h.str⟩
theorem IC (l:Sq Int) (ins:Sq af):∀ (m p:Nat) (h:Sq Int),(Ih l ins m p h).1.n=h.n+m
 | 0,p,h=>rfl
 | m+1,p,h=>by
   show (Ih l ins m _ (cW h ⟨1,fun _=>(vl l p ins).1⟩)).1.n=_
   rw [IC]
   show h.n+1+m=_
   omega
theorem qk (l:Sq Int) (p:Nat) (ins:Sq af) (fuel:Int) (param:Nat) (h:param≤900):uC (lv l p ins fuel param).1:=by
 have hv:(Ih l ins param p (cx 0)).1.n≤900:=by rw [IC]; show 0+param≤_; omega
 unfold lv QO MN
 generalize ((nx l (nx l (Ih l ins param p (cx 0)).2 (fuel+1)).2 5).1==0)=b
 cases b with
 | false=>
   refine ⟨by simp,fun j _=>hv,bB _,fun j hj=>absurd hj (Nat.not_lt_zero j),fun j hj=>absurd hj (Nat.not_lt_zero j),by first|exact Nat.zero_lt_succ _|simp⟩
 | true=>
   refine ⟨by show 1+1≤900; omega,?_,bB _,fun j hj=>absurd hj (Nat.not_lt_zero j),fun j hj=>absurd hj (Nat.not_lt_zero j),by first|exact Nat.zero_lt_succ _|simp⟩
   intro j _
   simp only [cond_true]
   show (Bool.rec (TE _) (⟨0,0,(Ih l ins param p (cx 0)).1⟩:dD) (Nat.blt j 1):dD).vars.n≤900
   cases Nat.blt j 1 with
   | true=>exact hv
   | false=>show 2≤900; omega
section
variable (l:Sq Int) (fuel:Int) (param:Nat) (hP:param≤900)
include hP
theorem iT {x:af} (hx:oe x) (p:Nat) (s:dv):cZ s (MR l fuel param x p s) 1 1:=
 cZ.both s _ (hx.exit _) (qk l p s.ins fuel param hP)
theorem BW (c:Int) (s:dv):cZ s (TD l c s) 1 0:=cZ.add s _ (eZ (by have:=Gn (l:=l) (p:=s.p) (n:=2) (by omega); omega))
theorem Mj (c:Int) (s:dv):cZ s (Wk l param c s) 2 0:=
 (cZ.add s _ (eZ (by have:=Gn (l:=l) (p:=(nx l s.p (param:Int)).2) (n:=2) (by omega); omega))).trans (BW l param hP c _)
theorem LN (s:dv):cZ s (Wy l param s) 3 0:=
 (cZ.add s s.p (x:={ cm 16 0 0 0 0 (-1) with names:=Ig }) ⟨by decide,bB _,by decide,bB _⟩).trans (Mj l param hP _ _)
theorem Ip (c:Int) (s:dv):cZ s (Wq l c s) 1 0:=cZ.add s _ (eZ (by have:=Gn (l:=l) (p:=(vl l s.p s.ins).2) (n:=2) (by omega); omega))
theorem Iq (x:af) (s:dv):cZ s (Qv l x s) 1 0:=by
 unfold Qv
 cases (nx l s.p 2).1==0 with
 | true=>exact cZ.add s _ (eZ (by omega))
 | false=>exact cZ.add s _ (eZ (by omega))
theorem MA (x:af) (s:dv):cZ s (Ww x s) 1 0:=cZ.add s _ (eZ (by omega))
theorem LL (x:af) (s:dv):cZ s (Wh l x s) 1 0:=cZ.add s _ ⟨by show (0:Int)≤_; omega,bB _,bB _,bB _⟩
theorem ME (c:Int) (s:dv):cZ s (Wi l fuel param c s) 1 1:=iT l fuel param hP (eZ (by have:=Gn (l:=l) (p:=s.p) (n:=2) (by omega); omega)) _ s
theorem Ow (s:dv):cZ s (k3 l s) 1 0:=cZ.add s _ ⟨by show (0:Int)≤_; omega,bB _,bB _,by
 show (PG _ _).s.size≤900
 unfold PG
 generalize Nat.beq _ 0=a
 generalize Nat.beq _ 1=b
 generalize Nat.beq _ 2=c
 cases a<;>cases b<;>cases c<;>first|exact bB _|(show 1≤900; omega)⟩
theorem zb (s:dv):cZ s (k7 l fuel param s) 1 1:=iT l fuel param hP (eZ (yt _)) _ s
theorem Jv (s:dv):cZ s (Wb l fuel param s) 1 1:=iT l fuel param hP (eZ (yt _)) _ s
theorem QT (d:Nat):MJ d≤9223372036854775807:=by unfold MJ; cases Nat.beq d 0<;>decide
theorem L2 (s:dv):cZ s (RX l fuel param s) 2 2:=(iT l fuel param hP (eZ (QT param hP _)) _ s).trans (ME l fuel param hP _ _)
theorem Co (s:dv):cZ s (Ws l fuel param s) 1 1:=cZ.both s _ ⟨by show (0:Int)≤_; omega,bB _,by show 2≤900; omega,bB _⟩ (qk l _ s.ins fuel param hP)
theorem BA (s:dv):cZ s (QW l fuel param s) 2 1:=(Co l fuel param hP s).trans (BW l param hP _ _)
theorem LZ (s:dv):cZ s (TG l fuel param s) 2 1:=(Co l fuel param hP s).trans (Ip l param hP _ _)
theorem BK (s:dv):cZ s (Ss l fuel param s) 4 1:=(iT l fuel param hP (eZ (by omega)) s.p s).trans (LN l param hP _)
theorem Lx (s:dv):cZ s (U8 l fuel param s) 2 1:=(iT l fuel param hP (eZ (by omega)) _ s).trans (Iq l param hP _ _)
theorem LS (s:dv):cZ s (Vu l fuel param s) 2 1:=(iT l fuel param hP (eZ (by omega)) _ s).trans (MA param hP _ _)
theorem KP (s:dv):cZ s (UD l fuel param s) 2 1:=(iT l fuel param hP (eZ (yt _)) _ s).trans (LL l param hP _ _)
theorem hU {s s':dv} {p:Nat} {c d:Nat} (h:cZ ⟨p,s.ins,s.ex⟩ s' c d) (h1:c≤4) (h2:d≤2):cZ s s' 4 2:=by
 have:=h.ins; have:=h.ex
 refine ⟨?_,?_,h.gi,h.ge⟩
 ·have q:s'.ins.n≤s.ins.n+c:=h.ins
  omega
 ·have q:s'.ex.n≤s.ex.n+d:=h.ex
  omega
theorem CK (s:dv):cZ s (gJ l fuel param s) 4 2:=by
 unfold gJ
 generalize (nx l s.p 14).1=t
 have G:∀ {b:Bool} {x y:dv},cZ s x 4 2→cZ s y 4 2→cZ s (bif b then x else y) 4 2:=fun {b x y} h1 h2=>by cases b<;>assumption
 refine G (hU param hP (Ow l param hP _) (by omega) (by omega)) (G (hU param hP (zb l fuel param hP _) (by omega) (by omega)) (G (hU param hP (zb l fuel param hP _) (by omega) (by omega)) (G (hU param hP (zb l fuel param hP _) (by omega) (by omega)) (G (hU param hP (Jv l fuel param hP _) (by omega) (by omega)) (G (hU param hP (L2 l fuel param hP _) (by omega) (by omega)) (G (hU param hP (BA l fuel param hP _) (by omega) (by omega)) (G (hU param hP (BA l fuel param hP _) (by omega) (by omega)) (G (hU param hP (LZ l fuel param hP _) (by omega) (by omega)) (G (hU param hP (BK l fuel param hP _) (by omega) (by omega)) (G (hU param hP (BK l fuel param hP _) (by omega) (by omega)) (G (hU param hP (Lx l fuel param hP _) (by omega) (by omega)) (G (hU param hP (LS l fuel param hP _) (by omega) (by omega)) (hU param hP (KP l fuel param hP _) (by omega) (by omega))))))))))))))
end
open Go Go.V
noncomputable def Yv (l:Sq Int) (ds:List D) (rs:List ae):Out:=match ds with
 | [.c (.rt q _ _)]=>match aY rs q with
   | some (.box [.rt m a b,c,d,.sa i n,.sa j ne,.im (.v (.int .i64 fu)),.im (.v (.int .i64 pa))])=>match aY rs m,aY rs i,aY rs j with
     | some (.box [y,.im (.v (.int .i64 p))]),some (.arr _ _ k get),some (.arr _ _ ke ge)=>
       (.t [],[(m,.box [y,.im (iI (gJ l fu pa.toNat ⟨p.toNat,⟨k,fun t=>ij (get t)⟩,⟨ke,fun t=>nq (ge t)⟩⟩).p)]),(q,.box [.rt m a b,c,d,.sa (rs.length+1) (gJ l fu pa.toNat ⟨p.toNat,⟨k,fun t=>ij (get t)⟩,⟨ke,fun t=>nq (ge t)⟩⟩).ins.n,.sa rs.length (gJ l fu pa.toNat ⟨p.toNat,⟨k,fun t=>ij (get t)⟩,⟨ke,fun t=>nq (ge t)⟩⟩).ex.n,.im (iI fu),.im (iI pa)]),(i,.dead),(j,.dead)],
        [j8 (gJ l fu pa.toNat ⟨p.toNat,⟨k,fun t=>ij (get t)⟩,⟨ke,fun t=>nq (ge t)⟩⟩).ex,bV (gJ l fu pa.toNat ⟨p.toNat,⟨k,fun t=>ij (get t)⟩,⟨ke,fun t=>nq (ge t)⟩⟩).ins])
     | _,_,_=>qU
   | _=>qU
 | _=>qU
noncomputable def Xe (l:Sq Int) (sn:Sq af→af→Sq af) (sx:Sq ag→ag→Sq ag) (f:FuncId) (ds:List D) (rs:List ae):Out:=match f with
 | 22=>Yv l ds rs
 | f=>Ya l sn sx f ds rs
noncomputable def Ba (l:Sq Int) (sn:Sq af→af→Sq af) (sx:Sq ag→ag→Sq ag):iZ:={ F:=Xe l sn sx,W:=Xj l,S:=Lm }
noncomputable def H4:ae:=.box [.im (iI 0),.im (iI 0),.im (.v (.slice .none 0 0)),.im (.v (.slice .none 0 0))]
noncomputable def nO:Sq ag:=cx ⟨cx ⟨0,0,cx 0⟩,cx zV,0⟩
noncomputable def gX:Sq af:=cx zI
noncomputable section
def pI (k:Nat):af:={ cm 1 0 0 0 0 (-1) with k:=⟨3,(k:Int),⟨⟨[]⟩⟩⟩ }
def qQ:Nat→Nat→Sq af→Sq af
 | 0,_,s=>s
 | m+1,k,s=>qQ m (k+1) (bC s (pI k))
def rv (l:Sq Int) (ins:Sq af):Nat→Nat→Nat→Sq Int→Sq Int
 | 0,_,_,h=>h
 | m+1,k,p,h=>bif (nx l p 2).1==0 then rv l ins m (k+1) (nx l p 2).2 (cW h ⟨1,fun _=>(k:Int)⟩) else rv l ins m (k+1) (vl l (nx l p 2).2 ins).2 (cW h ⟨1,fun _=>(vl l (nx l p 2).2 ins).1⟩)
def SI (s:dv) (h:Sq Int):ai:=⟨⟨0,0⟩,bC s.ins { cm 20 0 0 0 0 (-1) with args:=h },s.ex⟩
def rh (l:Sq Int) (fuel:Int) (param:Nat) (s:dv):ai:=bif (nx l s.p 6).1==0 then ⟨⟨0,0⟩,bC s.ins (cm 21 0 0 0 0 (s.ex.n:Int)),bT s.ex (lv l (nx l s.p 6).2 s.ins fuel param).1⟩ else SI s (rv l s.ins param 0 (nx l s.p 6).2 (cx 0))
def ML (l:Sq Int) (fuel:Int) (param:Nat):Nat→dv→dv
 | 0,s=>s
 | m+1,s=>ML l fuel param m (gJ l fuel param s)
def MP (l:Sq Int) (fuel:Int) (param:Nat) (p:Nat) (ins:Sq af) (ex:Sq ag):dv:=⟨(nx l (lv l p ins 0 param).2 14).2,bC ins (cm 18 0 0 0 fuel (ex.n:Int)),bT ex (lv l p ins 0 param).1⟩
def LY (l:Sq Int) (param:Nat) (p:Nat) (ins:Sq af) (ex:Sq ag):ai:=
 rh l (1+(nx l p 4).1) param (ML l (1+(nx l p 4).1) param (nx l (lv l (nx l p 4).2 ins 0 param).2 14).1.toNat (MP l (1+(nx l p 4).1) param (nx l p 4).2 ins ex))
def made (l:Sq Int):ai:=LY l (1+(nx l 0 4).1.toNat) (nx l 0 4).2 (qQ (1+(nx l 0 4).1.toNat) 0 gX) nO
end
def mN:Nat→Bool:=fun i=>Nat.beq i 4||Nat.beq i 7||Nat.beq i 16||Nat.beq i 19||Nat.beq i 26||Nat.beq i 31
theorem Ys:Fn 6:=⟨by kernel_rfl,by kernel_rfl⟩
noncomputable abbrev fO:ae:=.box [(ci 0),(ci 0),dS,dS]
theorem W4 (L:LP) (QD:D→Prop) (sn:Sq af→af→Sq af) (sx:Sq ag→ag→Sq ag) (l:Sq Int) (h:(WC 19 [(.c (.rt 1 0 0)),(int 4)] [fO,(.box [(.im (.sl 1 l.1 (fun i=>cg (l.2 i)))),(ci 0)]),(.box [(.rt 1 0 0),(ci 0),(ci 0),dS,dS,(ci 0),(ci 0)])] (int ((nx l 0 4).1)) 1 (aB l ((nx l 0 4).2))∧L (aj 6 4) ⟨[eI,cU,(4,((int 0),[]))],[fO,(aB l ((nx l 0 4).2)),(.box [(.rt 1 0 0),(ci 0),(ci 0),dS,dS,(ci 0),(ci (IntKind.i64.wrap (1+(nx l 0 4).1)))])],[]⟩)):gL (Ba l sn sx) 6 mN L (bF QD) [eR 1 cg l] []:=Eq.mp (by kernel_rfl) h
noncomputable abbrev me:jr:=(3,.c (.rt 2 0 0),[])
noncomputable def zW (sn:Sq af→af→Sq af) (sx:Sq ag→ag→Sq ag) (l:Sq Int) (p:Nat) (ins:Sq af) (aa:Sq ag) (param k:Nat):VS:=⟨[jq,me,(4,int k,[])],[H4,aB l p,aL 1 3 ins.n 4 aa.n 0 param,bV ins,j8 aa],[]⟩
noncomputable abbrev D0 (ax:Sq Int) (aX:Nat) (aN:Sq af) (cq:Sq ag) (ct:Nat):List ae:=[fO,(aB ax aX),(aL 1 3 aN.1 4 cq.1 0 (↑ct:Int)),(bl aN),(bE cq)]
noncomputable abbrev QC (ax:Sq Int) (aX:Nat) (aN:Sq af→af→Sq af) (cq:Sq af) (ct:Nat) (dJ:Sq ag) (ec:Nat):List ae:=[fO,(aB ax aX),(aL 1 5 ((aN cq { op:=Int.ofNat 1,a:=Int.ofNat 0,b:=Int.ofNat 0,c:=Int.ofNat 0,n:=Int.ofNat 0,args:={ n:=0,get:=fun x=>Int.ofNat 0 },k:={ kind:=Int.ofNat 3,n:=Int.ofNat ct,s:={ data:={ toList:=[] } } },names:={ n:=0,get:=fun x=>{ data:={ toList:=[] } } },place:={ fn:=Int.ofNat 0,line:=Int.ofNat 0 },exit:=Int.negSucc 0,once:=false }).1) 4 dJ.1 0 (↑ec:Int)),.dead,(bE dJ),(.arr 40 14 ((aN cq { op:=Int.ofNat 1,a:=Int.ofNat 0,b:=Int.ofNat 0,c:=Int.ofNat 0,n:=Int.ofNat 0,args:={ n:=0,get:=fun x=>Int.ofNat 0 },k:={ kind:=Int.ofNat 3,n:=Int.ofNat ct,s:={ data:={ toList:=[] } } },names:={ n:=0,get:=fun x=>{ data:={ toList:=[] } } },place:={ fn:=Int.ofNat 0,line:=Int.ofNat 0 },exit:=Int.negSucc 0,once:=false }).1) (fun i=>bn ((aN cq { op:=Int.ofNat 1,a:=Int.ofNat 0,b:=Int.ofNat 0,c:=Int.ofNat 0,n:=Int.ofNat 0,args:={ n:=0,get:=fun x=>Int.ofNat 0 },k:={ kind:=Int.ofNat 3,n:=Int.ofNat ct,s:={ data:={ toList:=[] } } },names:={ n:=0,get:=fun x=>{ data:={ toList:=[] } } },place:={ fn:=Int.ofNat 0,line:=Int.ofNat 0 },exit:=Int.negSucc 0,once:=false }).2 i)))]
theorem LB (L:LP) (QD:D→Prop) (sn:Sq af→af→Sq af) (sx:Sq ag→ag→Sq ag) (l:Sq Int) (p:Nat) (ins:Sq af) (aa:Sq ag) (param k:Nat) (h:br (decide ((↑k:Int)<(↑param:Int))) ((LC 20 [(.c (.rt 2 0 0)),(.a [(ci 1),(ci 0),(ci 0),(ci 0),(ci 0),dS,(ci 3),(ci (↑k:Int)),da,dS,(ci 0),(ci 0),(ci (-1)),eV])] (D0 l p ins aa param) (dy ins) (QC l p sn ins k aa param)∧L (aj 6 4) ⟨[eI,cU,(4,((int (IntKind.i64.wrap ((↑k:Int)+1))),[]))],(QC l p sn ins k aa param),[]⟩)) (L (aj 6 7) ⟨[eI,cU,(4,((int (↑k:Int)),[])),(29,((bool false),[]))],(D0 l p ins aa param),[]⟩)):dh (Ba l sn sx) 6 mN L (bF QD) 4 (zW sn sx l p ins aa param k):=Eq.mp (by kernel_rfl) h
noncomputable def Es (sn:Sq af→af→Sq af) (sx:Sq ag→ag→Sq ag) (l:Sq Int) (p:Nat) (ins:Sq af) (aa:Sq ag) (param:Nat):VS:=⟨[jq,me],[H4,aB l p,aL 1 3 ins.n 4 aa.n 0 param,bV ins,j8 aa],[]⟩
noncomputable abbrev tz:List D:=[(.c (.rt 2 0 0))]
noncomputable abbrev Cm (ax:Sq ag→ag→Sq ag) (aX:Sq ag) (aN:Sq Int) (cq:Nat) (ct:Sq af) (dJ:Nat):ae:=.arr 73 3 ((ax aX (lv aN (nx aN cq 4).2 ct 0 dJ).1).1) (fun i=>bq ((ax aX (lv aN (nx aN cq 4).2 ct 0 dJ).1).2 i))
noncomputable abbrev oO:jr:=(5,((.c (.rt 5 0 0)),[]))
theorem S4 (L:LP) (QD:D→Prop) (sn:Sq af→af→Sq af) (sx:Sq ag→ag→Sq ag) (l:Sq Int) (p:Nat) (ins:Sq af) (aa:Sq ag) (param:Nat) (h:(WC 19 [(.c (.rt 1 0 0)),(int 4)] (D0 l p ins aa param) (int ((nx l p 4).1)) 1 (aB l ((nx l p 4).2))∧(LC 21 tz [fO,(aB l ((nx l p 4).2)),(aL 1 3 ins.1 4 aa.1 0 (↑param:Int)),(bl ins),(bE aa),(.box (gk 18 0 0 0 (bR (I.v (Value.int IntKind.i64 (IntKind.i64.wrap (1+(nx l p 4).1))))) 0))] (ic aa) [fO,(aB l ((lv l (nx l p 4).2 ins 0 param).2)),(aL 1 3 ins.1 6 ((sx aa (lv l (nx l p 4).2 ins 0 param).1).1) 0 (↑param:Int)),(bl ins),.dead,(.box (gk 18 0 0 0 (bR (I.v (Value.int IntKind.i64 (IntKind.i64.wrap (1+(nx l p 4).1))))) 0)),(Cm sx aa l p ins param)]∧(LC 20 [(.c (.rt 2 0 0)),(.a (gk 18 0 0 0 (bR (I.v (Value.int IntKind.i64 (IntKind.i64.wrap (1+(nx l p 4).1))))) (Int.ofNat aa.1)))] [fO,(aB l ((lv l (nx l p 4).2 ins 0 param).2)),(aL 1 3 ins.1 6 ((sx aa (lv l (nx l p 4).2 ins 0 param).1).1) (IntKind.i64.wrap (1+(nx l p 4).1)) (↑param:Int)),(bl ins),.dead,(.box (gk 18 0 0 0 (bR (I.v (Value.int IntKind.i64 (IntKind.i64.wrap (1+(nx l p 4).1))))) (Int.ofNat aa.1))),(Cm sx aa l p ins param)] (dy ins) [fO,(aB l ((lv l (nx l p 4).2 ins 0 param).2)),(aL 1 7 ((sn ins (cm 18 0 0 0 (bR (I.v (Value.int IntKind.i64 (IntKind.i64.wrap (1+(nx l p 4).1))))) (Int.ofNat aa.1))).1) 6 ((sx aa (lv l (nx l p 4).2 ins 0 param).1).1) (IntKind.i64.wrap (1+(nx l p 4).1)) (↑param:Int)),.dead,.dead,(.box (gk 18 0 0 0 (bR (I.v (Value.int IntKind.i64 (IntKind.i64.wrap (1+(nx l p 4).1))))) (Int.ofNat aa.1))),(Cm sx aa l p ins param),(.arr 40 14 ((sn ins (cm 18 0 0 0 (bR (I.v (Value.int IntKind.i64 (IntKind.i64.wrap (1+(nx l p 4).1))))) (Int.ofNat aa.1))).1) (fun i=>bn ((sn ins (cm 18 0 0 0 (bR (I.v (Value.int IntKind.i64 (IntKind.i64.wrap (1+(nx l p 4).1))))) (Int.ofNat aa.1))).2 i)))]∧(WC 19 [(.c (.rt 1 0 0)),(int 14)] [fO,(aB l ((lv l (nx l p 4).2 ins 0 param).2)),(aL 1 7 ((sn ins (cm 18 0 0 0 (bR (I.v (Value.int IntKind.i64 (IntKind.i64.wrap (1+(nx l p 4).1))))) (Int.ofNat aa.1))).1) 6 ((sx aa (lv l (nx l p 4).2 ins 0 param).1).1) (IntKind.i64.wrap (1+(nx l p 4).1)) (↑param:Int)),.dead,.dead,(.box (gk 18 0 0 0 (bR (I.v (Value.int IntKind.i64 (IntKind.i64.wrap (1+(nx l p 4).1))))) (Int.ofNat aa.1))),(Cm sx aa l p ins param),(.arr 40 14 ((sn ins (cm 18 0 0 0 (bR (I.v (Value.int IntKind.i64 (IntKind.i64.wrap (1+(nx l p 4).1))))) (Int.ofNat aa.1))).1) (fun i=>bn ((sn ins (cm 18 0 0 0 (bR (I.v (Value.int IntKind.i64 (IntKind.i64.wrap (1+(nx l p 4).1))))) (Int.ofNat aa.1))).2 i)))] (int ((nx l (lv l (nx l p 4).2 ins 0 param).2 14).1)) 1 (aB l ((nx l (lv l (nx l p 4).2 ins 0 param).2 14).2))∧L (aj 6 16) ⟨[eI,cU,oO,(7,((int ((nx l (lv l (nx l p 4).2 ins 0 param).2 14).1)),[])),oB],[fO,(aB l ((nx l (lv l (nx l p 4).2 ins 0 param).2 14).2)),(aL 1 7 ((sn ins (cm 18 0 0 0 (bR (I.v (Value.int IntKind.i64 (IntKind.i64.wrap (1+(nx l p 4).1))))) (Int.ofNat aa.1))).1) 6 ((sx aa (lv l (nx l p 4).2 ins 0 param).1).1) (IntKind.i64.wrap (1+(nx l p 4).1)) (↑param:Int)),.dead,.dead,(.box (gk 18 0 0 0 (bR (I.v (Value.int IntKind.i64 (IntKind.i64.wrap (1+(nx l p 4).1))))) (Int.ofNat aa.1))),(Cm sx aa l p ins param),(.arr 40 14 ((sn ins (cm 18 0 0 0 (bR (I.v (Value.int IntKind.i64 (IntKind.i64.wrap (1+(nx l p 4).1))))) (Int.ofNat aa.1))).1) (fun i=>bn ((sn ins (cm 18 0 0 0 (bR (I.v (Value.int IntKind.i64 (IntKind.i64.wrap (1+(nx l p 4).1))))) (Int.ofNat aa.1))).2 i)))],[]⟩))))):dh (Ba l sn sx) 6 mN L (bF QD) 7 (Es sn sx l p ins aa param):=Eq.mp (by kernel_rfl) h
noncomputable abbrev xG:jr:=(5,.c (.rt 5 0 0),[])
noncomputable def s7 (sn:Sq af→af→Sq af) (sx:Sq ag→ag→Sq ag) (l:Sq Int) (p:Nat) (ins:Sq af) (aa:Sq ag) (fuel:Int) (param:Nat) (x:af) (steps k:Nat):VS:=⟨[jq,me,xG,(7,int steps,[]),(8,int k,[])],[H4,aB l p,aL 1 3 ins.n 4 aa.n fuel param,bV ins,j8 aa,.box (lift (aT x))],[]⟩
noncomputable abbrev lI (ax:Sq af) (aX:Sq ag) (aN:Int) (cq:Nat):ae:=aL 1 3 ax.1 4 aX.1 aN (↑cq:Int)
noncomputable abbrev yW (ax:Sq Int) (aX:Nat) (aN:Sq af) (cq:Sq ag) (ct:Int) (dJ:Nat) (ec:af):List ae:=[fO,(aB ax aX),(lI aN cq ct dJ),(bl aN),(bE cq),(cY ec)]
noncomputable abbrev Qh (ax:Sq Int) (aX:Int) (aN cq:Nat) (ct:Sq af) (dJ:Sq ag) (ec:af):List ae:=[fO,(aB ax ((gJ ax aX aN { p:=cq,ins:=ct,ex:=dJ }).p)),(aL 1 7 ((gJ ax aX aN { p:=cq,ins:=ct,ex:=dJ }).ins.1) 6 ((gJ ax aX aN { p:=cq,ins:=ct,ex:=dJ }).ex.1) aX (↑aN:Int)),.dead,.dead,(cY ec),(.arr 73 3 ((gJ ax aX aN { p:=cq,ins:=ct,ex:=dJ }).ex.1) (fun i=>bq ((gJ ax aX aN { p:=cq,ins:=ct,ex:=dJ }).ex.2 i))),(.arr 40 14 ((gJ ax aX aN { p:=cq,ins:=ct,ex:=dJ }).ins.1) (fun i=>bn ((gJ ax aX aN { p:=cq,ins:=ct,ex:=dJ }).ins.2 i)))]
theorem EZ (L:LP) (QD:D→Prop) (sn:Sq af→af→Sq af) (sx:Sq ag→ag→Sq ag) (l:Sq Int) (p:Nat) (ins:Sq af) (aa:Sq ag) (fuel:Int) (param:Nat) (x:af) (steps k:Nat) (h:br (decide ((↑k:Int)<(↑steps:Int))) ((LC 22 tz (yW l p ins aa fuel param x) (.t []) (Qh l fuel param p ins aa x)∧L (aj 6 16) ⟨[eI,cU,oO,(7,((mS steps),[])),(8,((int (IntKind.i64.wrap ((↑k:Int)+1))),[]))],(Qh l fuel param p ins aa x),[]⟩)) (L (aj 6 19) ⟨[eI,cU,oO,(7,((mS steps),[])),(8,((int (↑k:Int)),[])),(75,((bool false),[]))],(yW l p ins aa fuel param x),[]⟩)):dh (Ba l sn sx) 6 mN L (bF QD) 16 (s7 sn sx l p ins aa fuel param x steps k):=Eq.mp (by kernel_rfl) h
noncomputable def xF (sn:Sq af→af→Sq af) (sx:Sq ag→ag→Sq ag) (l:Sq Int) (p:Nat) (ins:Sq af) (aa:Sq ag) (fuel:Int) (param:Nat) (x:af):VS:=⟨[jq,me,xG],[H4,aB l p,aL 1 3 ins.n 4 aa.n fuel param,bV ins,j8 aa,.box (lift (aT x))],[]⟩
noncomputable abbrev Ee (ax:Sq ag→ag→Sq ag) (aX:Sq ag) (aN:Sq Int) (cq:Nat) (ct:Sq af) (dJ:Int) (ec:Nat):ae:=.arr 73 3 ((ax aX (lv aN (nx aN cq 6).2 ct dJ ec).1).1) (fun i=>bq ((ax aX (lv aN (nx aN cq 6).2 ct dJ ec).1).2 i))
theorem NR (L:LP) (QD:D→Prop) (sn:Sq af→af→Sq af) (sx:Sq ag→ag→Sq ag) (l:Sq Int) (p:Nat) (ins:Sq af) (aa:Sq ag) (fuel:Int) (param:Nat) (x:af) (h:(WC 19 [(.c (.rt 1 0 0)),(int 6)] (yW l p ins aa fuel param x) (int ((nx l p 6).1)) 1 (aB l ((nx l p 6).2))∧br ((nx l p 6).1==0) ((LC 21 tz [fO,(aB l ((nx l p 6).2)),(lI ins aa fuel param),(bl ins),(bE aa),(.box (gk 21 0 0 0 0 0))] (ic aa) [fO,(aB l ((lv l (nx l p 6).2 ins fuel param).2)),(aL 1 3 ins.1 6 ((sx aa (lv l (nx l p 6).2 ins fuel param).1).1) fuel (↑param:Int)),(bl ins),.dead,(.box (gk 21 0 0 0 0 0)),(Ee sx aa l p ins fuel param)]∧(LC 20 [(.c (.rt 2 0 0)),(.a (gk 21 0 0 0 0 (Int.ofNat aa.1)))] [fO,(aB l ((lv l (nx l p 6).2 ins fuel param).2)),(aL 1 3 ins.1 6 ((sx aa (lv l (nx l p 6).2 ins fuel param).1).1) fuel (↑param:Int)),(bl ins),.dead,(.box (gk 21 0 0 0 0 (Int.ofNat aa.1))),(Ee sx aa l p ins fuel param)] (dy ins) [fO,(aB l ((lv l (nx l p 6).2 ins fuel param).2)),(aL 1 7 ((sn ins (cm 21 0 0 0 0 (Int.ofNat aa.1))).1) 6 ((sx aa (lv l (nx l p 6).2 ins fuel param).1).1) fuel (↑param:Int)),.dead,.dead,(.box (gk 21 0 0 0 0 (Int.ofNat aa.1))),(Ee sx aa l p ins fuel param),(.arr 40 14 ((sn ins (cm 21 0 0 0 0 (Int.ofNat aa.1))).1) (fun i=>bn ((sn ins (cm 21 0 0 0 0 (Int.ofNat aa.1))).2 i)))]∧QD (.a (lift (bS ({ place:={ fn:=Int.ofNat 0,line:=Int.ofNat 0 },ins:=sn ins (cm 21 0 0 0 0 (Int.ofNat aa.1)),aa:=sx aa (lv l (nx l p 6).2 ins fuel param).1 }))))))) (L (aj 6 26) ⟨[eI,cU,oO,(9,((int 0),[]))],[fO,(aB l ((nx l p 6).2)),(lI ins aa fuel param),(bl ins),(bE aa),(.box (gk 20 0 0 0 0 (-1)))],[]⟩))):dh (Ba l sn sx) 6 mN L (bF QD) 19 (xF sn sx l p ins aa fuel param x):=Eq.mp (by kernel_rfl) h
noncomputable def qw (sn:Sq af→af→Sq af) (sx:Sq ag→ag→Sq ag) (l:Sq Int) (p:Nat) (ins:Sq af) (aa:Sq ag) (fuel:Int) (param:Nat) (hq:Sq Int) (k:Nat):VS:=⟨[jq,me,xG,(9,int k,[])],[H4,aB l p,aL 1 3 ins.n 4 aa.n fuel param,bV ins,j8 aa,.box [.im (iI 20),.im (iI 0),.im (iI 0),.im (iI 0),.im (iI 0),.sa 6 hq.n,.im (iI 0),.im (iI 0),.im (iS ⟨⟨[]⟩⟩),.im (.v (.slice none 0 0)),.im (iI 0),.im (iI 0),.im (iI (-1)),.im (iB false)],.arr 3 1 hq.n (fun i=>cg (hq.get i))],[]⟩
noncomputable abbrev GC (ax:Sq Int):ae:=.box [(ci 20),(ci 0),(ci 0),(ci 0),(ci 0),(.sa 6 ax.1),(ci 0),(ci 0),da,dS,(ci 0),(ci 0),(ci (-1)),eV]
theorem Fs (L:LP) (QD:D→Prop) (sn:Sq af→af→Sq af) (sx:Sq ag→ag→Sq ag) (l:Sq Int) (p:Nat) (ins:Sq af) (aa:Sq ag) (fuel:Int) (param:Nat) (hq:Sq Int) (k:Nat) (h:br (decide ((↑k:Int)<(↑param:Int))) ((WC 19 [(.c (.rt 1 0 0)),(int 2)] [fO,(aB l p),(lI ins aa fuel param),(bl ins),(bE aa),(GC hq),(k8 hq)] (kE l p) 1 (aB l ((nx l p 2).2))∧br ((nx l p 2).1==0) (nd (dX (hq.1+1) 8) (nd (hq.1.beq hq.1) (L (aj 6 26) ⟨[eI,cU,oO,(9,((int (IntKind.i64.wrap ((↑k:Int)+1))),[]))],[fO,(iX l p),(lI ins aa fuel param),(bl ins),(bE aa),(.box [(ci 20),(ci 0),(ci 0),(ci 0),(ci 0),(.sa 8 (.succ hq.1)),(ci 0),(ci 0),da,dS,(ci 0),(ci 0),(ci (-1)),eV]),.dead,(zn k),(E5 hq k)],[]⟩))) ((WC 23 tz [fO,(iX l p),(lI ins aa fuel param),(bl ins),(bE aa),(GC hq),(k8 hq),.dead,.dead,.dead] (jW l p ins) 1 (aB l ((vl l (nx l p 2).2 ins).2))∧nd (dX (hq.1+1) 8) (nd (hq.1.beq hq.1) ((WC 23 tz [fO,(iX l p),(lI ins aa fuel param),(bl ins),(bE aa),(GC hq),(k8 hq),.dead,.dead,.dead] (jW l p ins) 1 (aB l ((vl l (nx l p 2).2 ins).2))∧nd (dX (hq.1+1) 8) (nd (hq.1.beq hq.1) (L (aj 6 26) ⟨[eI,cU,oO,(9,((int (IntKind.i64.wrap ((↑k:Int)+1))),[]))],[fO,(rU l p ins),(lI ins aa fuel param),(bl ins),(bE aa),(.box [(ci 20),(ci 0),(ci 0),(ci 0),(ci 0),(.sa 9 (.succ hq.1)),(ci 0),(ci 0),da,dS,(ci 0),(ci 0),(ci (-1)),eV]),.dead,.dead,(.row 3 1 1 [(ci ((vl l (nx l p 2).2 ins).1))]),(.arr 3 1 (hq.1+1) (j0 hq.1 (fun i=>cg (hq.2 i)) (1,flat 1 [I.v (Value.int IntKind.i64 (vl l (nx l p 2).2 ins).1)]).snd))],[]⟩))))))))) (L (aj 6 31) ⟨[eI,cU,oO,(9,((int (↑k:Int)),[])),(103,((bool false),[]))],[fO,(aB l p),(lI ins aa fuel param),(bl ins),(bE aa),(GC hq),(k8 hq)],[]⟩)):dh (Ba l sn sx) 6 mN L (bF QD) 26 (qw sn sx l p ins aa fuel param hq k):=Eq.mp (by kernel_rfl) h
noncomputable def yr (sn:Sq af→af→Sq af) (sx:Sq ag→ag→Sq ag) (l:Sq Int) (p:Nat) (ins:Sq af) (aa:Sq ag) (fuel:Int) (param:Nat) (x:af):VS:=⟨[jq,me,xG],[H4,aB l p,aL 1 3 ins.n 4 aa.n fuel param,bV ins,j8 aa,.box (lift (aT x))],[]⟩
theorem Oo (L:LP) (QD:D→Prop) (sn:Sq af→af→Sq af) (sx:Sq ag→ag→Sq ag) (l:Sq Int) (p:Nat) (ins:Sq af) (aa:Sq ag) (fuel:Int) (param:Nat) (x:af) (h:(LC 20 [(.c (.rt 2 0 0)),(.a (lift (aT (x))))] (yW l p ins aa fuel param x) (dy ins) [fO,(aB l p),(aL 1 6 ((sn ins x).1) 4 aa.1 fuel (↑param:Int)),.dead,(bE aa),(cY x),(.arr 40 14 ((sn ins x).1) (fun i=>bn ((sn ins x).2 i)))]∧QD (.a (lift (bS ({ place:={ fn:=Int.ofNat 0,line:=Int.ofNat 0 },ins:=sn ins x,aa:=aa })))))):dh (Ba l sn sx) 6 mN L (bF QD) 31 (yr sn sx l p ins aa fuel param x):=Eq.mp (by kernel_rfl) h
theorem PJ (l:Sq Int) (p:Nat) (ins:Sq af) (aa:Sq ag) (fuel:Int) (param:Nat) (x:af) (hI:ins.n≤1000):ah 6 0 (cf (dU (⟨⟨0,0⟩,bC ins x,aa⟩))) (aj 6 31) (yr bC bT l p ins aa fuel param x):=by
 refine bD (X:=Ba l bC bT) (stop:=mN) (Oo _ _ bC bT l p ins aa fuel param x ⟨eM (m:=1) (q:=2) (i:=3) (j:=4) _ _ hI (bp.refl _) rfl (aP rfl) rfl rfl (aP rfl),?_⟩)
 exact bp.refl _
theorem OC (l:Sq Int) (ins:Sq af) (aa:Sq ag) (fuel:Int) (param:Nat) (hl:l.n≤maxLen) (hI:ins.n≤1000) (hP:param≤900) (o:Sq Int):∀ k,k≤param→∀ (p:Nat) (hq:Sq Int),hq.n≤k→rv l ins (param-k) k p hq=o→ah 6 0 (cf (dU (SI ⟨0,ins,aa⟩ o))) (aj 6 26) (qw bC bT l p ins aa fuel param hq k):=by
 refine bo (fun k hk ih p hq hh ho=>?_) (fun p hq hh ho=>?_)
 ·have q:param-k=(param-(k+1))+1:=by omega
  rw [q] at ho
  refine bD (X:=Ba l bC bT) (stop:=mN) (Fs _ _ bC bT l p ins aa fuel param hq k ?_)
  rw [cd hk (bU hP (by decide))]
  refine ay (fun h3=>?_) (fun h3=>(dec_lt h3 hk).elim)
  refine ⟨ej l _ _ hl rfl,ay (fun h4=>?_) (fun h4=>?_)⟩
  ·have e:rv l ins (param-(k+1)+1) k p hq=rv l ins (param-(k+1)) (k+1) (nx l p 2).2 (cW hq ⟨1,fun _=>(k:Int)⟩):=by
    rw [show rv l ins (param-(k+1)+1) k p hq=(bif (nx l p 2).1==0 then rv l ins (param-(k+1)) (k+1) (nx l p 2).2 (cW hq ⟨1,fun _=>(k:Int)⟩) else rv l ins (param-(k+1)) (k+1) (vl l (nx l p 2).2 ins).2 (cW hq ⟨1,fun _=>(vl l (nx l p 2).2 ins).1⟩)) from rfl,show ((nx l p 2).1==0)=true from h4]; rfl
   rw [e] at ho
   refine aA (ez (by omega) (by omega)) (aA (cB _) ?_)
   exact ah.rename [0,1,2,3,4,5,8] rfl (ah.le (qw bC bT l (nx l p 2).2 ins aa fuel param (cW hq ⟨1,fun _=>(k:Int)⟩) (k+1)) (by repeat' (first|exact trivial|refine cR rfl ?_)) (rc (rc (rc (rc (rc (rc (.cons (uv hq _) .nil))))))) rfl (ih _ _ (by show hq.n+1≤_; omega) ho))
  ·have e:rv l ins (param-(k+1)+1) k p hq=rv l ins (param-(k+1)) (k+1) (vl l (nx l p 2).2 ins).2 (cW hq ⟨1,fun _=>(vl l (nx l p 2).2 ins).1⟩):=by
    rw [show rv l ins (param-(k+1)+1) k p hq=(bif (nx l p 2).1==0 then rv l ins (param-(k+1)) (k+1) (nx l p 2).2 (cW hq ⟨1,fun _=>(k:Int)⟩) else rv l ins (param-(k+1)) (k+1) (vl l (nx l p 2).2 ins).2 (cW hq ⟨1,fun _=>(vl l (nx l p 2).2 ins).1⟩)) from rfl,show ((nx l p 2).1==0)=false from h4]; rfl
   rw [e] at ho
   refine ⟨fy (m:=1) (q:=2) (i:=3) (j:=4) l _ _ hl (by omega) rfl rfl rfl rfl (aP rfl),aA (ez (by omega) (by omega)) (aA (cB _) ⟨fy (m:=1) (q:=2) (i:=3) (j:=4) l _ _ hl (by omega) rfl rfl rfl rfl (aP rfl),aA (ez (by omega) (by omega)) (aA (cB _) ?_)⟩)⟩
   exact ah.rename [0,1,2,3,4,5,9] rfl (ah.le (qw bC bT l (vl l (nx l p 2).2 ins).2 ins aa fuel param (cW hq ⟨1,fun _=>(vl l (nx l p 2).2 ins).1⟩) (k+1)) (by repeat' (first|exact trivial|refine cR rfl ?_)) (rc (rc (rc (rc (rc (rc (.cons (uv hq _) .nil))))))) rfl (ih _ _ (by show hq.n+1≤_; omega) ho))
 ·rw [Nat.sub_self] at ho
  refine bD (X:=Ba l bC bT) (stop:=mN) (Fs _ _ bC bT l p ins aa fuel param hq _ ?_)
  refine ay (fun h3=>cE h3) (fun h3=>?_)
  have ho:hq=o:=ho
  subst ho
  exact ah.freeze 6 rfl (ah.rename [0,1,2,3,4,5] rfl (ah.le (yr bC bT l p ins aa fuel param { cm 20 0 0 0 0 (-1) with args:=hq }) (by repeat' (first|exact trivial|refine cR rfl ?_)) (rc (rc (rc (rc (rc (.cons (cw.box (by repeat' (first|exact az.nil|refine az.cons ?_ ?_|exact eN.refl _|exact eN.nil _ _))) .nil)))))) rfl (PJ l p ins aa fuel param _ hI)))
theorem Ot (l:Sq Int) (p:Nat) (ins:Sq af) (aa:Sq ag) (fuel:Int) (param:Nat) (x:af) (hl:l.n≤maxLen) (hI:ins.n≤900) (hE:aa.n≤900) (hF:0≤fuel∧fuel≤1000) (hP:param≤900):ah 6 0 (cf (dU (rh l fuel param ⟨p,ins,aa⟩))) (aj 6 19) (xF bC bT l p ins aa fuel param x):=by
 refine bD (X:=Ba l bC bT) (stop:=mN) (NR _ _ bC bT l p ins aa fuel param x ⟨ej l _ _ hl rfl,ay (fun h=>?_) (fun h=>?_)⟩)
 ·rw [show rh l fuel param ⟨p,ins,aa⟩=⟨⟨0,0⟩,bC ins (cm 21 0 0 0 0 (aa.n:Int)),bT aa (lv l (nx l p 6).2 ins fuel param).1⟩ from by unfold rh; rw [show ((nx l p 6).1==0)=true from h]; rfl]
  exact ⟨lY (m:=1) (q:=2) (i:=3) (j:=4) l _ _ _ hl (by omega) (by omega) hF (by omega) rfl rfl rfl rfl rfl,eM (m:=1) (q:=2) (i:=3) (j:=6) _ _ (by omega) (by first|exact bp.refl _|exact iJ (by repeat' (first|exact az.nil|refine az.cons ?_ ?_|exact eN.refl _|exact eN.nil _ _))) rfl (aP rfl) rfl rfl (aP rfl),bp.refl _⟩
 ·rw [show rh l fuel param ⟨p,ins,aa⟩=SI ⟨0,ins,aa⟩ (rv l ins param 0 (nx l p 6).2 (cx 0)) from by unfold rh; rw [show ((nx l p 6).1==0)=false from h]; rfl]
  exact ah.lj 5 5 3 1 _ rfl rfl (ah.le (qw bC bT l (nx l p 6).2 ins aa fuel param (cx 0) 0) (by repeat' (first|exact trivial|refine cR rfl ?_)) (rc (rc (rc (rc (rc (rc (.cons (ra 3 1 _ _) .nil))))))) rfl (OC l ins aa fuel param hl (by omega) hP _ 0 (bB _) _ (cx 0) (bB _) rfl))
theorem NT (l:Sq Int) (fuel:Int) (param:Nat) (x:af) (steps:Nat) (hl:l.n≤maxLen) (hF:0≤fuel∧fuel≤1000) (hP:param≤900) (hS:steps≤1000) (o:ai):∀ k,k≤steps→∀ (p:Nat) (ins:Sq af) (aa:Sq ag),ins.n+4*(steps-k)≤900→aa.n+2*(steps-k)≤900→rh l fuel param (ML l fuel param (steps-k) ⟨p,ins,aa⟩)=o→ah 6 0 (cf (dU (o))) (aj 6 16) (s7 bC bT l p ins aa fuel param x steps k):=by
 refine bo (fun k hk ih p ins aa hI hE ho=>?_) (fun p ins aa hI hE ho=>?_)
 ·have q:steps-k=(steps-(k+1))+1:=by omega
  rw [q] at ho hI hE
  refine bD (X:=Ba l bC bT) (stop:=mN) (EZ _ _ bC bT l p ins aa fuel param x steps k ?_)
  rw [cd hk (bU hS (by decide))]
  refine ay (fun h3=>?_) (fun h3=>(dec_lt h3 hk).elim)
  refine ⟨VN (m:=1) (q:=2) (i:=3) (j:=4) l p ins aa fuel param hl (by omega) (by omega) hF (by omega) rfl rfl rfl rfl rfl,?_⟩
  have g:=CK l fuel param hP ⟨p,ins,aa⟩
  have g1:=g.ins
  have g2:=g.ex
  exact ah.rename [0,1,2,7,6,5] rfl (ah.le (s7 bC bT l (gJ l fuel param ⟨p,ins,aa⟩).p (gJ l fuel param ⟨p,ins,aa⟩).ins (gJ l fuel param ⟨p,ins,aa⟩).ex fuel param x steps (k+1)) (by repeat' (first|exact trivial|refine cR rfl ?_)) (rc (rc (rc (rc (rc (rc .nil)))))) rfl (ih _ _ _ (by show _+_≤_; have g1:_≤ins.n+4:=g1; omega) (by have g2:_≤aa.n+2:=g2; omega) ho))
 ·rw [Nat.sub_self] at ho hI hE
  refine bD (X:=Ba l bC bT) (stop:=mN) (EZ _ _ bC bT l p ins aa fuel param x steps _ ?_)
  refine ay (fun h3=>cE h3) (fun h3=>?_)
  have ho:rh l fuel param ⟨p,ins,aa⟩=o:=ho
  subst ho
  exact ah.le (xF bC bT l p ins aa fuel param x) (by repeat' (first|exact trivial|refine cR rfl ?_)) (rc (rc (rc (rc (rc (rc .nil)))))) rfl (Ot l p ins aa fuel param x hl (by omega) (by omega) hF hP)
theorem Se (l:Sq Int) (p:Nat) (ins:Sq af) (aa:Sq ag) (param:Nat) (hl:l.n≤maxLen) (hI:ins.n≤800) (hE:aa.n≤800) (hP:param≤900):ah 6 0 (cf (dU (LY l param p ins aa))) (aj 6 7) (Es bC bT l p ins aa param):=by
 obtain ⟨d,hd,dp⟩:=il (l:=l) (p:=(lv l (nx l p 4).2 ins 0 param).2) (n:=14) (by omega) (by omega)
 have hf:=uE (l:=l) (p:=p) (n:=4) (by omega) (by omega)
 have hF:(0:Int)≤0∧(0:Int)≤1000:=by omega
 refine bD (X:=Ba l bC bT) (stop:=mN) (S4 _ _ bC bT l p ins aa param ?_)
 rw [fR (k:=1+(nx l p 4).1) (by omega) (by omega)]
 refine ⟨ej l _ _ hl rfl,lY (m:=1) (q:=2) (i:=3) (j:=4) l _ _ _ hl (by omega) (by omega) hF (by omega) rfl rfl rfl rfl rfl,eM (m:=1) (q:=2) (i:=3) (j:=6) _ _ (by omega) (by first|exact bp.refl _|exact iJ (by repeat' (first|exact az.nil|refine az.cons ?_ ?_|exact eN.refl _|exact eN.nil _ _))) rfl (aP rfl) rfl rfl (aP rfl),ej l _ _ hl rfl,?_⟩
 rw [show LY l param p ins aa=rh l (1+(nx l p 4).1) param (ML l (1+(nx l p 4).1) param d (MP l (1+(nx l p 4).1) param (nx l p 4).2 ins aa)) from by unfold LY; rw [hd]; rfl]
 refine ah.rename [0,1,2,7,6,5] rfl (ah.le (s7 bC bT l (MP l (1+(nx l p 4).1) param (nx l p 4).2 ins aa).p (MP l (1+(nx l p 4).1) param (nx l p 4).2 ins aa).ins (MP l (1+(nx l p 4).1) param (nx l p 4).2 ins aa).ex (1+(nx l p 4).1) param (cm 18 0 0 0 (1+(nx l p 4).1) (aa.n:Int)) d 0) ⟨⟨rfl,_,rfl,bp.refl _⟩,⟨rfl,_,rfl,bp.refl _⟩,⟨rfl,_,rfl,bp.refl _⟩,⟨rfl,_,rfl,by rw [hd]; exact bp.refl _⟩,⟨rfl,_,rfl,bp.refl _⟩,trivial⟩ (rc (rc (rc (rc (rc (.cons (cw.box (by repeat' (first|exact az.nil|refine az.cons ?_ ?_|exact eN.refl _|exact eN.nil _ _))) .nil)))))) rfl (NT l _ param _ d hl (by omega) hP (by omega) _ 0 (bB _) _ _ _ (by show ins.n+1+4*(d-0)≤900; omega) (by show aa.n+1+2*(d-0)≤900; omega) rfl))
theorem Te (l:Sq Int) (p:Nat) (aa:Sq ag) (param:Nat) (hl:l.n≤maxLen) (hE:aa.n≤800) (hP:param≤500) (o:ai):∀ k,k≤param→∀ (ins:Sq af),ins.n≤k→LY l param p (qQ (param-k) k ins) aa=o→ah 6 0 (cf (dU (o))) (aj 6 4) (zW bC bT l p ins aa param k):=by
 refine bo (fun k hk ih ins hI ho=>?_) (fun ins hI ho=>?_)
 ·have q:param-k=(param-(k+1))+1:=by omega
  rw [q] at ho
  refine bD (X:=Ba l bC bT) (stop:=mN) (LB _ _ bC bT l p ins aa param k ?_)
  rw [cd hk (bU hP (by decide))]
  refine ay (fun h3=>?_) (fun h3=>(dec_lt h3 hk).elim)
  refine ⟨eM (m:=1) (q:=2) (i:=3) (j:=4) _ (pI k) (by omega) (by first|exact bp.refl _|exact iJ (by repeat' (first|exact az.nil|refine az.cons ?_ ?_|exact eN.refl _|exact eN.nil _ _))) rfl (aP rfl) rfl rfl (aP rfl),?_⟩
  exact ah.rename [0,1,2,5,4] rfl (ah.le (zW bC bT l p (bC ins (pI k)) aa param (k+1)) (by repeat' (first|exact trivial|refine cR rfl ?_)) (rc (rc (rc (rc (rc .nil))))) rfl (ih _ (by show ins.n+1≤_; omega) ho))
 ·rw [Nat.sub_self] at ho
  refine bD (X:=Ba l bC bT) (stop:=mN) (LB _ _ bC bT l p ins aa param _ ?_)
  refine ay (fun h3=>cE h3) (fun h3=>?_)
  have ho:LY l param p ins aa=o:=ho
  subst ho
  exact ah.le (Es bC bT l p ins aa param) (by repeat' (first|exact trivial|refine cR rfl ?_)) (rc (rc (rc (rc (rc .nil))))) rfl (Se l p ins aa param hl (by omega) hE (by omega))
theorem UW (l:Sq Int) (hl:l.n≤maxLen):LC 6 [eR 1 cg l] [] (dU (made l)) []:=by
 obtain ⟨d,hd,dp⟩:=il (l:=l) (p:=0) (n:=4) (by omega) (by omega)
 refine bw (X:=Ba l bC bT) (stop:=mN) Ys (aP (by kernel_rfl)) (W4 _ _ bC bT l ⟨ej l 0 _ hl rfl,?_⟩)
 rw [hd,show IntKind.i64.wrap (1+(d:Int))=((1+d:Nat):Int) from by rw [show 1+(d:Int)=((1+d:Nat):Int) by omega,kR (by omega)]]
 rw [show made l=LY l (1+d) (nx l 0 4).2 (qQ (1+d) 0 gX) nO from by unfold made; rw [hd]; rfl]
 exact ah.lj 2 3 40 14 _ rfl rfl (ah.lj 2 4 73 3 _ rfl rfl (ah.le (zW bC bT l (nx l 0 4).2 gX nO (1+d) 0) (by repeat' (first|exact trivial|refine cR rfl ?_)) (rc (rc (rc (.cons (ra 40 14 _ _) (.cons (ra 73 3 _ _) .nil))))) rfl (Te l _ nO (1+d) hl (bB _) (by omega) _ 0 (bB _) gX (bB _) rfl)))
end Go.Proofs.YtghfgcfabbbbbaaDoor
namespace Go.V
noncomputable section
end
def Ii (x y:O):Prop:=∀ (av:Nat→Prop) (base:Nat) (w:World) (K:Nat→Prop) (v:Value),je av base w x K v→je av base w y K v
theorem Ii.refl (x:O):Ii x x:=fun _ _ _ _ _ h=>h
theorem Ii.im {x y:I} (h:dP x y):Ii (.im x) (.im y):=fun av _ w _ v q=>h av w v q
theorem Ii.ar {e sz n:Nat} {g g':Nat→Nat→I} (h:∀ i,i<n→∀ j,j<sz→dP (g i j) (g' i j)):Ii (.ar e sz n g) (.ar e sz n g'):=by
 rintro av base w K v ⟨h0,xs,h1,h2⟩
 refine ⟨h0,xs,h1,fun i hi j hj=>?_⟩
 obtain ⟨x,q1,q2⟩:=h2 i hi j hj
 exact ⟨x,q1,h i hi j hj _ _ _ q2⟩
theorem Ii.ns {e sz n:Nat} {g g':Nat→Nat→O} (h:∀ i,i<n→∀ j,j<sz→Ii (g i j) (g' i j)):Ii (.ns e sz n g) (.ns e sz n g'):=by
 rintro av base w K v ⟨h0,xs,h1,Ks,hp,h2⟩
 refine ⟨h0,xs,h1,Ks,hp,fun i hi j hj=>?_⟩
 obtain ⟨x,q1,q2⟩:=h2 i hi j hj
 exact ⟨x,q1,h i hi j hj _ _ _ _ _ q2⟩
theorem G7.o {x y:O} (h:Ii x y):G7 (.o x) (.o y):=fun _ av base w K v q=>h av base w K v q
theorem G7.trans {x y z:Fc} (h:G7 x y) (k:G7 y z):G7 x z:=fun E av base w K v q=>k _ _ _ _ _ _ (h _ _ _ _ _ _ q)
theorem cw.gy {el sz n:Nat} {get get':Nat→Nat→O} (h:∀ i,i<n→∀ j,j<sz→Ii (get i j) (get' i j)):cw (.gy el sz n get none) (.gy el sz n get' none):=
 ⟨fun _=>trivial,fun base E w e av q=>IG (fun x hx=>by cases hx) (fun i hi j hj c hc=>by
  simp only [iL,ak] at hc
  subst hc
  exact ⟨_,rfl,G7.o (h i hi j hj)⟩) q⟩
theorem cw.own {L L':List O} (h:az Ii L L'):cw (.own L) (.own L'):=⟨fun _=>trivial,by
 rintro base E w e av ⟨p1,p2,vs,p3,p4,Ks,p5,p6,p7⟩
 refine ⟨p1,fun q=>?_,vs,p3,by rw [p4,h.length],Ks,p5,p6,fun i o ho=>?_⟩
 ·subst q
  cases h
  exact p2 rfl
 ·have hi:i<L.length:=by rw [h.length]; exact (List.getElem?_eq_some_iff.1 ho).1
  have hx:=gj hi
  obtain ⟨v,g1,g2⟩:=p7 i _ hx
  exact ⟨v,g1,h.get hx ho _ _ _ _ _ g2⟩⟩
end Go.V
namespace Go.Proofs.YtghfgcfabbbbbaaDoor
open Go Go.V
section
variable {f:FuncId} {n0:Nat} {Q:D→List ae→Prop} {todo:List Item} {s:VS}
end
open Go Go.V
noncomputable section
end
open Go Go.V
noncomputable section
end
open Go Go.V
noncomputable section
end
set_option maxHeartbeats 4000000
open Go Go.V
noncomputable section
end
noncomputable section
def fo (t:ai) (k:Nat) (x:af):ai:={ t with ins:=⟨t.ins.n,fun i=>bif Nat.beq i k then x else t.ins.get i⟩ }
def AK (t:ai) (k:Nat) (x:ag):ai:={ t with aa:=⟨t.aa.n,fun i=>bif Nat.beq i k then x else t.aa.get i⟩ }
end
theorem zr {i k:Nat} (h:i≠k):Nat.beq i k=false:=by
 cases hb:Nat.beq i k with
 | false=>rfl
 | true=>exact (h (Nat.eq_of_beq_eq_true hb)).elim
theorem eN.im {x y:I} (h:dP x y):eN (.im x) (.im y):=fun E av w v q=>h av w v q
noncomputable section
end
open Go Go.V
theorem bJ {α:Type} {e:α→α→Bool} {x:Sq α} {g:Nat→α}:dM e x ⟨0,g⟩=(x.n==0):=by
 unfold dM
 cases h:x.n==0 with
 | true=>
   have:x.n=0:=by simpa using h
   rw [this]; rfl
 | false=>rfl
theorem bM (x:Sq Int):dM (fun a b=>a==b) x x=true:=by
 unfold dM
 simp [fz]
theorem bK (x:Sq ByteArray):dM nQ x x=true:=by
 unfold dM
 simp [fz,nQ]
theorem dw (s:ByteArray):(s==s)=true:=by
 show ByteArray.beq s s=true
 simp [ByteArray.beq]
theorem du (b:Bool):(bif b then true else false)=b:=by cases b<;>rfl
theorem UQ (a b c n:Int) (args:Sq Int) (kk kn:Int) (ks:ByteArray) (names:Sq ByteArray) (pf pl exit:Int) (once:Bool) (hn:n≤9223372036854775807):aO ⟨0,a,b,c,n,args,⟨kk,kn,ks⟩,names,⟨pf,pl⟩,exit,once⟩=aW ⟨0,a,b,c,n,args,⟨kk,kn,ks⟩,names,⟨pf,pl⟩,exit,once⟩:=by
 simp [aO,iW,yA,sH,aR,fG,aW,nH,nF,ln,lq,eL,ep,fM,fK,zeroV,dW,b8,dg,bJ,bM,bK,du,dw]
 try (rw [eh]; grind)
theorem U7 (a b c n:Int) (args:Sq Int) (kk kn:Int) (ks:ByteArray) (names:Sq ByteArray) (pf pl exit:Int) (once:Bool) (hn:n≤9223372036854775807):aO ⟨1,a,b,c,n,args,⟨kk,kn,ks⟩,names,⟨pf,pl⟩,exit,once⟩=aW ⟨1,a,b,c,n,args,⟨kk,kn,ks⟩,names,⟨pf,pl⟩,exit,once⟩:=by
 cases hk:(kk==3)<;>cases h1:decide (kn≥0)<;>cases h2:decide (kn≤23)<;>simp only [beq_iff_eq,beq_eq_false_iff_ne,decide_eq_true_eq,decide_eq_false_iff_not] at hk h1 h2
 all_goals
  simp [aO,iW,yA,sH,aR,fG,aW,nH,nF,ln,lq,eL,ep,fM,fK,zeroV,dW,b8,dg,hk,h1,h2,bJ,bM,bK,du,dw]
 all_goals try (rw [eh]; grind)
theorem V3 (a b c n:Int) (args:Sq Int) (kk kn:Int) (ks:ByteArray) (names:Sq ByteArray) (pf pl exit:Int) (once:Bool) (hn:n≤9223372036854775807):aO ⟨2,a,b,c,n,args,⟨kk,kn,ks⟩,names,⟨pf,pl⟩,exit,once⟩=aW ⟨2,a,b,c,n,args,⟨kk,kn,ks⟩,names,⟨pf,pl⟩,exit,once⟩:=by
 simp [aO,iW,yA,sH,aR,fG,aW,nH,nF,ln,lq,eL,ep,fM,fK,zeroV,dW,b8,dg,bJ,bM,bK,du,dw]
 try (rw [eh]; grind)
theorem VY (a b c n:Int) (args:Sq Int) (kk kn:Int) (ks:ByteArray) (names:Sq ByteArray) (pf pl exit:Int) (once:Bool) (hn:n≤9223372036854775807):aO ⟨3,a,b,c,n,args,⟨kk,kn,ks⟩,names,⟨pf,pl⟩,exit,once⟩=aW ⟨3,a,b,c,n,args,⟨kk,kn,ks⟩,names,⟨pf,pl⟩,exit,once⟩:=by
 cases h1:(n==3)
 all_goals
  simp only [aO,iW,sH,h1,show ((3:Int)==3)=true from rfl,cond_true,cond_false]
  simp only [beq_iff_eq,beq_eq_false_iff_ne] at h1
  simp [aO,iW,yA,sH,aR,fG,aW,nH,nF,ln,lq,eL,ep,fM,fK,zeroV,dW,b8,dg,h1,bJ,bM,bK,du,dw]
 all_goals try (rw [eh]; grind)
theorem Vx (a b c n:Int) (args:Sq Int) (kk kn:Int) (ks:ByteArray) (names:Sq ByteArray) (pf pl exit:Int) (once:Bool) (hn:n≤9223372036854775807):aO ⟨4,a,b,c,n,args,⟨kk,kn,ks⟩,names,⟨pf,pl⟩,exit,once⟩=aW ⟨4,a,b,c,n,args,⟨kk,kn,ks⟩,names,⟨pf,pl⟩,exit,once⟩:=by
 simp [aO,iW,yA,sH,aR,fG,aW,nH,nF,ln,lq,eL,ep,fM,fK,zeroV,dW,b8,dg,bJ,bM,bK,du,dw]
 try (rw [eh]; grind)
theorem TL (a b c n:Int) (args:Sq Int) (kk kn:Int) (ks:ByteArray) (names:Sq ByteArray) (pf pl exit:Int) (once:Bool) (hn:n≤9223372036854775807):aO ⟨5,a,b,c,n,args,⟨kk,kn,ks⟩,names,⟨pf,pl⟩,exit,once⟩=aW ⟨5,a,b,c,n,args,⟨kk,kn,ks⟩,names,⟨pf,pl⟩,exit,once⟩:=by
 simp [aO,iW,yA,sH,aR,fG,aW,nH,nF,ln,lq,eL,ep,fM,fK,zeroV,dW,b8,dg,bJ,bM,bK,du,dw]
 try (rw [eh]; grind)
theorem Vb (a b c n:Int) (args:Sq Int) (kk kn:Int) (ks:ByteArray) (names:Sq ByteArray) (pf pl exit:Int) (once:Bool) (hn:n≤9223372036854775807):aO ⟨6,a,b,c,n,args,⟨kk,kn,ks⟩,names,⟨pf,pl⟩,exit,once⟩=aW ⟨6,a,b,c,n,args,⟨kk,kn,ks⟩,names,⟨pf,pl⟩,exit,once⟩:=by
 simp [aO,iW,yA,sH,aR,fG,aW,nH,nF,ln,lq,eL,ep,fM,fK,zeroV,dW,b8,dg,bJ,bM,bK,du,dw]
 try (rw [eh]; grind)
theorem UL (a b c n:Int) (args:Sq Int) (kk kn:Int) (ks:ByteArray) (names:Sq ByteArray) (pf pl exit:Int) (once:Bool) (hn:n≤9223372036854775807):aO ⟨7,a,b,c,n,args,⟨kk,kn,ks⟩,names,⟨pf,pl⟩,exit,once⟩=aW ⟨7,a,b,c,n,args,⟨kk,kn,ks⟩,names,⟨pf,pl⟩,exit,once⟩:=by
 cases h1:decide (n≥0)<;>simp only [decide_eq_true_eq,decide_eq_false_iff_not] at h1
 all_goals
  simp [aO,iW,yA,sH,aR,fG,aW,nH,nF,ln,lq,eL,ep,fM,fK,zeroV,dW,b8,dg,h1,bJ,bM,bK,du,dw]
 all_goals try (rw [eh]; grind)
theorem VW (a b c n:Int) (args:Sq Int) (kk kn:Int) (ks:ByteArray) (names:Sq ByteArray) (pf pl exit:Int) (once:Bool) (hn:n≤9223372036854775807):aO ⟨8,a,b,c,n,args,⟨kk,kn,ks⟩,names,⟨pf,pl⟩,exit,once⟩=aW ⟨8,a,b,c,n,args,⟨kk,kn,ks⟩,names,⟨pf,pl⟩,exit,once⟩:=by
 simp [aO,iW,yA,sH,aR,fG,aW,nH,nF,ln,lq,eL,ep,fM,fK,zeroV,dW,b8,dg,bJ,bM,bK,du,dw]
 try (rw [eh]; grind)
theorem V8 (a b c n:Int) (args:Sq Int) (kk kn:Int) (ks:ByteArray) (names:Sq ByteArray) (pf pl exit:Int) (once:Bool) (hn:n≤9223372036854775807):aO ⟨9,a,b,c,n,args,⟨kk,kn,ks⟩,names,⟨pf,pl⟩,exit,once⟩=aW ⟨9,a,b,c,n,args,⟨kk,kn,ks⟩,names,⟨pf,pl⟩,exit,once⟩:=by
 simp [aO,iW,yA,sH,aR,fG,aW,nH,nF,ln,lq,eL,ep,fM,fK,zeroV,dW,b8,dg,bJ,bM,bK,du,dw]
 try (rw [eh]; grind)
theorem QZ (a b c n:Int) (args:Sq Int) (kk kn:Int) (ks:ByteArray) (names:Sq ByteArray) (pf pl exit:Int) (once:Bool) (hn:n≤9223372036854775807):aO ⟨10,a,b,c,n,args,⟨kk,kn,ks⟩,names,⟨pf,pl⟩,exit,once⟩=aW ⟨10,a,b,c,n,args,⟨kk,kn,ks⟩,names,⟨pf,pl⟩,exit,once⟩:=by
 simp [aO,iW,yA,sH,aR,fG,aW,nH,nF,ln,lq,eL,ep,fM,fK,zeroV,dW,b8,dg,bJ,bM,bK,du,dw]
 try (rw [eh]; grind)
theorem Th (a b c n:Int) (args:Sq Int) (kk kn:Int) (ks:ByteArray) (names:Sq ByteArray) (pf pl exit:Int) (once:Bool) (hn:n≤9223372036854775807):aO ⟨11,a,b,c,n,args,⟨kk,kn,ks⟩,names,⟨pf,pl⟩,exit,once⟩=aW ⟨11,a,b,c,n,args,⟨kk,kn,ks⟩,names,⟨pf,pl⟩,exit,once⟩:=by
 simp [aO,iW,yA,sH,aR,fG,aW,nH,nF,ln,lq,eL,ep,fM,fK,zeroV,dW,b8,dg,bJ,bM,bK,du,dw]
 try (rw [eh]; grind)
theorem Tp (a b c n:Int) (args:Sq Int) (kk kn:Int) (ks:ByteArray) (names:Sq ByteArray) (pf pl exit:Int) (once:Bool) (hn:n≤9223372036854775807):aO ⟨12,a,b,c,n,args,⟨kk,kn,ks⟩,names,⟨pf,pl⟩,exit,once⟩=aW ⟨12,a,b,c,n,args,⟨kk,kn,ks⟩,names,⟨pf,pl⟩,exit,once⟩:=by
 simp [aO,iW,yA,sH,aR,fG,aW,nH,nF,ln,lq,eL,ep,fM,fK,zeroV,dW,b8,dg,bJ,bM,bK,du,dw]
 try (rw [eh]; grind)
theorem SS (a b c n:Int) (args:Sq Int) (kk kn:Int) (ks:ByteArray) (names:Sq ByteArray) (pf pl exit:Int) (once:Bool) (hn:n≤9223372036854775807):aO ⟨13,a,b,c,n,args,⟨kk,kn,ks⟩,names,⟨pf,pl⟩,exit,once⟩=aW ⟨13,a,b,c,n,args,⟨kk,kn,ks⟩,names,⟨pf,pl⟩,exit,once⟩:=by
 simp [aO,iW,yA,sH,aR,fG,aW,nH,nF,ln,lq,eL,ep,fM,fK,zeroV,dW,b8,dg,bJ,bM,bK,du,dw]
 try (rw [eh]; grind)
theorem S2 (a b c n:Int) (args:Sq Int) (kk kn:Int) (ks:ByteArray) (names:Sq ByteArray) (pf pl exit:Int) (once:Bool) (hn:n≤9223372036854775807):aO ⟨14,a,b,c,n,args,⟨kk,kn,ks⟩,names,⟨pf,pl⟩,exit,once⟩=aW ⟨14,a,b,c,n,args,⟨kk,kn,ks⟩,names,⟨pf,pl⟩,exit,once⟩:=by
 simp [aO,iW,yA,sH,aR,fG,aW,nH,nF,ln,lq,eL,ep,fM,fK,zeroV,dW,b8,dg,bJ,bM,bK,du,dw]
 try (rw [eh]; grind)
theorem Ts (a b c n:Int) (args:Sq Int) (kk kn:Int) (ks:ByteArray) (names:Sq ByteArray) (pf pl exit:Int) (once:Bool) (hn:n≤9223372036854775807):aO ⟨15,a,b,c,n,args,⟨kk,kn,ks⟩,names,⟨pf,pl⟩,exit,once⟩=aW ⟨15,a,b,c,n,args,⟨kk,kn,ks⟩,names,⟨pf,pl⟩,exit,once⟩:=by
 simp [aO,iW,yA,sH,aR,fG,aW,nH,nF,ln,lq,eL,ep,fM,fK,zeroV,dW,b8,dg,bJ,bM,bK,du,dw]
 try (rw [eh]; grind)
theorem S5 (a b c n:Int) (args:Sq Int) (kk kn:Int) (ks:ByteArray) (names:Sq ByteArray) (pf pl exit:Int) (once:Bool) (hn:n≤9223372036854775807):aO ⟨16,a,b,c,n,args,⟨kk,kn,ks⟩,names,⟨pf,pl⟩,exit,once⟩=aW ⟨16,a,b,c,n,args,⟨kk,kn,ks⟩,names,⟨pf,pl⟩,exit,once⟩:=by
 cases h1:decide (n≥0)<;>simp only [decide_eq_true_eq,decide_eq_false_iff_not] at h1
 all_goals
  simp [aO,iW,yA,sH,aR,fG,aW,nH,nF,ln,lq,eL,ep,fM,fK,zeroV,dW,b8,dg,h1,bJ,bM,bK,du,dw]
 all_goals try (rw [eh]; grind)
theorem SX (a b c n:Int) (args:Sq Int) (kk kn:Int) (ks:ByteArray) (names:Sq ByteArray) (pf pl exit:Int) (once:Bool) (hn:n≤9223372036854775807):aO ⟨17,a,b,c,n,args,⟨kk,kn,ks⟩,names,⟨pf,pl⟩,exit,once⟩=aW ⟨17,a,b,c,n,args,⟨kk,kn,ks⟩,names,⟨pf,pl⟩,exit,once⟩:=by
 cases h1:decide (n≥0)<;>simp only [decide_eq_true_eq,decide_eq_false_iff_not] at h1
 all_goals
  simp [aO,iW,yA,sH,aR,fG,aW,nH,nF,ln,lq,eL,ep,fM,fK,zeroV,dW,b8,dg,h1,bJ,bM,bK,du,dw]
 all_goals try (rw [eh]; grind)
theorem Ti (a b c n:Int) (args:Sq Int) (kk kn:Int) (ks:ByteArray) (names:Sq ByteArray) (pf pl exit:Int) (once:Bool) (hn:n≤9223372036854775807):aO ⟨18,a,b,c,n,args,⟨kk,kn,ks⟩,names,⟨pf,pl⟩,exit,once⟩=aW ⟨18,a,b,c,n,args,⟨kk,kn,ks⟩,names,⟨pf,pl⟩,exit,once⟩:=by
 simp [aO,iW,yA,sH,aR,fG,aW,nH,nF,ln,lq,eL,ep,fM,fK,zeroV,dW,b8,dg,bJ,bM,bK,du,dw]
 try (rw [eh]; grind)
theorem Tq (a b c n:Int) (args:Sq Int) (kk kn:Int) (ks:ByteArray) (names:Sq ByteArray) (pf pl exit:Int) (once:Bool) (hn:n≤9223372036854775807):aO ⟨19,a,b,c,n,args,⟨kk,kn,ks⟩,names,⟨pf,pl⟩,exit,once⟩=aW ⟨19,a,b,c,n,args,⟨kk,kn,ks⟩,names,⟨pf,pl⟩,exit,once⟩:=by
 cases h1:decide (pf≥0)<;>simp only [decide_eq_true_eq,decide_eq_false_iff_not] at h1
 all_goals
  simp [aO,iW,yA,sH,aR,fG,aW,nH,nF,ln,lq,eL,ep,fM,fK,zeroV,dW,b8,dg,h1,bJ,bM,bK,du,dw]
 all_goals try (rw [eh]; grind)
theorem Tb (a b c n:Int) (args:Sq Int) (kk kn:Int) (ks:ByteArray) (names:Sq ByteArray) (pf pl exit:Int) (once:Bool) (hn:n≤9223372036854775807):aO ⟨20,a,b,c,n,args,⟨kk,kn,ks⟩,names,⟨pf,pl⟩,exit,once⟩=aW ⟨20,a,b,c,n,args,⟨kk,kn,ks⟩,names,⟨pf,pl⟩,exit,once⟩:=by
 simp [aO,iW,yA,sH,aR,fG,aW,nH,nF,ln,lq,eL,ep,fM,fK,zeroV,dW,b8,dg,bJ,bM,bK,du,dw]
 try (rw [eh]; grind)
theorem SR (a b c n:Int) (args:Sq Int) (kk kn:Int) (ks:ByteArray) (names:Sq ByteArray) (pf pl exit:Int) (once:Bool) (hn:n≤9223372036854775807):aO ⟨21,a,b,c,n,args,⟨kk,kn,ks⟩,names,⟨pf,pl⟩,exit,once⟩=aW ⟨21,a,b,c,n,args,⟨kk,kn,ks⟩,names,⟨pf,pl⟩,exit,once⟩:=by
 simp [aO,iW,yA,sH,aR,fG,aW,nH,nF,ln,lq,eL,ep,fM,fK,zeroV,dW,b8,dg,bJ,bM,bK,du,dw]
 try (rw [eh]; grind)
end Go.Proofs.YtghfgcfabbbbbaaDoor
