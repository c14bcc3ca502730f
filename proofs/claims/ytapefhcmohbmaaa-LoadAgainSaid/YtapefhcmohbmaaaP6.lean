/- Loops: what is to be shown. -/
import Derived.Test.YtapefhcmohbmaaaP5
set_option linter.unusedVariables false
set_option linter.unusedSimpArgs false
set_option maxRecDepth 1000000
namespace Go.Proofs.Ytapefhcmohbmaaa
open Go Go.V
noncomputable section
section
variable (t:af) (p q:Nat)
def VW (b c:Int):Bool:=(t.ins.get b.toNat).op==2&&((t.ins.get c.toNat).op==2&&((t.ins.get b.toNat).k.kind==3&&((t.ins.get c.toNat).k.kind==3&&(t.ins.get b.toNat).k.n != (t.ins.get c.toNat).k.n)))
def r9:Int:=bif (t.ins.get p).a==(t.ins.get q).a then (bif VW t (t.ins.get p).b (t.ins.get q).b then 0 else 1) else bif Un t (t.ins.get p).a (t.ins.get q).a p then 0 else 1
def r7:Int:=bif (t.ins.get p).a==(t.ins.get q).a&&(fD (t.ins.get p).op||(t.ins.get p).b==(t.ins.get q).b) then 2 else r9 t p q
def cp:Int:=bif (!jS (t.ins.get p).op||(!jS (t.ins.get q).op || !(fD (t.ins.get p).op==fD (t.ins.get q).op)))||(fD (t.ins.get p).op&&(t.ins.get p).n != (t.ins.get q).n) then 0 else r7 t p q
def s5:Int:=bif az0 (t.ins.get p).op then (bif (t.ins.get p).n != (t.ins.get q).n then 0 else bif (t.ins.get p).a==(t.ins.get q).a then 2 else bif apR t (t.ins.get p).a (t.ins.get q).a p then 0 else 1) else bif (t.ins.get p).a==(t.ins.get q).a then (bif (t.ins.get p).b==(t.ins.get q).b then 2 else bif VW t (t.ins.get p).b (t.ins.get q).b then 0 else 1) else bif apR t (t.ins.get p).a (t.ins.get q).a p then 0 else 1
def ao9:wA:=[
 (43,λds rs=>(bool (Un (ff ds 0) (aI ds 1) (aI ds 2) (aI ds 3).toNat),[],[])),
 (21,λds rs=>(int (cp (ff ds 0) (min (aI ds 1).toNat (aI ds 2).toNat) (max (aI ds 1).toNat (aI ds 2).toNat)),[],[]))]
end
def yg:=ext F11 ao9
structure oC (t:af):Prop where
 a:∀ k,k<t.ins.n->jS (t.ins.get k).op=true->dm (t.ins.get k).a t.ins.n=true
 b:∀ k,k<t.ins.n->jS (t.ins.get k).op=true->fD (t.ins.get k).op=false->dm (t.ins.get k).b t.ins.n=true
def Dd:gr:={ F:=yg }
def EG:Nat->Bool:=λi=>Nat.beq i 2||Nat.beq i 7||Nat.beq i 9
theorem au3:Fn 21:={}
section
variable (L aj:LP) (QD:D->Prop) (aA:Nat) (t aB:af) (i aT j p q:Nat)
theorem ar9 (h:L (ah 21 2) ⟨[(1,((int (if (↑j:Int)<(↑i:Int) then (↑j:Int) else (↑i:Int))),[])),(2,((int (if (↑j:Int)>(↑i:Int) then (↑j:Int) else (↑i:Int))),[])),(3,((.c (.rt 0 0 0)),[]))],[(bE t)],[]⟩):fG Dd 21 EG L (cy QD) [bH t,int i,int j] []:=km h
def Na (i j:Nat) (p q:Nat):VS:=⟨[(1,int p,[]),(2,int q,[]),(3,(.c (.rt 0 0 0)),[])],[(bE t)],[]⟩
abbrev Ns:Prop:=aj (ah 21 7) ⟨[(js aA),(3,((.c (.rt 0 0 0)),[])),(7,((.c (.rt 1 0 0)),[])),(8,((.c (.rt 2 0 0)),[])),(28,((bool false),[]))],[(bE aB),(na aB aA),(na aB aT),.dead,.dead,.dead,.dead],[]⟩
theorem Yi (h:nd (dm (↑p:Int) t.2.1) (nd (dm (↑q:Int) t.2.1) (nd (dm (↑p:Int) t.2.1) (nd (dm (↑q:Int) t.2.1) ((LC 41 (mV t p) [] (bool (jS (t.ins.2 p).1)) []/\br (!jS (t.ins.2 p).1) (QD (int 0)) ((LC 41 (mV t q) [] (bool (jS (t.ins.2 q).1)) []/\br (!jS (t.ins.2 q).1) (QD (int 0)) ((LC 42 (mV t p) [] (bool (fD (t.ins.2 p).1)) []/\(LC 42 (mV t q) [] (bool (fD (t.ins.2 q).1)) []/\br (!fD (t.ins.2 p).1==fD (t.ins.2 q).1) (QD (int 0)) ((LC 42 (mV t p) [] (bool (fD (t.ins.2 p).1)) []/\br (fD (t.ins.2 p).1) (br ((t.ins.2 p).5 != (t.ins.2 q).5) (QD (int 0)) (Ns L p t q)) (Ns L p t q)))))))))))))):cW Dd 21 EG L (cy QD) 2 (Na t i j p q):=km h
abbrev P5 (aj:Nat) (aA:af) (aB:Nat):VS:=⟨[(nP aj),(3,(.c (.rt 0 0 0)),[]),(7,(.c (.rt 1 0 0)),[]),(8,(.c (.rt 2 0 0)),[])],[(bE aA),(na aA aj),(na aA aB)],[]⟩
def vM (i j:Nat) (p q:Nat):VS:=(P5 p t q)
abbrev Nu:Prop:=aj (ah 21 9) ⟨[(js aA),(3,((.c (.rt 0 0 0)),[])),(7,((.c (.rt 1 0 0)),[])),(8,((.c (.rt 2 0 0)),[])),(60,((bool false),[]))],[(bE aB),(na aB aA),(na aB aT)],[]⟩
theorem VO (h:br ((t.ins.2 p).2==(t.ins.2 q).2) ((LC 42 (mV t p) [] (bool (fD (t.ins.2 p).1)) []/\br (fD (t.ins.2 p).1) (QD (int 2)) (br ((t.ins.2 p).3==(t.ins.2 q).3) (QD (int 2)) (Nu L p t q)))) (Nu L p t q)):cW Dd 21 EG L (cy QD) 7 (vM t i j p q):=km h
def BM (i j:Nat) (p q:Nat):VS:=(P5 p t q)
theorem Yc (h:br ((t.ins.2 p).2==(t.ins.2 q).2) (nd (dm (t.ins.2 p).3 t.2.1) (nd (dm (t.ins.2 q).3 t.2.1) (nd (dm (t.ins.2 p).3 t.2.1) (nd (dm (t.ins.2 q).3 t.2.1) (br ((t.ins.2 (t.ins.2 p).3.toNat).1==2) (br ((t.ins.2 (t.ins.2 q).3.toNat).1==2) (br ((t.ins.2 (t.ins.2 p).3.toNat).7.1==3) (br ((t.ins.2 (t.ins.2 q).3.toNat).7.1==3) (br ((t.ins.2 (t.ins.2 p).3.toNat).7.2 != (t.ins.2 (t.ins.2 q).3.toNat).7.2) (QD (int 0)) (QD (int 1))) (QD (int 1))) (QD (int 1))) (QD (int 1))) (QD (int 1))))))) ((LC 43 [(iv t),(int ((t.ins.2 p).2)),(int ((t.ins.2 q).2)),(int (↑p:Int))] [] (bool (Un t (t.ins.2 p).2 (t.ins.2 q).2 p)) []/\br (Un t (t.ins.2 p).2 (t.ins.2 q).2 p) (QD (int 0)) (QD (int 1))))):cW Dd 21 EG L (cy QD) 9 (BM t i j p q):=km h
end
section
variable (t:af) (i j p q:Nat)
theorem OQ (hp:p<t.ins.n) (hq:q<t.ins.n) (hS:bk t) (ha:dm (t.ins.get p).a t.ins.n=true) (hb:dm (t.ins.get q).a t.ins.n=true) (hc:((t.ins.get p).a==(t.ins.get q).a)=true->dm (t.ins.get p).b t.ins.n=true/\dm (t.ins.get q).b t.ins.n=true):ag 21 0 (cw (int (r9 t p q))) (ah 21 9) (BM t i j p q):=by
 refine bt (X:=Dd) (stop:=EG) (Yc _ _ t i j p q ?_)
 refine aq (λh=>?_) (λh=>⟨V2 t _ _ p ha hb (by omega) hS,?_⟩)
 .grind [ay,aq,r9,VW,bf.refl]
 grind [aq,r9,bf.refl]
theorem Xx (hp:p<t.ins.n) (hq:q<t.ins.n) (hS:bk t) (hm:oC t) (h1:jS (t.ins.get p).op=true) (h2:jS (t.ins.get q).op=true) (h3:fD (t.ins.get p).op=fD (t.ins.get q).op):ag 21 0 (cw (int (r7 t p q))) (ah 21 7) (vM t i j p q):=by
 have ha:=hm.a p hp h1
 have hb:=hm.a q hq h2
 refine bt (X:=Dd) (stop:=EG) (VO _ _ t i j p q ?_)
 refine aq (λh=>⟨AQ _,aq (λh4=>?_) (λh4=>aq (λh5=>?_) (λh5=>?_))⟩) (λh=>?_)
 .grind [r7,bf.refl]
 .grind [r7,bf.refl]
 .have h4:fD (t.ins.get p).op=false:=h4
  rw [show r7 t p q=r9 t p q from by grind [r7]]
  exact ag.rename [0,1,2] rfl (ag.lr (BM t i j p q) (OQ t i j p q hp hq hS ha hb (λ_=>⟨hm.b p hp h1 h4,hm.b q hq h2 (h3▸h4)⟩)))
 .rw [show r7 t p q=r9 t p q from by grind [r7]]
  exact ag.rename [0,1,2] rfl (ag.lr (BM t i j p q) (OQ t i j p q hp hq hS ha hb (λe=>by grind)))
theorem Xa (hp:p<t.ins.n) (hq:q<t.ins.n) (hS:bk t) (hm:oC t):ag 21 0 (cw (int (cp t p q))) (ah 21 2) (Na t i j p q):=by
 refine bt (X:=Dd) (stop:=EG) (Yi _ _ t i j p q ?_)
 have np:=aP hp
 have nq:=aP hq
 refine ay np (ay nq (ay np (ay nq ⟨Nc _,?_⟩)))
 refine aq (λh1=>?_) (λh1=>⟨Nc _,aq (λh2=>?_) (λh2=>⟨AQ _,AQ _,aq (λh3=>?_) (λh3=>⟨AQ _,?_⟩)⟩)⟩)
 .grind [cp,bf.refl]
 .grind [cp,bf.refl]
 .grind [cp,bf.refl]
 .have nA:(!jS (t.ins.get p).op)=false:=h1
  have ic:(!jS (t.ins.get q).op)=false:=h2
  have ld:(!(fD (t.ins.get p).op==fD (t.ins.get q).op))=false:=h3
  have e1:jS (t.ins.get p).op=true:=by simpa using nA
  have e2:jS (t.ins.get q).op=true:=by simpa using ic
  have e3:fD (t.ins.get p).op=fD (t.ins.get q).op:=by simpa using ld
  have fin:cp t p q=r7 t p q->∀ s,s=vM t i j p q->ag 21 0 (cw (int (cp t p q))) (ah 21 7) s:=λe s q'=>by rw [e,q']; exact Xx t i j p q hp hq hS hm e1 e2 e3
  refine aq (λh4=>aq (λh5=>?_) (λh5=>?_)) (λh4=>?_)
  .grind [cp,bf.refl]
  .exact ag.rename [0,1,2] rfl (ag.lr (vM t i j p q) (fin (by grind [cp]) _ rfl))
  .exact ag.rename [0,1,2] rfl (ag.lr (vM t i j p q) (fin (by grind [cp]) _ rfl))
theorem U2 (hi:i<t.ins.n) (hj:j<t.ins.n) (hS:bk t) (hm:oC t):LC 21 [bH t,int i,int j] [] (int (cp t (min i j) (max i j))) []:=by
 refine pv (X:=Dd) (stop:=EG) au3 (ar9 _ _ t i j ?_)
 rw [show (if (j:Int)<(i:Int) then (j:Int) else (i:Int))=((min i j:Nat):Int) from by split<;>omega,show (if (j:Int)>(i:Int) then (j:Int) else (i:Int))=((max i j:Nat):Int) from by split<;>omega]
 exact Xa t i j _ _ (by omega) (by omega) hS hm
end
open Go Go.V
theorem zg {n:Int}:∀ {l:List Int},ez n l=true↔n∈l
 | []=>by simp [ez]
 | x::l=>by
   unfold ez
   split
   .grind
   .rename_i h
    simp only [beq_eq_false_iff_ne] at h
    rw [zg]
    simp [h]
theorem zB {n m:Int} {l:List Int}:ez n (rP m l)=(ez n l||(n==m)):=by
 grind [zg,rP]
theorem xS {x:Sq dh} {v:Int}:∀ {j:Nat},ez v (kY x j)=true↔∃ i,i<j/\(x.get i).value=v
 | 0=>by simp [kY,ez]
 | j+1=>by
   rw [show kY x (j+1)=rP (x.get j).value (kY x j) from rfl,zB,Bool.or_eq_true,xS,beq_iff_eq]
   grind
theorem N2 {x:Sq dh} {v:Int}:decide (KG x v<0) = !ez v (kY x x.n):=by
 grind [xS,KG,o0]
theorem HD {x:Sq dh} {j:Nat} (hj:j<x.n):(KG x (x.get j).value != (j:Int))=ez (x.get j).value (kY x j):=by
 grind [xS,KG,o0]
theorem Gh {p q:Nat->Bool} {n:Nat} (h:∀ i,i<n->p i=q i):dB p n=dB q n:=uf λi _ hi=>h i (by omega)
theorem PC {p:Int->Bool} (x y:Sq Int):dB (λi=>p ((dV x y).get i)) (dV x y).n=(dB (λi=>p (x.get i)) x.n&&dB (λi=>p (y.get i)) y.n):=by
 have g:∀ i,(dV x y).get i=if i<x.n then x.get i else y.get (i-x.n):=λi=>by
  show (Bool.rec (y.get (i-x.n)) (x.get i) (Nat.blt i x.n):Int)=_
  cases hb:Nat.blt i x.n with
  | true=>simp_all
  | false=>rw [if_neg (λq=>by rw [da q] at hb; cases hb)]
 rw [Es,di,e7,e7,e7]
 constructor
 .intro h
  refine ⟨λi hi=>?_,λi hi=>?_⟩
  .have:=h i (by show i<x.n+y.n; omega)
   simpa [g,hi] using this
  .have:=h (x.n+i) (by show x.n+i<x.n+y.n; omega)
   grind
 .rintro ⟨h1,h2⟩ i hi
  have hi:i<x.n+y.n:=hi
  grind
theorem sg {p:Int->Bool} {g:Nat->Sq Int}:∀ {m k:Nat} {l:Sq Int},dB (λi=>p ((BK g m k l).get i)) (BK g m k l).n=(dB (λi=>p (l.get i)) l.n&&cO (λj=>dB (λi=>p ((g j).get i)) (g j).n) m k)
 | 0,k,l=>by simp [BK,cO]
 | m+1,k,l=>by
   rw [show BK g (m+1) k l=BK g m (k+1) (dV l (g k)) from rfl,sg,PC]
   grind [cO]
theorem VA (t:af) (e:ai) (k:Int):Db t e k=ku t e k:=by
 have e1:dB (obR t e k) e.aC.n=dB (J7 t e k) e.aC.n:=Gh λj hj=>by
  grind [obR,J7,HD,eJ,sC]
 have e2:Vn t e k=jD t k (kY e.aC e.aC.n):=funext λv=>by
  grind [Vn,jD,N2]
 unfold Db ku x12 x21 allM
 rw [sg (p:=Vn t e k),sg (p:=Vn t e k),e1,e2]
 show _=(_&&(_&&(_&&(dB (λj=>dB (λi=>jD t k (kY e.aC e.aC.n) ((e.frames.get j).vars.get i)) (e.frames.get j).vars.n) e.frames.n&&dB (λj=>dB (λi=>jD t k (kY e.aC e.aC.n) ((e.aC.get j).items.get i)) (e.aC.get j).items.n) e.aC.n))))
 have e3:dB (λi=>jD t k (kY e.aC e.aC.n) ((aK 0:Sq Int).get i)) (aK 0:Sq Int).n=true:=rfl
 grind [dB]
open Go Go.V
theorem bR {α:Type} {e:α->α->Bool} {x:Sq α} {g:Nat->α}:eJ e x ⟨0,g⟩=(x.n==0):=by
 unfold eJ
 cases h:x.n==0 with
 | true=>
   have:x.n=0:=by simpa using h
   rw [this]; rfl
 | false=>rfl
theorem bS (x:Sq Int):eJ (λa b=>a==b) x x=true:=by
 unfold eJ
 simp [e7]
theorem bN (x:Sq ByteArray):eJ sC x x=true:=by
 unfold eJ
 simp [e7,sC]
theorem dt (s:ByteArray):(s==s)=true:=by
 show ByteArray.beq s s=true
 simp [ByteArray.beq]
theorem dv (b:Bool):(bif b then true else false)=b:=by cases b<;>rfl
section
variable (a b c n:Int) (args:Sq Int) (kk kn:Int) (ks:ByteArray) (names:Sq ByteArray) (pf pl exit:Int) (once:Bool)
theorem Zv (hn:n<=9223372036854775807):aY ⟨0,a,b,c,n,args,⟨kk,kn,ks⟩,names,⟨pf,pl⟩,exit,once⟩=a8 ⟨0,a,b,c,n,args,⟨kk,kn,ks⟩,names,⟨pf,pl⟩,exit,once⟩:=by
 simp [aY,jz,yA,uG,aV,fV,a8,oQ,nB,mn,mm,eP,eQ,fP,gH,zeroV,eL,cm,dp,bR,bS,bN,dv,dt]
 grind
theorem YQ (hn:n<=9223372036854775807):aY ⟨1,a,b,c,n,args,⟨kk,kn,ks⟩,names,⟨pf,pl⟩,exit,once⟩=a8 ⟨1,a,b,c,n,args,⟨kk,kn,ks⟩,names,⟨pf,pl⟩,exit,once⟩:=by
 cases hk:(kk==3)<;>cases h1:decide (kn≥0)<;>cases h2:decide (kn<=23)<;>simp only [beq_iff_eq,beq_eq_false_iff_ne,decide_eq_true_eq,decide_eq_false_iff_not] at hk h1 h2
 all_goals
  simp [aY,jz,yA,uG,aV,fV,a8,oQ,nB,mn,mm,eP,eQ,fP,gH,zeroV,eL,cm,dp,hk,h1,h2,bR,bS,bN,dv,dt]
 all_goals grind
theorem ab5 (hn:n<=9223372036854775807):aY ⟨2,a,b,c,n,args,⟨kk,kn,ks⟩,names,⟨pf,pl⟩,exit,once⟩=a8 ⟨2,a,b,c,n,args,⟨kk,kn,ks⟩,names,⟨pf,pl⟩,exit,once⟩:=by
 simp [aY,jz,yA,uG,aV,fV,a8,oQ,nB,mn,mm,eP,eQ,fP,gH,zeroV,eL,cm,dp,bR,bS,bN,dv,dt]
 grind
theorem YU (hn:n<=9223372036854775807):aY ⟨3,a,b,c,n,args,⟨kk,kn,ks⟩,names,⟨pf,pl⟩,exit,once⟩=a8 ⟨3,a,b,c,n,args,⟨kk,kn,ks⟩,names,⟨pf,pl⟩,exit,once⟩:=by
 cases h1:(n==3)
 all_goals
  simp only [aY,jz,uG,h1,show ((3:Int)==3)=true from rfl,cond_true,cond_false]
  simp only [beq_iff_eq,beq_eq_false_iff_ne] at h1
  simp [aY,jz,yA,uG,aV,fV,a8,oQ,nB,mn,mm,eP,eQ,fP,gH,zeroV,eL,cm,dp,h1,bR,bS,bN,dv,dt]
 all_goals grind
theorem aa0 (hn:n<=9223372036854775807):aY ⟨4,a,b,c,n,args,⟨kk,kn,ks⟩,names,⟨pf,pl⟩,exit,once⟩=a8 ⟨4,a,b,c,n,args,⟨kk,kn,ks⟩,names,⟨pf,pl⟩,exit,once⟩:=by
 simp [aY,jz,yA,uG,aV,fV,a8,oQ,nB,mn,mm,eP,eQ,fP,gH,zeroV,eL,cm,dp,bR,bS,bN,dv,dt]
 grind
theorem ai6 (hn:n<=9223372036854775807):aY ⟨5,a,b,c,n,args,⟨kk,kn,ks⟩,names,⟨pf,pl⟩,exit,once⟩=a8 ⟨5,a,b,c,n,args,⟨kk,kn,ks⟩,names,⟨pf,pl⟩,exit,once⟩:=by
 simp [aY,jz,yA,uG,aV,fV,a8,oQ,nB,mn,mm,eP,eQ,fP,gH,zeroV,eL,cm,dp,bR,bS,bN,dv,dt]
 grind
theorem YP (hn:n<=9223372036854775807):aY ⟨6,a,b,c,n,args,⟨kk,kn,ks⟩,names,⟨pf,pl⟩,exit,once⟩=a8 ⟨6,a,b,c,n,args,⟨kk,kn,ks⟩,names,⟨pf,pl⟩,exit,once⟩:=by
 simp [aY,jz,yA,uG,aV,fV,a8,oQ,nB,mn,mm,eP,eQ,fP,gH,zeroV,eL,cm,dp,bR,bS,bN,dv,dt]
 grind
theorem Y5 (hn:n<=9223372036854775807):aY ⟨7,a,b,c,n,args,⟨kk,kn,ks⟩,names,⟨pf,pl⟩,exit,once⟩=a8 ⟨7,a,b,c,n,args,⟨kk,kn,ks⟩,names,⟨pf,pl⟩,exit,once⟩:=by
 cases h1:decide (n≥0)<;>simp only [decide_eq_true_eq,decide_eq_false_iff_not] at h1
 all_goals
  simp [aY,jz,yA,uG,aV,fV,a8,oQ,nB,mn,mm,eP,eQ,fP,gH,zeroV,eL,cm,dp,h1,bR,bS,bN,dv,dt]
 grind
theorem Zj (hn:n<=9223372036854775807):aY ⟨8,a,b,c,n,args,⟨kk,kn,ks⟩,names,⟨pf,pl⟩,exit,once⟩=a8 ⟨8,a,b,c,n,args,⟨kk,kn,ks⟩,names,⟨pf,pl⟩,exit,once⟩:=by
 simp [aY,jz,yA,uG,aV,fV,a8,oQ,nB,mn,mm,eP,eQ,fP,gH,zeroV,eL,cm,dp,bR,bS,bN,dv,dt]
 grind
theorem Zz (hn:n<=9223372036854775807):aY ⟨9,a,b,c,n,args,⟨kk,kn,ks⟩,names,⟨pf,pl⟩,exit,once⟩=a8 ⟨9,a,b,c,n,args,⟨kk,kn,ks⟩,names,⟨pf,pl⟩,exit,once⟩:=by
 simp [aY,jz,yA,uG,aV,fV,a8,oQ,nB,mn,mm,eP,eQ,fP,gH,zeroV,eL,cm,dp,bR,bS,bN,dv,dt]
 grind
theorem XM (hn:n<=9223372036854775807):aY ⟨10,a,b,c,n,args,⟨kk,kn,ks⟩,names,⟨pf,pl⟩,exit,once⟩=a8 ⟨10,a,b,c,n,args,⟨kk,kn,ks⟩,names,⟨pf,pl⟩,exit,once⟩:=by
 simp [aY,jz,yA,uG,aV,fV,a8,oQ,nB,mn,mm,eP,eQ,fP,gH,zeroV,eL,cm,dp,bR,bS,bN,dv,dt]
 grind
theorem Wu (hn:n<=9223372036854775807):aY ⟨11,a,b,c,n,args,⟨kk,kn,ks⟩,names,⟨pf,pl⟩,exit,once⟩=a8 ⟨11,a,b,c,n,args,⟨kk,kn,ks⟩,names,⟨pf,pl⟩,exit,once⟩:=by
 simp [aY,jz,yA,uG,aV,fV,a8,oQ,nB,mn,mm,eP,eQ,fP,gH,zeroV,eL,cm,dp,bR,bS,bN,dv,dt]
 grind
theorem VT (hn:n<=9223372036854775807):aY ⟨12,a,b,c,n,args,⟨kk,kn,ks⟩,names,⟨pf,pl⟩,exit,once⟩=a8 ⟨12,a,b,c,n,args,⟨kk,kn,ks⟩,names,⟨pf,pl⟩,exit,once⟩:=by
 simp [aY,jz,yA,uG,aV,fV,a8,oQ,nB,mn,mm,eP,eQ,fP,gH,zeroV,eL,cm,dp,bR,bS,bN,dv,dt]
 grind
theorem Yn (hn:n<=9223372036854775807):aY ⟨13,a,b,c,n,args,⟨kk,kn,ks⟩,names,⟨pf,pl⟩,exit,once⟩=a8 ⟨13,a,b,c,n,args,⟨kk,kn,ks⟩,names,⟨pf,pl⟩,exit,once⟩:=by
 simp [aY,jz,yA,uG,aV,fV,a8,oQ,nB,mn,mm,eP,eQ,fP,gH,zeroV,eL,cm,dp,bR,bS,bN,dv,dt]
 grind
theorem W5 (hn:n<=9223372036854775807):aY ⟨14,a,b,c,n,args,⟨kk,kn,ks⟩,names,⟨pf,pl⟩,exit,once⟩=a8 ⟨14,a,b,c,n,args,⟨kk,kn,ks⟩,names,⟨pf,pl⟩,exit,once⟩:=by
 simp [aY,jz,yA,uG,aV,fV,a8,oQ,nB,mn,mm,eP,eQ,fP,gH,zeroV,eL,cm,dp,bR,bS,bN,dv,dt]
 grind
theorem Vq (hn:n<=9223372036854775807):aY ⟨15,a,b,c,n,args,⟨kk,kn,ks⟩,names,⟨pf,pl⟩,exit,once⟩=a8 ⟨15,a,b,c,n,args,⟨kk,kn,ks⟩,names,⟨pf,pl⟩,exit,once⟩:=by
 simp [aY,jz,yA,uG,aV,fV,a8,oQ,nB,mn,mm,eP,eQ,fP,gH,zeroV,eL,cm,dp,bR,bS,bN,dv,dt]
 grind
theorem Yg (hn:n<=9223372036854775807):aY ⟨16,a,b,c,n,args,⟨kk,kn,ks⟩,names,⟨pf,pl⟩,exit,once⟩=a8 ⟨16,a,b,c,n,args,⟨kk,kn,ks⟩,names,⟨pf,pl⟩,exit,once⟩:=by
 cases h1:decide (n≥0)<;>simp only [decide_eq_true_eq,decide_eq_false_iff_not] at h1
 all_goals
  simp [aY,jz,yA,uG,aV,fV,a8,oQ,nB,mn,mm,eP,eQ,fP,gH,zeroV,eL,cm,dp,h1,bR,bS,bN,dv,dt]
 grind
theorem WT (hn:n<=9223372036854775807):aY ⟨17,a,b,c,n,args,⟨kk,kn,ks⟩,names,⟨pf,pl⟩,exit,once⟩=a8 ⟨17,a,b,c,n,args,⟨kk,kn,ks⟩,names,⟨pf,pl⟩,exit,once⟩:=by
 cases h1:decide (n≥0)<;>simp only [decide_eq_true_eq,decide_eq_false_iff_not] at h1
 all_goals
  simp [aY,jz,yA,uG,aV,fV,a8,oQ,nB,mn,mm,eP,eQ,fP,gH,zeroV,eL,cm,dp,h1,bR,bS,bN,dv,dt]
 grind
theorem Xs (hn:n<=9223372036854775807):aY ⟨18,a,b,c,n,args,⟨kk,kn,ks⟩,names,⟨pf,pl⟩,exit,once⟩=a8 ⟨18,a,b,c,n,args,⟨kk,kn,ks⟩,names,⟨pf,pl⟩,exit,once⟩:=by
 simp [aY,jz,yA,uG,aV,fV,a8,oQ,nB,mn,mm,eP,eQ,fP,gH,zeroV,eL,cm,dp,bR,bS,bN,dv,dt]
 grind
theorem WX (hn:n<=9223372036854775807):aY ⟨19,a,b,c,n,args,⟨kk,kn,ks⟩,names,⟨pf,pl⟩,exit,once⟩=a8 ⟨19,a,b,c,n,args,⟨kk,kn,ks⟩,names,⟨pf,pl⟩,exit,once⟩:=by
 cases h1:decide (pf≥0)<;>simp only [decide_eq_true_eq,decide_eq_false_iff_not] at h1
 all_goals
  simp [aY,jz,yA,uG,aV,fV,a8,oQ,nB,mn,mm,eP,eQ,fP,gH,zeroV,eL,cm,dp,h1,bR,bS,bN,dv,dt]
 grind
theorem We (hn:n<=9223372036854775807):aY ⟨20,a,b,c,n,args,⟨kk,kn,ks⟩,names,⟨pf,pl⟩,exit,once⟩=a8 ⟨20,a,b,c,n,args,⟨kk,kn,ks⟩,names,⟨pf,pl⟩,exit,once⟩:=by
 simp [aY,jz,yA,uG,aV,fV,a8,oQ,nB,mn,mm,eP,eQ,fP,gH,zeroV,eL,cm,dp,bR,bS,bN,dv,dt]
 grind
theorem Xk (hn:n<=9223372036854775807):aY ⟨21,a,b,c,n,args,⟨kk,kn,ks⟩,names,⟨pf,pl⟩,exit,once⟩=a8 ⟨21,a,b,c,n,args,⟨kk,kn,ks⟩,names,⟨pf,pl⟩,exit,once⟩:=by
 simp [aY,jz,yA,uG,aV,fV,a8,oQ,nB,mn,mm,eP,eQ,fP,gH,zeroV,eL,cm,dp,bR,bS,bN,dv,dt]
 grind
end
open Go Go.V
theorem jo (x:ak) (hn:x.n<=9223372036854775807):aY x=a8 x:=by
 obtain ⟨op,a,b,c,n,args,⟨kk,kn,ks⟩,names,⟨pf,pl⟩,exit,once⟩:=x
 by_cases h:0<=op/\op<=21
 .have:op=0∨op=1∨op=2∨op=3∨op=4∨op=5∨op=6∨op=7∨op=8∨op=9∨op=10∨op=11∨op=12∨op=13∨op=14∨op=15∨op=16∨op=17∨op=18∨op=19∨op=20∨op=21:=by omega
  rcases this with rfl|rfl|rfl|rfl|rfl|rfl|rfl|rfl|rfl|rfl|rfl|rfl|rfl|rfl|rfl|rfl|rfl|rfl|rfl|rfl|rfl|rfl
  .exact Zv a b c n args kk kn ks names pf pl exit once hn
  .exact YQ a b c n args kk kn ks names pf pl exit once hn
  .exact ab5 a b c n args kk kn ks names pf pl exit once hn
  .exact YU a b c n args kk kn ks names pf pl exit once hn
  .exact aa0 a b c n args kk kn ks names pf pl exit once hn
  .exact ai6 a b c n args kk kn ks names pf pl exit once hn
  .exact YP a b c n args kk kn ks names pf pl exit once hn
  .exact Y5 a b c n args kk kn ks names pf pl exit once hn
  .exact Zj a b c n args kk kn ks names pf pl exit once hn
  .exact Zz a b c n args kk kn ks names pf pl exit once hn
  .exact XM a b c n args kk kn ks names pf pl exit once hn
  .exact Wu a b c n args kk kn ks names pf pl exit once hn
  .exact VT a b c n args kk kn ks names pf pl exit once hn
  .exact Yn a b c n args kk kn ks names pf pl exit once hn
  .exact W5 a b c n args kk kn ks names pf pl exit once hn
  .exact Vq a b c n args kk kn ks names pf pl exit once hn
  .exact Yg a b c n args kk kn ks names pf pl exit once hn
  .exact WT a b c n args kk kn ks names pf pl exit once hn
  all_goals grind [Xs,WX,We,Xk]
 grind [gH,aY,jz,a8,oQ]
section
variable (op:Int) {t:af}
theorem XQ:(eX op==0) = !En op:=by
 by_cases h:0<=op/\op<=21
 .have:op=0∨op=1∨op=2∨op=3∨op=4∨op=5∨op=6∨op=7∨op=8∨op=9∨op=10∨op=11∨op=12∨op=13∨op=14∨op=15∨op=16∨op=17∨op=18∨op=19∨op=20∨op=21:=by omega
  rcases this with rfl|rfl|rfl|rfl|rfl|rfl|rfl|rfl|rfl|rfl|rfl|rfl|rfl|rfl|rfl|rfl|rfl|rfl|rfl|rfl|rfl|rfl<;>rfl
 .have e:∀ c:Int,0<=c->c<=21->(op==c)=false:=λc h1 h2=>by
   grind
  simp [eX,En,eV,e]
theorem SN:(eX op==2)=eV op [5,6,7,8,9,15,18,21]:=by
 by_cases h:0<=op/\op<=21
 .have:op=0∨op=1∨op=2∨op=3∨op=4∨op=5∨op=6∨op=7∨op=8∨op=9∨op=10∨op=11∨op=12∨op=13∨op=14∨op=15∨op=16∨op=17∨op=18∨op=19∨op=20∨op=21:=by omega
  rcases this with rfl|rfl|rfl|rfl|rfl|rfl|rfl|rfl|rfl|rfl|rfl|rfl|rfl|rfl|rfl|rfl|rfl|rfl|rfl|rfl|rfl|rfl<;>rfl
 .have e:∀ c:Int,0<=c->c<=21->(op==c)=false:=λc h1 h2=>by
   grind
  simp [eX,eV,e]
theorem Wd:m80 op=eV op [2,3,4,5,6,7,8,9,10,12,14]:=by
 simp [m80,eV]
theorem Wl (t:af) (k:Nat) (hn:(t.ins.get k).n<=9223372036854775807):(a6 t k&&(a12 t k&&(LI t k&&a20 t k)))=(b3 t k&&(b7 t k&&(b9 t k&&(QT t k&&LI t k)))):=by
 grind [a6,a12,a20,b3,b7,b9,QT,jo,XQ,SN,Wd]
theorem WH (t:af) (l:List Int) (k:Nat) (hn:(t.ins.get k).n<=9223372036854775807) (hl:∀ i:Nat,ez (i:Int) l=k8 t k i):(o3 t l k).1=qj t k/\((o3 t l k).1=true->∀ i:Nat,ez (i:Int) (o3 t l k).2=k8 t (k+1) i):=by
 have e1:qj t k=((a6 t k&&(a12 t k&&(LI t k&&a20 t k)))&&a22 t k):=by
  grind [qj]
 have e2:o3 t l k=bif (b3 t k&&(b7 t k&&(b9 t k&&(QT t k&&LI t k)))) then Ng t l k else (false,l):=by
  unfold o3 o7 o9 OZ o13
  grind
 rw [e1,e2,Wl t k hn]
 cases hp:(b3 t k&&(b7 t k&&(b9 t k&&(QT t k&&LI t k)))) with
 | false=>grind
 | true=>
   simp only [cond_true,Bool.true_and]
   unfold Ng a22
   cases h0:decide ((t.ins.get k).exit<0) with
   | true=>
     grind [uv]
   | false=>
     have h1:=of_decide_eq_false h0
     have h2:decide ((t.ins.get k).exit≥0)=true:=decide_eq_true (by omega)
     rw [h2]
     obtain ⟨m,hm⟩:=Int.eq_ofNat_of_zero_le (show 0<=(t.ins.get k).exit by omega)
     simp only [cond_false,Bool.not_true,Bool.false_or]
     rw [hm,hl,Int.toNat_natCast]
     grind [VA,zB,uv]
theorem H7 (t:af) (hn:∀ k,k<t.ins.n->(t.ins.get k).n<=9223372036854775807):∀ (m k:Nat) (l:List Int),k+m<=t.ins.n->(∀ i:Nat,ez (i:Int) l=k8 t k i)->Bg t m k l=cO (qj t) m k
 | 0,k,l,_,_=>rfl
 | m+1,k,l,hk,hl=>by
   obtain ⟨h1,h2⟩:=WH t l k (hn k (by omega)) hl
   show (bif (o3 t l k).1 then Bg t m (k+1) (o3 t l k).2 else false)=(bif qj t k then cO (qj t) m (k+1) else false)
   rw [<- h1]
   cases h:(o3 t l k).1 with
   | false=>rfl
   | true=>exact H7 t hn m (k+1) _ (by omega) (h2 h)
theorem qZ (t:af) (hn:∀ k,k<t.ins.n->(t.ins.get k).n<=9223372036854775807):bM t=ot t:=by
 grind [bM,ot,ID,H7,ez,k8,dB,cO]
theorem Lr {k:Nat} (h:qj t k=true):∀ j,j<(aV (t.ins.get k)).n->eW t ((aV (t.ins.get k)).get j) k=true:=by
 grind [qj,LI,e7,u16]
theorem XY (h:∀ k,k<t.ins.n->qj t k=true):oC t:=by
 have key:∀ k,k<t.ins.n->∀ j,j<(aV (t.ins.get k)).n->dm ((aV (t.ins.get k)).get j) t.ins.n=true:=λk hk j hj=>
  vn (Lr (h k hk) j hj) (by omega)
 have ops:∀ op:Int,jS op=true->op=10∨op=12∨op=11∨op=13:=λop ho=>by
  simp [jS,iK,dE] at ho
  omega
 refine ⟨λk hk ho=>?_,λk hk ho hb=>?_⟩
 .have:=key k hk 0
  rcases ops _ ho with e|e|e|e<;>· simp [aV,fV,e] at this; exact this
 .have:=key k hk 1
  rcases ops _ ho with e|e|e|e
  .simp [fD,e] at hb
  .simp [aV,fV,e] at this; exact this
  .simp [fD,e] at hb
  .simp [aV,fV,e] at this; exact this
theorem zp (h:ot t=0):∀ k,k<t.ins.n->qj t k=true:=by
 grind [ot,ID,e7]
theorem Kb (h:ot t=0):oC t:=XY (zp h)
end
open Go Go.V
theorem eh.of {n:Nat}:∀ {l:List ae},(∀ x∈l,iw n x)->eh n l
 | [],_=>trivial
 | x::l,h=>⟨h x (jl ..),eh.of λy hy=>h y (fL _ hy)⟩
theorem bB.low {f:FuncId} (hf:Fn f) {ds:List D} {rs aG:List ae} {d:D} (h:eh rs.length rs->LC f ds rs d aG):LC f ds rs d aG:=
 ⟨hf.enters,λN ax w0 sp sl df a w E vs hR hv=>(h (eh.of λx hx=>by
  obtain ⟨q,hq⟩:=List.mem_iff_getElem?.1 hx
  have eG:q<rs.length:=(List.getElem?_eq_some_iff.1 hq).1
  have hE:E.length=rs.length:=hR.len
  have:=aO.low (hR.roots q x _ hq (ka (by omega)))
  rwa [hE] at this)).out.2 N ax w0 sp sl df a w E vs hR hv⟩
open Go Go.V
theorem cY {f:FuncId} (hf:Fn f) {ds:List D} {rs:List ae} {d:D} {aG:List ae} (hl:ds.length<=(va f).ntmps) (h:ag f rs.length (Go.V.cd rs d aG) [.code (nt f)] ⟨cP 0 ds,rs,[]⟩):LC f ds rs d aG:=by
 obtain ⟨h1,h2⟩:=zA f _ hf.lE
 exact Ou pB h1 h2 hf.body hl h
theorem ag.Cg {f:FuncId} {n0:Nat} {Q:D->List ae->Prop} {todo:List Item} {s:VS} (r j q m el sz n:Nat) (get:Nat->Nat->I) (l:List C) (hr:aR s.rs r=some (.box l)) (hj:aR l j=some (.sa q m)) (hq:aR s.rs q=some (.arr el sz n get)) (g:ag f n0 Q todo (Pk r j q m el sz n get l s)):ag f n0 Q todo s:=
 λb cs hb=>Goal.Cg hr hj hq (g b cs hb)
theorem eD {α:Type} {l:List α} {i:Nat} {x:α} (h:aR l i=some x):i<l.length:=by
 grind [bW]
open Go Go.V
section
variable (l:Sq Int) (p:Nat) (h:Sq Int) (n:Int)
def nx:Int×Nat:=bif decide ((p:Int)≥(l.n:Int)) then (0,p) else bif decide (n<1) then (0,p) else (UJ (l.get p) n,p+1)
def aE:ae:=.box [.im (yr 1 bF l),.im (iI p)]
def aU (m i ni j ne:Nat) (fuel param:Int):ae:=.box [.rt m 0 0,.im (iI 0),.im (iI 0),.sa i ni,.sa j ne,.im (iI fuel),.im (iI param)]
def cX (s:Sq ak):ae:=.arr 40 14 s.n (λi=>bQ (s.get i))
def lB (s:Sq ai):ae:=.arr 68 3 s.n (λi=>bG (s.get i))
def W33 (ds:List D):Rd:=match ds with
 | [.c (.rt m _ _),.c (.im (.v (.int .i64 n)))]=>.get m λx=>match x with
   | .box [y,.im (.v (.int .i64 q))]=>.ret (int (nx l q.toNat n).1,m,.box [y,.im (iI (nx l q.toNat n).2)])
   | _=>.no
 | _=>.no
def XNx:gr:={ F:=yg }
def XN:gr:={ F:=yg,W:=λf ds=>W33 l ds }
def l8 (ins:Sq ak):Nat->Nat->Sq Int->Sq Int
 | 0,_,h=>h
 | m+1,k,h=>bif wK (ins.get k).op then l8 ins m (k+1) (dV h ⟨1,λ_=>(k:Int)⟩) else l8 ins m (k+1) h
def K2:Int×Nat:=(h.get (h.n-1-(nx l p (min 3 h.n)).1.toNat),(nx l p (min 3 h.n)).2)
def KU:Int×Nat:=(h.get (nx l p h.n).1.toNat,(nx l p h.n).2)
def T2:Int×Nat:=bif (nx l p 2).1==0 then K2 l (nx l p 2).2 h else KU l (nx l p 2).2 h
def QR:Int×Nat:=bif (h.n:Int)==0 then (-1,p) else T2 l p h
def vl (ins:Sq ak):Int×Nat:=QR l p (l8 ins ins.n 0 (aK 0))
theorem Ak (k:Int):bZ (.arr 3 1 (h.n+1) (kB h.n (λi=>bF (h.get i)) (flat 1 [I.v (Value.int IntKind.i64 k)]))) (.arr 3 1 (dV h ⟨1,λ_=>k⟩).n λi=>bF ((dV h ⟨1,λ_=>k⟩).get i)):=by
 rw [<- JC h ⟨1,λ_=>k⟩ bF]
 refine bZ.arr λi hi j hj=>?_
 have hj:j=0:=by omega
 subst hj
 show dK (Bool.rec (flat 1 [I.v (Value.int IntKind.i64 k)] (i-h.n) 0) (bF (h.get i) 0) (Nat.blt i h.n):I) (Bool.rec (bF k 0) (bF (h.get i) 0) (Nat.blt i h.n):I)
 cases hb:Nat.blt i h.n with
 | true=>exact dK.refl _
 | false=>
   have:i-h.n=0:=by
    grind
   rw [this]
   exact dK.refl _
theorem xv {l:Sq Int} {p:Nat} {n:Int} (h1:1<=n) (h2:n<=4611686018427387904):0<=(nx l p n).1/\(nx l p n).1<n:=by
 unfold nx
 cases decide ((p:Int)≥(l.n:Int)) with
 | true=>grind
 | false=>
   rw [show decide (n<1)=false from decide_eq_false (by omega)]
   simp only [cond_false]
   unfold UJ
   have a1:=Int.tmod_lt_of_pos (l.get p) (show 0<n by omega)
   have a2:=Int.lt_tmod_of_pos (l.get p) (show 0<n by omega)
   grind [gG]
theorem iu {l:Sq Int} {p:Nat} {n:Int} (h1:1<=n) (h2:n<=4611686018427387904):∃ d:Nat,(nx l p n).1=(d:Int)/\(d:Int)<n:=by
 obtain ⟨a,b⟩:=xv (l:=l) (p:=p) h1 h2
 grind [Int.eq_ofNat_of_zero_le]
def ae6:Nat->Bool:=cD
theorem aq2:Fn 11:={}
theorem ap5 (L:LP) (QE:D->List ae->Prop) (l:Sq Int) (p:Nat) (n:Int) (h:br (decide ((↑p:Int)≥(↑l.1:Int))) (QE (int 0) [(aE l p)]) (br (decide (n<1)) (QE (int 0) [(aE l p)]) (nd (dm (IntKind.i64.wrap (IntKind.i64.wrap ((↑p:Int)+1)-1)) l.1) ((LC 22 [(int (l.2 (IntKind.i64.wrap (IntKind.i64.wrap ((↑p:Int)+1)-1)).toNat)),(int n)] [] (int (UJ (l.2 (IntKind.i64.wrap (IntKind.i64.wrap ((↑p:Int)+1)-1)).toNat) n)) []/\QE (int (UJ (l.2 (IntKind.i64.wrap (IntKind.i64.wrap ((↑p:Int)+1)-1)).toNat) n)) [(.box [(.im (.sl 1 l.1 (λi=>bF (l.2 i)))),(ci (IntKind.i64.wrap ((↑p:Int)+1)))]),.dead]))))):fG XNx 11 ae6 L QE [.c (.rt 0 0 0),int n] [aE l p]:=km h
theorem Z5 (hl:l.n<=maxLen):LC 11 [.c (.rt 0 0 0),int n] [aE l p] (int (nx l p n).1) [aE l (nx l p n).2]:=by
 refine gM aq2 (aH (by kernel_rfl)) (cU (X:=XNx) (stop:=ae6) (ap5 _ _ l p n ?_))
 refine aq (λh1=>?_) (λh1=>aq (λh2=>?_) (λh2=>?_))
 .rw [show nx l p n=(0,p) from by grind [nx]]
  exact ⟨1,aH rfl,aH rfl,rfl,rfl,bf.refl _,⟨.inr rfl,bm _ _⟩⟩
 .rw [show nx l p n=(0,p) from by grind [nx]]
  exact ⟨1,aH rfl,aH rfl,rfl,rfl,bf.refl _,⟨.inr rfl,bm _ _⟩⟩
 .have g1:=of_decide_eq_false h1
  have g2:=of_decide_eq_false h2
  have hp:p<l.n:=by omega
  rw [dy hp hl,show ((p+1:Nat):Int)-1=(p:Int) by omega,l4 (by unfold maxLen at hl; omega)]
  refine ay (aP hp) ⟨ac8 _ _ (by omega),?_⟩
  rw [show nx l p n=(UJ (l.get p) n,p+1) from by grind [nx]]
  exact ⟨1,aH rfl,aH rfl,rfl,rfl,bf.refl _,⟨.inr rfl,bm _ _⟩⟩
theorem eo {m:Nat} {RS:List ae} (hl:l.n<=maxLen) (h:aR RS m=some (aE l p)):WC 11 [.c (.rt m 0 0),int n] RS (int (nx l p n).1) m (aE l (nx l p n).2):=
 wh.jm (i:=0) (rs:=[aE l p]) (y:=aE l (nx l p n).2) (Z5 l p n hl) [m] RS rfl ⟨h,eD h,rfl⟩ rfl ⟨_,rfl,trivial⟩
end
open Go Go.V
section
variable (L:LP) (aj:Sq Int) (QE:D->List ae->Prop) (l:Sq Int) (aA p:Nat) (aB ins:Sq ak) (aT ne:Nat) (bp fuel bP param:Int) (bU hq:Sq Int) (k:Nat)
def tz:Nat->Bool:=λi=>Nat.beq i 3||Nat.beq i 7||Nat.beq i 9||Nat.beq i 10||Nat.beq i 11
theorem ar8:Fn 15:={}
abbrev dG:gn:=(0,((.c (.rt 1 0 0)),[]))
abbrev bq (aj:Sq ak):ae:=.arr 40 14 aj.1 (λi=>bQ (aj.2 i))
theorem an9 (h:L (ah 15 3) ⟨[dG,(3,((.c dO),[])),(4,((int 0),[]))],[(aE l p),(aU 0 2 ins.1 3 ne fuel param),(bq ins),.dead],[]⟩):fG (XN l) 15 tz L QE [.c (.rt 1 0 0)] [aE l p,aU 0 2 ins.n 3 ne fuel param,cX ins,.dead]:=km h
abbrev pP:gn:=(0,(.c (.rt 1 0 0)),[])
abbrev G2:List ae:=[(aE aj aA),(aU 0 2 aB.1 3 aT bp bP),(bq aB),.dead,.arr 3 1 bU.n (λi=>bF (bU.get i))]
def Ck:VS:=⟨[pP,(3,.c (.sa 4 hq.n),[]),(4,int k,[])],(G2 l p ins ne fuel param hq),[]⟩
abbrev Qa:ae:=.arr 3 1 (aj.1+1) (kB aj.1 (λi=>bF (aj.2 i)) (1,flat 1 [I.v (Value.int IntKind.i64 (↑aA:Int))]).snd)
abbrev xf:gn:=(3,((.c (.sa 4 aj.1)),[]))
abbrev ij:ae:=.arr 3 1 aj.1 (λi=>bF (aj.2 i))
abbrev tH:List ae:=[(aE aj aA),(aU 0 2 aB.1 3 aT bp bP),(bq aB),.dead,(ij bU)]
theorem PB (h:br (decide ((↑k:Int)<(↑ins.1:Int))) (nd (dm (↑k:Int) ins.1) (nd (k.blt ins.1) ((LC 25 [(int ((ins.2 k).1))] [] (bool (wK (ins.2 k).1)) []/\br (wK (ins.2 k).1) (nd (dU (hq.1+1) 8) (nd (hq.1.beq hq.1) (L (ah 15 3) ⟨[dG,(3,((.c (.sa 6 (.succ hq.1))),[])),(4,((int (IntKind.i64.wrap ((↑k:Int)+1))),[]))],[(aE l p),(aU 0 2 ins.1 3 ne fuel param),(bq ins),.dead,.dead,(.row 3 1 1 [(ci (↑k:Int))]),(Qa hq k)],[]⟩))) (L (ah 15 3) ⟨[dG,(xf hq),(4,((int (IntKind.i64.wrap ((↑k:Int)+1))),[]))],(tH l p ins ne fuel param hq),[]⟩))))) (L (ah 15 7) ⟨[dG,(xf hq),(4,((int (↑k:Int)),[])),(12,((bool false),[]))],(tH l p ins ne fuel param hq),[]⟩)):cW (XN l) 15 tz L QE 3 (Ck l p ins ne fuel param hq k):=km h
abbrev CG:aL:=[pP,(3,.c (.sa 4 aj.n),[])]
def Ha:VS:=⟨(CG hq),(G2 l p ins ne fuel param hq),[]⟩
theorem Yb (h:br ((↑hq.1:Int)==0) (QE (int (-1)) [(aE l p),(aU 0 2 ins.1 3 ne fuel param),(.arr 40 14 ins.1 (λi=>bQ (ins.2 i))),.dead,(.arr 3 1 hq.1 (λi=>bF (hq.2 i)))]) (L (ah 15 9) ⟨[dG,(xf hq),(31,((bool false),[]))],(tH l p ins ne fuel param hq),[]⟩)):cW (XN l) 15 tz L QE 7 (Ha l p ins ne fuel param hq):=km h
def Gl:VS:=⟨(CG hq),(G2 l p ins ne fuel param hq),[]⟩
abbrev ln:List D:=[(.c (.rt 0 0 0)),(int 2)]
abbrev nU:D:=int ((nx aj aA 2).1)
abbrev gy:ae:=aE aj ((nx aj aA 2).2)
theorem XS (h:(WC 11 ln (tH l p ins ne fuel param hq) (nU l p) 0 (aE l ((nx l p 2).2))/\br ((nx l p 2).1==0) (L (ah 15 10) ⟨[dG,(xf hq),(37,((bool true),[]))],[(gy l p),(aU 0 2 ins.1 3 ne fuel param),(bq ins),.dead,(ij hq)],[]⟩) (L (ah 15 11) ⟨[dG,(xf hq),(37,((bool false),[]))],[(gy l p),(aU 0 2 ins.1 3 ne fuel param),(bq ins),.dead,(ij hq)],[]⟩))):cW (XN l) 15 tz L QE 9 (Gl l p ins ne fuel param hq):=km h
def Bw:VS:=⟨(CG hq),[aE l p,(aU 0 2 ins.1 3 ne fuel param),(bq ins),.dead,.arr 3 1 hq.n (λi=>bF (hq.get i))],[]⟩
theorem TU (h:(WC 11 [(.c (.rt 0 0 0)),(int (if (↑hq.1:Int)<3 then (↑hq.1:Int) else 3))] (tH l p ins ne fuel param hq) (int ((nx l p (if (↑hq.1:Int)<3 then (↑hq.1:Int) else 3)).1)) 0 (aE l ((nx l p (if (↑hq.1:Int)<3 then (↑hq.1:Int) else 3)).2))/\nd (dm (IntKind.i64.wrap (IntKind.i64.wrap ((↑hq.1:Int)-1)-(nx l p (if (↑hq.1:Int)<3 then (↑hq.1:Int) else 3)).1)) hq.1) (nd ((IntKind.i64.wrap (IntKind.i64.wrap ((↑hq.1:Int)-1)-(nx l p (if (↑hq.1:Int)<3 then (↑hq.1:Int) else 3)).1)).toNat.blt hq.1) (QE (int (hq.2 (IntKind.i64.wrap (IntKind.i64.wrap ((↑hq.1:Int)-1)-(nx l p (if (↑hq.1:Int)<3 then (↑hq.1:Int) else 3)).1)).toNat)) [(aE l ((nx l p (if (↑hq.1:Int)<3 then (↑hq.1:Int) else 3)).2)),(aU 0 2 ins.1 3 ne fuel param),(.arr 40 14 ins.1 (λi=>bQ (ins.2 i))),.dead,(.arr 3 1 hq.1 (λi=>bF (hq.2 i)))])))):cW (XN l) 15 tz L QE 10 (Bw l p ins ne fuel param hq):=km h
def AP:VS:=⟨(CG hq),[aE l p,(aU 0 2 ins.1 3 ne fuel param),(bq ins),.dead,.arr 3 1 hq.n (λi=>bF (hq.get i))],[]⟩
theorem TP (h:(WC 11 [(.c (.rt 0 0 0)),(qB hq)] (tH l p ins ne fuel param hq) (int ((nx l p (↑hq.1:Int)).1)) 0 (aE l ((nx l p (↑hq.1:Int)).2))/\nd (dm (nx l p (↑hq.1:Int)).1 hq.1) (nd ((nx l p (↑hq.1:Int)).1.toNat.blt hq.1) (QE (int (hq.2 (nx l p (↑hq.1:Int)).1.toNat)) [(aE l ((nx l p (↑hq.1:Int)).2)),(aU 0 2 ins.1 3 ne fuel param),(.arr 40 14 ins.1 (λi=>bQ (ins.2 i))),.dead,(.arr 3 1 hq.1 (λi=>bF (hq.2 i)))])))):cW (XN l) 15 tz L QE 11 (AP l p ins ne fuel param hq):=km h
theorem TE (p0:Nat) (hl:l.n<=maxLen) (hq:Sq Int) (h1:1<=hq.n) (h2:hq.n<=1000):ag 15 4 (Go.V.Ends [aE l p0,aU 0 2 ins.n 3 ne fuel param,cX ins,.dead] (int (KU l p hq).1) [aE l (KU l p hq).2,aU 0 2 ins.n 3 ne fuel param,cX ins,.dead]) (ah 15 11) (AP l p ins ne fuel param hq):=by
 obtain ⟨d,hd,eG⟩:=iu (l:=l) (p:=p) (n:=(hq.n:Int)) (by omega) (by omega)
 refine aF (X:=XN l) (stop:=tz) (TP _ _ l p ins ne fuel param hq ⟨eo l _ _ hl rfl,?_⟩)
 have e:KU l p hq=(hq.get d,(nx l p (hq.n:Int)).2):=by unfold KU; rw [hd]; rfl
 rw [e]
 show nd (dm (nx l p (hq.n:Int)).1 hq.n) (nd (Nat.blt (nx l p (hq.n:Int)).1.toNat hq.n) _)
 rw [hd]
 exact ay (aP (by omega)) (ay (da (by show d<hq.n; omega)) ⟨4,aH rfl,aH rfl,rfl,rfl,bf.refl _,⟨.inr rfl,bm _ _⟩⟩)
end
section
variable (l:Sq Int) (p:Nat) (ins:Sq ak) (ne:Nat) (fuel param:Int) (p0:Nat)
theorem Rc (hl:l.n<=maxLen) (hq:Sq Int) (h1:1<=hq.n) (h2:hq.n<=1000):ag 15 4 (Go.V.Ends [aE l p0,aU 0 2 ins.n 3 ne fuel param,cX ins,.dead] (int (K2 l p hq).1) [aE l (K2 l p hq).2,aU 0 2 ins.n 3 ne fuel param,cX ins,.dead]) (ah 15 10) (Bw l p ins ne fuel param hq):=by
 obtain ⟨d,hd,eG⟩:=iu (l:=l) (p:=p) (n:=min 3 (hq.n:Int)) (by omega) (by omega)
 refine aF (X:=XN l) (stop:=tz) (TU _ _ l p ins ne fuel param hq ?_)
 rw [show (if (hq.n:Int)<3 then (hq.n:Int) else 3)=min 3 (hq.n:Int) from by split<;>omega]
 refine ⟨eo l _ _ hl rfl,?_⟩
 have e:K2 l p hq=(hq.get (hq.n-1-d),(nx l p (min 3 (hq.n:Int))).2):=by unfold K2; rw [hd]; rfl
 rw [e,hd,gG (k:=(hq.n:Int)-1) (by omega) (by omega),gG (by omega) (by omega),show (hq.n:Int)-1-(d:Int)=((hq.n-1-d:Nat):Int) by omega]
 exact ay (aP (by omega)) (ay (da (by grind)) ⟨4,aH rfl,aH rfl,rfl,rfl,bf.refl _,⟨.inr rfl,bm _ _⟩⟩)
theorem WV (hl:l.n<=maxLen) (hq:Sq Int) (h1:1<=hq.n) (h2:hq.n<=1000):ag 15 4 (Go.V.Ends [aE l p0,aU 0 2 ins.n 3 ne fuel param,cX ins,.dead] (int (T2 l p hq).1) [aE l (T2 l p hq).2,aU 0 2 ins.n 3 ne fuel param,cX ins,.dead]) (ah 15 9) (Gl l p ins ne fuel param hq):=by
 refine aF (X:=XN l) (stop:=tz) (XS _ _ l p ins ne fuel param hq ⟨eo l _ _ hl rfl,?_⟩)
 refine aq (λh3=>?_) (λh3=>?_)
 .rw [show T2 l p hq=K2 l (nx l p 2).2 hq from by grind [T2]]
  exact ag.lr (Bw l (nx l p 2).2 ins ne fuel param hq) (Rc l (nx l p 2).2 ins ne fuel param p0 hl hq h1 h2)
 .rw [show T2 l p hq=KU l (nx l p 2).2 hq from by grind [T2]]
  exact ag.lr (AP l (nx l p 2).2 ins ne fuel param hq) (TE l (nx l p 2).2 ins ne fuel param p0 hl hq h1 h2)
theorem Vx (hl:l.n<=maxLen) (hq:Sq Int) (h2:hq.n<=1000):ag 15 4 (Go.V.Ends [aE l p0,aU 0 2 ins.n 3 ne fuel param,cX ins,.dead] (int (QR l p hq).1) [aE l (QR l p hq).2,aU 0 2 ins.n 3 ne fuel param,cX ins,.dead]) (ah 15 7) (Ha l p ins ne fuel param hq):=by
 refine aF (X:=XN l) (stop:=tz) (Yb _ _ l p ins ne fuel param hq ?_)
 refine aq (λh3=>?_) (λh3=>?_)
 .rw [show QR l p hq=(-1,p) from by grind [QR]]
  exact ⟨4,aH rfl,aH rfl,rfl,rfl,bf.refl _,⟨.inr rfl,bm _ _⟩⟩
 .have h3:((hq.n:Int)==0)=false:=h3
  rw [show QR l p hq=T2 l p hq from by unfold QR; rw [h3]; rfl]
  simp only [beq_eq_false_iff_ne] at h3
  exact ag.lr (Gl l p ins ne fuel param hq) (WV l p ins ne fuel param p0 hl hq (by omega) h2)
theorem VU (hl:l.n<=maxLen) (hI:ins.n<=1000) (o:Int×Nat):∀ k,k<=ins.n->∀ hq:Sq Int,hq.n<=k->QR l p (l8 ins (ins.n-k) k hq)=o->ag 15 4 (Go.V.Ends [aE l p0,aU 0 2 ins.n 3 ne fuel param,cX ins,.dead] (int (o).1) [aE l (o).2,aU 0 2 ins.n 3 ne fuel param,cX ins,.dead]) (ah 15 3) (Ck l p ins ne fuel param hq k):=by
 refine bc (λk hk ih hq hh ho=>?_) (λhq hh ho=>?_)
 .have q:ins.n-k=(ins.n-(k+1))+1:=by omega
  rw [q] at ho
  refine aF (X:=XN l) (stop:=tz) (PB _ _ l p ins ne fuel param hq k ?_)
  rw [dy hk (eA hI (by decide))]
  refine aq (λh3=>?_) (λh3=>(dec_lt h3 hk).elim)
  refine ay (aP hk) (ay (da hk) ⟨af7 _,aq (λh4=>?_) (λh4=>?_)⟩)
  .have h4:wK (ins.get k).op=true:=h4
   rw [show l8 ins (ins.n-(k+1)+1) k hq=l8 ins (ins.n-(k+1)) (k+1) (dV hq ⟨1,λ_=>(k:Int)⟩) from by grind [l8]] at ho
   refine ay (eE (by omega) (by omega)) (ay (gu _) ?_)
   exact ag.rename [0,1,2,3,6] rfl (ag.lf (Ck l p ins ne fuel param (dV hq ⟨1,λ_=>(k:Int)⟩) (k+1)) (rc (rc (rc (rc (.cons (Ak hq k) .nil))))) (ih _ (by show hq.n+1<=_; omega) ho))
  .have h4:wK (ins.get k).op=false:=h4
   rw [show l8 ins (ins.n-(k+1)+1) k hq=l8 ins (ins.n-(k+1)) (k+1) hq from by grind [l8]] at ho
   exact ih hq (by omega) ho
 .rw [Nat.sub_self] at ho
  refine aF (X:=XN l) (stop:=tz) (PB _ _ l p ins ne fuel param hq _ ?_)
  refine aq (λh3=>cj h3) (λh3=>?_)
  have ho:QR l p hq=o:=ho
  subst ho
  exact ag.lr (Ha l p ins ne fuel param hq) (Vx l p ins ne fuel param p0 hl hq (by omega))
theorem ac9 (hl:l.n<=maxLen) (hI:ins.n<=1000):LC 15 [.c (.rt 1 0 0)] [aE l p,aU 0 2 ins.n 3 ne fuel param,cX ins,.dead] (int (vl l p ins).1) [aE l (vl l p ins).2,aU 0 2 ins.n 3 ne fuel param,cX ins,.dead]:=by
 refine gM ar8 (aH (by kernel_rfl)) (cU (X:=XN l) (stop:=tz) (an9 _ _ l p ins ne fuel param ?_))
 exact ag.IJ 3 3 1 rfl (ag.lf (Ck l p ins ne fuel param (aK 0) 0) (rc (rc (rc (rc (.cons (tD 3 1 _ _) .nil))))) (VU l p ins ne fuel param p hl hI _ 0 (bn _) (aK 0) (bn _) rfl))
theorem fE {ne:Nat} {fuel param:Int} {m q i j:Nat} {RS:List ae} (hl:l.n<=maxLen) (hI:ins.n<=1000:=by omega) (hd:gW [m,q,i,j]=true:=by rfl) (h0:aR RS m=some (aE l p):=by rfl) (h1:aR RS q=some (aU m i ins.n j ne fuel param):=by rfl) (h2:aR RS i=some (cX ins):=by rfl) (h3:j<RS.length:=by exact aH rfl) :
  WC 15 [.c (.rt q 0 0)] RS (int (vl l p ins).1) m (aE l (vl l p ins).2):=
 wh.jm (i:=0) (rs:=[aE l p,aU 0 2 ins.n 3 ne fuel param,cX ins,.dead]) (y:=aE l (vl l p ins).2) (ac9 l p ins ne fuel param hl hI) [m,q,i,j] RS hd ⟨h0,eD h0,h1,eD h1,h2,eD h2,rfl,h3,rfl⟩ rfl ⟨_,rfl,trivial⟩
end
open Go Go.V
section
variable (s:Sq ak) (l:Sq Int) {n:Nat} (ins:Sq ak) (x:ak)
def bD:Sq ak:=dV s ⟨1,λ_=>x⟩
def cf (s:Sq ai) (x:ai):Sq ai:=dV s ⟨1,λ_=>x⟩
theorem yz:(∀ (s:Sq ak) (x:ak),(bD s x).n=s.n+1)/\(∀ (s:Sq ai) (x:ai),(cf s x).n=s.n+1):=⟨λ_ _=>rfl,λ_ _=>rfl⟩
def tn:Out:=(.t [],[],[])
def F34 (sn:Sq ak->ak->Sq ak) (ds:List D) (rs:List ae):Out:=match ds with
 | [.c (.rt q _ _),x]=>match aR rs q with
   | some (.box [m,a,b,.sa i n,e,fu,pa])=>match aR rs i with
     | some (.arr _ _ k get)=>(int (n:Int),[(q,.box [m,a,b,.sa rs.length (sn ⟨k,λj=>jA (get j)⟩ (jA (gD x))).n,e,fu,pa]),(i,.dead)],[cX (sn ⟨k,λj=>jA (get j)⟩ (jA (gD x)))])
     | _=>tn
   | _=>tn
 | _=>tn
def W37 (ds:List D):Rd:=match ds with
 | [.c (.rt q _ _)]=>.get q λx=>match x with
   | .box [.rt m _ _,_,_,.sa i _,_,_,_]=>.get m λy=>match y with
     | .box [y,.im (.v (.int .i64 p))]=>.get i λz=>match z with
       | .arr _ _ k get=>.ret (int (vl l p.toNat ⟨k,λj=>jA (get j)⟩).1,m,.box [y,.im (iI (vl l p.toNat ⟨k,λj=>jA (get j)⟩).2)])
       | _=>.no
     | _=>.no
   | _=>.no
 | _=>.no
def X34:gr:={ F:=yg }
def Ph:gr:={ F:=yg,W:=λf ds=>match f with
 | 11=>W33 l ds
 | _=>W37 l ds }
theorem dK.sl {sz:Nat} {get get':Nat->Nat->I} (h:∀ i,i<n->∀ j,j<sz->dK (get i j) (get' i j)):dK (.sl sz n get) (.sl sz n get'):=by
 rintro av w v ⟨a,cap,rfl,h1,h2,h3⟩
 refine ⟨a,cap,rfl,h1,h2,λh0=>?_⟩
 obtain ⟨ad,q1,q2,q3,q4,q5⟩:=h3 h0
 refine ⟨ad,q1,q2,q3,q4,λi hi j hj=>?_⟩
 obtain ⟨x,p1,p2⟩:=q5 i hi j hj
 exact ⟨x,p1,h i hi j hj av w x p2⟩
theorem rQ:∀ {l:List I} {j:Nat},j<l.length->iA l j=YD l j
 | [],j,h=>absurd h (Nat.not_lt_zero _)
 | x::l,0,_=>rfl
 | x::l,j+1,h=>rQ (l:=l) (j:=j) (by simpa using h)
theorem vo {α:Type} (el sz:Nat) (s:Sq α) (x:α) (e:α->Nat->I) (is:List I) (h:∀ j,j<sz->dK (iA is j) (e x j)):bZ (.arr el sz (s.n+1) (kB s.n (λi=>e (s.get i)) (flat sz is))) (.arr el sz (dV s ⟨1,λ_=>x⟩).n λi=>e ((dV s ⟨1,λ_=>x⟩).get i)):=by
 rw [<- JC s ⟨1,λ_=>x⟩ e]
 refine bZ.arr λi hi j hj=>?_
 show dK (Bool.rec (flat sz is (i-s.n) j) (e (s.get i) j) (Nat.blt i s.n):I) (Bool.rec (e x j) (e (s.get i) j) (Nat.blt i s.n):I)
 cases hb:Nat.blt i s.n with
 | true=>exact dK.refl _
 | false=>
   have:i-s.n=0:=by
    grind
   rw [this]
   show dK (iA is (0*sz+j)) (e x j)
   grind
theorem Vv:bZ (.arr 40 14 (s.n+1) (kB s.n (λi=>bQ (s.get i)) (flat 14 (b8 x)))) (cX (bD s x)):=
 vo 40 14 s x bQ (b8 x) λj hj=>by rw [rQ (l:=b8 x) hj]; exact dK.refl _
theorem Yp (s:Sq ai) (x:ai):bZ (.arr 68 3 (s.n+1) (kB s.n (λi=>bG (s.get i)) (flat 3 (bz x)))) (lB (cf s x)):=
 vo 68 3 s x bG (bz x) λj hj=>by rw [rQ (l:=bz x) hj]; exact dK.refl _
theorem Aa (h:n<=1000):IntKind.i64.wrap (((n+1:Nat):Int)-1)=(n:Int):=by
 grind [l4]
def LB (l:Sq Int) (ins:Sq ak):Nat->Nat->Sq Int->Sq Int×Nat
 | 0,p,h=>(h,p)
 | m+1,p,h=>LB l ins m (vl l p ins).2 (dV h ⟨1,λ_=>(vl l p ins).1⟩)
def Yx (v:Int):cA:=⟨1,2,⟨2,λi=>bif Nat.beq i 0 then -1 else v⟩⟩
def zV:dh:=⟨0,0,aK ⟨⟨[]⟩⟩,aK 0⟩
def QV (fr:cA) (back:Int) (p:Nat):ai×Nat:=
 bif (nx l p 5).1==0 then (⟨dV ⟨1,λ_=>fr⟩ ⟨1,λ_=>Yx (vl l (nx l p 5).2 ins).1⟩,aK zV,back⟩,(vl l (nx l p 5).2 ins).2) else (⟨⟨1,λ_=>fr⟩,aK zV,back⟩,(nx l p 5).2)
def UC (fuel:Int) (v:Sq Int×Nat):ai×Nat:=QV l ins ⟨0,0,v.1⟩ (nx l v.2 (fuel+1)).1 (nx l v.2 (fuel+1)).2
def lv (p:Nat) (ins:Sq ak) (fuel:Int) (param:Nat):ai×Nat:=UC l ins fuel (LB l ins param p (aK 0))
def ae1:Nat->Bool:=cD
theorem an7:Fn 12:={}
theorem at3 (L:LP) (QE:D->List ae->Prop) (ins:Sq ak) (ne:Nat) (fuel param:Int) (x:ak) (h:nd (dU (ins.1+1) 152) (nd (ins.1.beq ins.1) (nd (dU (ins.1+1) 152) (nd (ins.1.beq ins.1) (QE (int (IntKind.i64.wrap ((↑(ins.1+1):Int)-1))) [.dead,(aU 0 6 (.succ ins.1) 3 ne fuel param),.dead,.dead,(.box (lift (b8 (x)))),(.row 40 14 1 (lift (b8 (x)))),(.arr 40 14 (ins.1+1) (kB ins.1 (λi=>bQ (ins.2 i)) (1,flat 14 [iI x.1,iI x.2,iI x.3,iI x.4,iI x.5,yr 1 bF x.6,iI x.7.1,iI x.7.2,iS x.7.3,yr 1 dF x.8,iI x.9.1,iI x.9.2,iI x.10,iB x.11]).snd))]))))):fG X34 12 ae1 L QE [.c (.rt 1 0 0),iJ x] [.dead,aU 0 2 ins.n 3 ne fuel param,cX ins,.dead]:=km h
theorem ZI (ne:Nat) (fuel param:Int) (x:ak) (hI:ins.n<=1000):LC 12 [.c (.rt 1 0 0),iJ x] [.dead,aU 0 2 ins.n 3 ne fuel param,cX ins,.dead] (int ins.n) [.dead,aU 0 4 (bD ins x).n 3 ne fuel param,.dead,.dead,cX (bD ins x)]:=by
 refine cY an7 (aH (by kernel_rfl)) (cU (X:=X34) (stop:=ae1) (at3 _ _ ins ne fuel param x ?_))
 refine ay (eE (by omega) (by omega)) (ay (gu _) (ay (eE (by omega) (by omega)) (ay (gu _) ?_)))
 rw [Aa hI]
 exact ⟨[0,1,2,3,6],int ins.n,_,_,rfl,(rc (rc (rc (rc (.cons (Vv ins x) .nil))))),⟨5,aH rfl,aH rfl,rfl,rfl,bf.refl _,⟨.inl (.inl rfl),⟨.inr rfl,⟨.inr rfl,⟨.inl (.inl rfl),⟨rfl,trivial⟩⟩⟩⟩⟩⟩⟩
theorem eO {xd:D} {ne:Nat} {fuel param:Int} {m q i j:Nat} {RS:List ae} (hI:ins.n<=1000:=by first|omega|(simp only [yz]; omega)) (hx:bf xd (iJ x):=by first|exact bf.refl _|exact jc (by repeat' (first|exact az.nil|refine az.cons ?_ ?_|exact dT.refl _|exact dT.nil _ _))) (hd:gW [m,q,i,j]=true:=by rfl) (h0:m<RS.length:=by exact aH rfl) (h1:aR RS q=some (aU m i ins.n j ne fuel param):=by rfl) (h2:aR RS i=some (cX ins):=by rfl) (h3:j<RS.length:=by exact aH rfl) :
  LC 12 [.c (.rt q 0 0),xd] RS (int ins.n) (setAt (setAt RS q (aU m RS.length (bD ins x).n j ne fuel param)) i .dead++[cX (bD ins x)]):=
 bB.pre (bB.jm (ZI ins ne fuel param x hI) [m,q,i,j] RS hd ⟨rfl,h0,h1,eD h1,h2,eD h2,rfl,h3,rfl⟩) (.cons (bf.refl _) (.cons hx .nil))
def xT:Nat->Bool:=λi=>Nat.beq i 3||Nat.beq i 6||Nat.beq i 7||Nat.beq i 9
end
theorem ap2:Fn 13:={}
section
variable (L:LP) (QE:D->List ae->Prop) (l:Sq Int) (p:Nat) (ins:Sq ak) (aa:Sq ai) (fuel:Int) (param:Nat) (hq:Sq Int) (fr:cA) (ex:ai) (k:Nat) (back:Int)
abbrev xt:gn:=(3,((.c (.rt 4 0 0)),[]))
abbrev cH (aj:Sq ak) (aA:Sq ai) (aB:Int) (aT:Nat):ae:=aU 0 2 aj.1 3 aA.1 aB (↑aT:Int)
abbrev bK (aj:Sq ai):ae:=.arr 68 3 aj.1 (λi=>bG (aj.2 i))
theorem ao5 (h:L (ah 13 3) ⟨[dG,xt,(4,((int 0),[]))],[(aE l p),(cH ins aa fuel param),(bq ins),(bK aa),(.box [(ci 0),(ci 0),dO])],[]⟩):fG (Ph l) 13 xT L QE [.c (.rt 1 0 0)] [aE l p,aU 0 2 ins.n 3 aa.n fuel param,cX ins,lB aa]:=km h
def Bf:VS:=⟨[pP,(3,(.c (.rt 4 0 0)),[]),(4,int k,[])],[(aE l p),(cH ins aa fuel param),(bq ins),(bK aa),.box [.im (iI 0),.im (iI 0),.sa 5 hq.n],.arr 3 1 hq.n (λi=>bF (hq.get i))],[]⟩
abbrev dY:List D:=[(.c (.rt 1 0 0))]
theorem Mv (h:br (decide ((↑k:Int)<(↑param:Int))) ((WC 15 dY [(aE l p),(cH ins aa fuel param),(bq ins),(bK aa),(.box [(ci 0),(ci 0),(.sa 5 hq.1)]),(ij hq),.dead,.dead,.dead] (int ((vl l p ins).1)) 0 (aE l ((vl l p ins).2))/\nd (dU (hq.1+1) 8) (nd (hq.1.beq hq.1) ((WC 15 dY [(aE l p),(cH ins aa fuel param),(bq ins),(bK aa),(.box [(ci 0),(ci 0),(.sa 5 hq.1)]),(ij hq),.dead,.dead,.dead] (int ((vl l p ins).1)) 0 (aE l ((vl l p ins).2))/\nd (dU (hq.1+1) 8) (nd (hq.1.beq hq.1) (L (ah 13 3) ⟨[dG,xt,(4,((int (IntKind.i64.wrap ((↑k:Int)+1))),[]))],[(aE l ((vl l p ins).2)),(cH ins aa fuel param),(bq ins),(bK aa),(.box [(ci 0),(ci 0),(.sa 8 (.succ hq.1))]),.dead,.dead,(.row 3 1 1 [(ci ((vl l p ins).1))]),(.arr 3 1 (hq.1+1) (kB hq.1 (λi=>bF (hq.2 i)) (1,flat 1 [I.v (Value.int IntKind.i64 (vl l p ins).1)]).snd))],[]⟩))))))) (L (ah 13 6) ⟨[dG,xt,(4,((int (↑k:Int)),[])),(12,((bool false),[]))],[(aE l p),(cH ins aa fuel param),(bq ins),(bK aa),(.box [(ci 0),(ci 0),(.sa 5 hq.1)]),(ij hq)],[]⟩)):cW (Ph l) 13 xT L QE 3 (Bf l p ins aa fuel param hq k):=km h
def Hp:VS:=⟨[pP,(3,(.c (.rt 4 0 0)),[])],[(aE l p),(cH ins aa fuel param),(bq ins),(bK aa),.box (lift (la ⟨0,0,hq⟩))],[]⟩
abbrev xM (aj:Sq Int):List C:=lift (la ({ fn:=Int.ofNat 0,line:=Int.ofNat 0,vars:=aj }))
theorem X2 (h:(WC 11 [(.c (.rt 0 0 0)),(int (IntKind.i64.wrap (fuel+1)))] [(aE l p),(cH ins aa fuel param),(bq ins),(bK aa),(.box (xM hq)),(.row 64 3 1 (xM hq)),.dead,.dead] (int ((nx l p (IntKind.i64.wrap (fuel+1))).1)) 0 (aE l ((nx l p (IntKind.i64.wrap (fuel+1))).2))/\(WC 11 [(.c (.rt 0 0 0)),(int (IntKind.i64.wrap (fuel+1)))] [(aE l p),(cH ins aa fuel param),(bq ins),(bK aa),(.box (xM hq)),.dead,.dead,.dead] (int ((nx l p (IntKind.i64.wrap (fuel+1))).1)) 0 (aE l ((nx l p (IntKind.i64.wrap (fuel+1))).2))/\L (ah 13 7) ⟨[dG,(5,((.c (.rt 7 0 0)),[]))],[(aE l ((nx l p (IntKind.i64.wrap (fuel+1))).2)),(cH ins aa fuel param),(bq ins),(bK aa),(.box (xM hq)),(.row 64 3 1 (xM hq)),.dead,(.box [(.sa 5 1),dO,(ci ((nx l p (IntKind.i64.wrap (fuel+1))).1))])],[]⟩))):cW (Ph l) 13 xT L QE 6 (Hp l p ins aa fuel param hq):=km h
def GW:VS:=⟨[pP,(5,.c (.rt 4 0 0),[])],[aE l p,(cH ins aa fuel param),(bq ins),(bK aa),.box [.sa 5 1,.im (.v (.slice .none 0 0)),.im (iI back)],.arr 64 3 1 (λ_=>cK fr)],[]⟩
abbrev Ci (aj:Int):ae:=.box [(.sa 5 1),dO,(ci aj)]
abbrev Az (aj:cA):ae:=.arr 64 3 1 (λx=>cK aj)
theorem W7 (h:(WC 11 [(.c (.rt 0 0 0)),(int 5)] [(aE l p),(cH ins aa fuel param),(bq ins),(bK aa),(Ci back),(Az fr)] (int ((nx l p 5).1)) 0 (aE l ((nx l p 5).2))/\br ((nx l p 5).1==0) ((WC 15 dY [(aE l ((nx l p 5).2)),(cH ins aa fuel param),(bq ins),(bK aa),(Ci back),(Az fr),.dead,.dead,.dead,.dead] (int ((vl l (nx l p 5).2 ins).1)) 0 (aE l ((vl l (nx l p 5).2 ins).2))/\(WC 15 dY [(aE l ((nx l p 5).2)),(cH ins aa fuel param),(bq ins),(bK aa),(Ci back),(Az fr),.dead,.dead,.dead,.dead] (int ((vl l (nx l p 5).2 ins).1)) 0 (aE l ((vl l (nx l p 5).2 ins).2))/\L (ah 13 9) ⟨[dG,(5,((.c (.rt 4 0 0)),[]))],[(aE l ((vl l (nx l p 5).2 ins).2)),(cH ins aa fuel param),(bq ins),(bK aa),(.box [(.sa 9 2),dO,(ci back)]),.dead,.dead,.dead,(.row 64 3 1 [(ci 1),(ci 2),(.im (.sl 1 2 (flat 1 [I.v (Value.int IntKind.i64 (-1)),I.v (Value.int IntKind.i64 (vl l (nx l p 5).2 ins).1)])))]),(.arr 64 3 2 (kB 1 (λx=>cK fr) (1,flat 3 [I.v (Value.int IntKind.i64 1),I.v (Value.int IntKind.i64 2),I.sl 1 2 (flat 1 [I.v (Value.int IntKind.i64 (-1)),I.v (Value.int IntKind.i64 (vl l (nx l p 5).2 ins).1)])]).snd))],[]⟩))) (L (ah 13 9) ⟨[dG,(5,((.c (.rt 4 0 0)),[])),(40,((bool false),[]))],[(aE l ((nx l p 5).2)),(cH ins aa fuel param),(bq ins),(bK aa),(Ci back),(Az fr)],[]⟩))):cW (Ph l) 13 xT L QE 7 (GW l p ins aa fuel param fr back):=km h
def Au:VS:=⟨[pP,(5,.c (.rt 4 0 0),[])],[aE l p,(cH ins aa fuel param),(bq ins),(bK aa),.box (lift (bz ex))],[]⟩
theorem WL (h:nd (dU (aa.1+1) 56) (nd (aa.1.beq aa.1) (nd (dU (aa.1+1) 56) (nd (aa.1.beq aa.1) (QE (int (IntKind.i64.wrap ((↑(aa.1+1):Int)-1))) [(aE l p),(aU 0 2 ins.1 6 (.succ aa.1) fuel (↑param:Int)),(.arr 40 14 ins.1 (λi=>bQ (ins.2 i))),.dead,(.box (lift (bz (ex)))),(.row 68 3 1 (lift (bz (ex)))),(.arr 68 3 (aa.1+1) (kB aa.1 (λi=>bG (aa.2 i)) (1,flat 3 [yr 3 cK ex.1,yr 4 eM ex.2,iI ex.3]).snd))]))))):cW (Ph l) 13 xT L QE 9 (Au l p ins aa fuel param ex):=km h
end
section
variable (l:Sq Int) (p:Nat) (ins:Sq ak) (aa:Sq ai) (fuel:Int) (param p0:Nat)
theorem QA (hl:l.n<=maxLen) (hI:ins.n<=1000) (hE:aa.n<=1000) (hF:0<=fuel/\fuel<=1000) (ex:ai):ag 13 4 (cd [aE l p0,aU 0 2 ins.n 3 aa.n fuel param,cX ins,lB aa] (int aa.n) [aE l ((ex,p)).2,aU 0 2 ins.n 4 (cf aa ((ex,p)).1).n fuel param,cX ins,.dead,lB (cf aa ((ex,p)).1)]) (ah 13 9) (Au l p ins aa fuel param ex):=by
 refine aF (X:=Ph l) (stop:=xT) (WL _ _ l p ins aa fuel param ex ?_)
 refine ay (eE (by omega) (by omega)) (ay (gu _) (ay (eE (by omega) (by omega)) (ay (gu _) ?_)))
 rw [Aa hE]
 exact ⟨[0,1,2,3,6],int aa.n,_,_,rfl,(rc (rc (rc (rc (.cons (Yp aa ex) .nil))))),⟨5,aH rfl,aH rfl,rfl,rfl,bf.refl _,⟨.inr rfl,⟨.inr rfl,⟨.inl (.inl rfl),⟨.inr rfl,⟨rfl,trivial⟩⟩⟩⟩⟩⟩⟩
theorem Xp (v:Int):∀ i,i<1->∀ j,j<3->dK (flat 3 [I.v (Value.int IntKind.i64 1),I.v (Value.int IntKind.i64 2),I.sl 1 2 (flat 1 [I.v (Value.int IntKind.i64 (-1)),I.v (Value.int IntKind.i64 v)])] i j) (cK (Yx v) j):=by
 intro i hi j hj
 have hi:i=0:=by omega
 subst hi
 match j,hj with
 | 0,_=>exact dK.refl _
 | 1,_=>exact dK.refl _
 | 2,_=>
   refine dK.sl λa ha b hb=>?_
   have hb:b=0:=by omega
   subst hb
   match a,ha with
   | 0,_=>exact dK.refl _
   | 1,_=>exact dK.refl _
theorem Wv (hl:l.n<=maxLen) (hI:ins.n<=1000) (hE:aa.n<=1000) (hF:0<=fuel/\fuel<=1000) (fr:cA) (back:Int):ag 13 4 (cd [aE l p0,aU 0 2 ins.n 3 aa.n fuel param,cX ins,lB aa] (int aa.n) [aE l (QV l ins fr back p).2,aU 0 2 ins.n 4 (cf aa (QV l ins fr back p).1).n fuel param,cX ins,.dead,lB (cf aa (QV l ins fr back p).1)]) (ah 13 7) (GW l p ins aa fuel param fr back):=by
 refine aF (X:=Ph l) (stop:=xT) (W7 _ _ l p ins aa fuel param fr back ⟨eo l _ _ hl rfl,?_⟩)
 refine aq (λh=>?_) (λh=>?_)
 .refine ⟨fE l _ ins hl hI rfl rfl rfl rfl (aH rfl),fE l _ ins hl hI rfl rfl rfl rfl (aH rfl),?_⟩
  rw [show QV l ins fr back p=(⟨dV ⟨1,λ_=>fr⟩ ⟨1,λ_=>Yx (vl l (nx l p 5).2 ins).1⟩,aK zV,back⟩,(vl l (nx l p 5).2 ins).2) from by grind [QV]]
  refine ag.freeze 9 rfl (ag.rename [0,1,2,3,4] rfl (ag.lf (Au l (vl l (nx l p 5).2 ins).2 ins aa fuel param ⟨dV ⟨1,λ_=>fr⟩ ⟨1,λ_=>Yx (vl l (nx l p 5).2 ins).1⟩,aK zV,back⟩) (rc (rc (rc (rc (.cons (bZ.box (.cons (dT.im (dK.sl λi hi j hj=>?_)) (.cons (dT.nil _ _) (.cons (dT.refl _) .nil)))) .nil))))) (QA l (vl l (nx l p 5).2 ins).2 ins aa fuel param p0 hl hI hE hF _)))
  show dK (Bool.rec (flat 3 [I.v (Value.int IntKind.i64 1),I.v (Value.int IntKind.i64 2),I.sl 1 2 (flat 1 [I.v (Value.int IntKind.i64 (-1)),I.v (Value.int IntKind.i64 (vl l (nx l p 5).2 ins).1)])] (i-1) j) (cK fr j) (Nat.blt i 1):I) (cK (Bool.rec (Yx (vl l (nx l p 5).2 ins).1) fr (Nat.blt i 1)) j)
  cases Nat.blt i 1 with
  | true=>exact dK.refl _
  | false=>exact Xp _ _ (by omega) j hj
 .rw [show QV l ins fr back p=(⟨⟨1,λ_=>fr⟩,aK zV,back⟩,(nx l p 5).2) from by grind [QV]]
  exact ag.freeze 5 rfl (ag.rename [0,1,2,3,4] rfl (ag.lf (Au l (nx l p 5).2 ins aa fuel param ⟨⟨1,λ_=>fr⟩,aK zV,back⟩) (rc (rc (rc (rc (.cons (bZ.box (.cons (dT.refl _) (.cons (dT.nil _ _) (.cons (dT.refl _) .nil)))) .nil))))) (QA l (nx l p 5).2 ins aa fuel param p0 hl hI hE hF _)))
theorem Sr (x:cA):∀ i,i<1->∀ j,j<3->(lift (la x))[i*3+j]?=some (.im (cK x j)):=by
 intro i hi j hj
 have hi:i=0:=by omega
 subst hi
 match j,hj with
 | 0,_=>rfl
 | 1,_=>rfl
 | 2,_=>rfl
theorem Vs (hl:l.n<=maxLen) (hI:ins.n<=1000) (hE:aa.n<=1000) (hF:0<=fuel/\fuel<=1000) (hq:Sq Int):ag 13 4 (cd [aE l p0,aU 0 2 ins.n 3 aa.n fuel param,cX ins,lB aa] (int aa.n) [aE l (UC l ins fuel (hq,p)).2,aU 0 2 ins.n 4 (cf aa (UC l ins fuel (hq,p)).1).n fuel param,cX ins,.dead,lB (cf aa (UC l ins fuel (hq,p)).1)]) (ah 13 6) (Hp l p ins aa fuel param hq):=by
 refine aF (X:=Ph l) (stop:=xT) (X2 _ _ l p ins aa fuel param hq ?_)
 rw [gG (k:=fuel+1) (by omega) (by omega)]
 refine ⟨eo l _ _ hl rfl,eo l _ _ hl rfl,?_⟩
 exact ag.rename [0,1,2,3,7,5] rfl (ag.lf (GW l (nx l p (fuel+1)).2 ins aa fuel param ⟨0,0,hq⟩ (nx l p (fuel+1)).1) (rc (rc (rc (rc (rc (.cons (bZ.row (Sr ⟨0,0,hq⟩)) .nil)))))) (Wv l (nx l p (fuel+1)).2 ins aa fuel param p0 hl hI hE hF ⟨0,0,hq⟩ (nx l p (fuel+1)).1))
theorem VN (hl:l.n<=maxLen) (hI:ins.n<=1000) (hE:aa.n<=1000) (hF:0<=fuel/\fuel<=1000) (hP:param<=1000) (o:ai×Nat):∀ k,k<=param->∀ (p:Nat) (hq:Sq Int),hq.n<=k->UC l ins fuel (LB l ins (param-k) p hq)=o->ag 13 4 (cd [aE l p0,aU 0 2 ins.n 3 aa.n fuel param,cX ins,lB aa] (int aa.n) [aE l (o).2,aU 0 2 ins.n 4 (cf aa (o).1).n fuel param,cX ins,.dead,lB (cf aa (o).1)]) (ah 13 3) (Bf l p ins aa fuel param hq k):=by
 refine bc (λk hk ih p hq hh ho=>?_) (λp hq hh ho=>?_)
 .have q:param-k=(param-(k+1))+1:=by omega
  rw [q] at ho
  refine aF (X:=Ph l) (stop:=xT) (Mv _ _ l p ins aa fuel param hq k ?_)
  rw [dy hk (eA hP (by decide))]
  refine aq (λh3=>?_) (λh3=>(dec_lt h3 hk).elim)
  refine ⟨fE l _ ins hl hI rfl rfl rfl rfl (aH rfl),ay (eE (by omega) (by omega)) (ay (gu _) ⟨fE l _ ins hl hI rfl rfl rfl rfl (aH rfl),ay (eE (by omega) (by omega)) (ay (gu _) ?_)⟩)⟩
  exact ag.rename [0,1,2,3,4,8] rfl (ag.lf (Bf l (vl l p ins).2 ins aa fuel param (dV hq ⟨1,λ_=>(vl l p ins).1⟩) (k+1)) (rc (rc (rc (rc (rc (.cons (Ak hq _) .nil)))))) (ih _ _ (by show hq.n+1<=_; omega) ho))
 .rw [Nat.sub_self] at ho
  refine aF (X:=Ph l) (stop:=xT) (Mv _ _ l p ins aa fuel param hq _ ?_)
  refine aq (λh3=>cj h3) (λh3=>?_)
  have ho:UC l ins fuel (hq,p)=o:=ho
  subst ho
  exact ag.freeze 5 rfl (ag.rename [0,1,2,3,4] rfl (ag.lr (Hp l p ins aa fuel param hq) (Vs l p ins aa fuel param p0 hl hI hE hF hq)))
theorem ag9 (hl:l.n<=maxLen) (hI:ins.n<=1000) (hE:aa.n<=1000) (hF:0<=fuel/\fuel<=1000) (hP:param<=1000):LC 13 [.c (.rt 1 0 0)] [aE l p,aU 0 2 ins.n 3 aa.n fuel param,cX ins,lB aa] (int aa.n) [aE l (lv l p ins fuel param).2,aU 0 2 ins.n 4 (cf aa (lv l p ins fuel param).1).n fuel param,cX ins,.dead,lB (cf aa (lv l p ins fuel param).1)]:=by
 refine cY ap2 (aH (by kernel_rfl)) (cU (X:=Ph l) (stop:=xT) (ao5 _ _ l p ins aa fuel param ?_))
 exact ag.mj 4 2 3 1 _ rfl rfl (ag.lf (Bf l p ins aa fuel param (aK 0) 0) (rc (rc (rc (rc (rc (.cons (tD 3 1 _ _) .nil)))))) (VN l ins aa fuel param p hl hI hE hF hP _ 0 (bn _) p (aK 0) (bn _) rfl))
theorem nl {fuel:Int} {param:Nat} {m q i j:Nat} {RS:List ae} (hl:l.n<=maxLen) (hI:ins.n<=1000:=by first|omega|(simp only [yz]; omega)) (hE:aa.n<=1000:=by first|omega|(simp only [yz]; omega)) (hF:0<=fuel/\fuel<=1000:=by assumption) (hP:param<=1000:=by first|assumption|omega) (hd:gW [m,q,i,j]=true:=by rfl) (h0:aR RS m=some (aE l p):=by rfl) (h1:aR RS q=some (aU m i ins.n j aa.n fuel param):=by rfl) (h2:aR RS i=some (cX ins):=by rfl) (h3:aR RS j=some (lB aa):=by rfl) :
  LC 13 [.c (.rt q 0 0)] RS (int aa.n) (setAt (setAt (setAt (setAt RS m (aE l (lv l p ins fuel param).2)) q (aU m i ins.n RS.length (cf aa (lv l p ins fuel param).1).n fuel param)) i (cX ins)) j .dead++[lB (cf aa (lv l p ins fuel param).1)]):=
 bB.jm (ag9 l p ins aa fuel param hl hI hE hF hP) [m,q,i,j] RS hd ⟨h0,eD h0,h1,eD h1,h2,eD h2,h3,eD h3,rfl⟩
end
open Go Go.V
section
variable (L:LP) (aj l:Sq Int) (aA:Nat) (QE:D->List ae->Prop) (sn:Sq ak->ak->Sq ak) (sx:Sq ai->ai->Sq ai) (f:FuncId) (aB:Sq ak) (p:Nat) (ds:List D) (ins:Sq ak) (rs:List ae) (aa:Sq ai) (fuel:Int) (param:Nat)
def F35:Out:=match ds with
 | [.c (.rt q _ _)]=>match aR rs q with
   | some (.box [.rt m a b,c,d,.sa i n,.sa j ne,.im (.v (.int .i64 fu)),.im (.v (.int .i64 pa))])=>match aR rs m,aR rs i,aR rs j with
     | some (.box [y,.im (.v (.int .i64 p))]),some (.arr _ _ k get),some (.arr _ _ ke ge)=>
       (int (ne:Int),[(m,.box [y,.im (iI (lv l p.toNat ⟨k,λt=>jA (get t)⟩ fu pa.toNat).2)]),(q,.box [.rt m a b,c,d,.sa i n,.sa rs.length (sx ⟨ke,λt=>oB (ge t)⟩ (lv l p.toNat ⟨k,λt=>jA (get t)⟩ fu pa.toNat).1).n,.im (iI fu),.im (iI pa)]),(j,.dead)],
        [lB (sx ⟨ke,λt=>oB (ge t)⟩ (lv l p.toNat ⟨k,λt=>jA (get t)⟩ fu pa.toNat).1)])
     | _,_,_=>tn
   | _=>tn
 | _=>tn
def KK:Sq ByteArray:=⟨2,λi=>bif Nat.beq i 0 then ⟨⟨[120]⟩⟩ else ⟨⟨[121]⟩⟩⟩
def yH:List Nat:=[0,1,2,3,4,5,6,7,8,9,10,11,12,13,14,15,16,17,18,19,20,21,22,23,24,25,26,27,28,29,30]
def X48:gr:={ F:=yg }
def W67:Rd:=match f with
 | 11=>W33 l ds
 | _=>W37 l ds
def F67:Out:=match f with
 | 12=>F34 sn ds rs
 | 13=>F35 l sx ds rs
 | 24=>(iR 1 dF KK,[],[])
 | f=>yg f ds rs
def X67:gr:={ F:=F67 l sn sx,W:=W67 l,S:=yH }
def zI:ak:=⟨0,0,0,0,0,aK 0,⟨0,0,⟨⟨[]⟩⟩⟩,aK ⟨⟨[]⟩⟩,⟨0,0⟩,0,false⟩
def gj:Int×Nat:=bif (nx l (vl l p ins).2 2).1==0 then nx l (nx l (vl l p ins).2 2).2 (param:Int) else ((vl l p ins).1,(nx l (vl l p ins).2 2).2)
def uC (A e:Int):ak:={ zI with op:=7,a:=A,names:=KK,exit:=e }
def eZ:ai×Nat:=lv l (gj l p ins param).2 ins fuel param
def iE (ne:Nat):ak:=uC (gj l p ins param).1 (ne:Int)
theorem jc {l l':List C} (h:az dT l l'):bf (.a l) (.a l'):=by
 rintro E av w v ⟨cs,rfl,hv⟩
 exact ⟨cs,rfl,az.cle h hv⟩
def Z1:Nat->Bool:=cD
theorem ay0:Fn 24:={}
theorem ay3 (QD:D->Prop)  (h:QD (.c (.im (.sl 1 2 (flat 1 [I.v (Value.string { data := #[120] }),I.v (Value.string { data := #[121] })]))))):fG X48 24 Z1 L (cy QD) [] []:=km h
theorem Uu:LC 24 [] [] (iR 1 dF KK) []:=by
 refine pv (X:=X48) (stop:=Z1) ay0 (ay3 _ _ ?_)
 exact λE av w v h=>dK.sl (λi hi j hj=>by
  have hj:j=0:=by omega
  subst hj
  match i,hi with
  | 0,_=>exact dK.refl _
  | 1,_=>exact dK.refl _) av w v h
def Tl:Nat->Bool:=λi=>Nat.beq i 4
theorem aw0:Fn 23:={}
abbrev mw (aT:Sq ai) (bp:Int) (bP:Nat):List ae:=[(aE aj aA),(cH aB aT bp bP),(bq aB),(bK aT)]
abbrev wa:C:=.im (.sl 1 2 (λi=>dF (KK.get i)))
abbrev I4:ae:=.box [(ci 7),(ci ((vl aj aA aB).1)),(ci 0),(ci 0),(ci 0),dO,(ci 0),(ci 0),eR,wa,(ci 0),(ci 0),(ci 0),dn]
abbrev vS:ae:=aE aj ((nx aj (vl aj aA aB).2 2).2)
theorem aw8 (l:Sq Int) (p:Nat) (ins:Sq ak) (aa:Sq ai) (fuel:Int) (param:Nat) (h:(WC 15 dY (mw l p ins aa fuel param) (int ((vl l p ins).1)) 0 (aE l ((vl l p ins).2))/\(LC 24 [] [] (.c wa) []/\(WC 11 ln [(aE l ((vl l p ins).2)),(cH ins aa fuel param),(bq ins),(bK aa),(I4 l p ins)] (int ((nx l (vl l p ins).2 2).1)) 0 (aE l ((nx l (vl l p ins).2 2).2))/\br ((nx l (vl l p ins).2 2).1==0) ((WC 11 [(.c (.rt 0 0 0)),(gS param)] [(vS l p ins),(cH ins aa fuel param),(bq ins),(bK aa),(I4 l p ins),.dead] (int ((nx l (nx l (vl l p ins).2 2).2 (↑param:Int)).1)) 0 (aE l ((nx l (nx l (vl l p ins).2 2).2 (↑param:Int)).2))/\(WC 11 [(.c (.rt 0 0 0)),(gS param)] [(vS l p ins),(cH ins aa fuel param),(bq ins),(bK aa),(I4 l p ins),.dead] (int ((nx l (nx l (vl l p ins).2 2).2 (↑param:Int)).1)) 0 (aE l ((nx l (nx l (vl l p ins).2 2).2 (↑param:Int)).2))/\L (ah 23 4) ⟨[dG,xt],[(aE l ((nx l (nx l (vl l p ins).2 2).2 (↑param:Int)).2)),(cH ins aa fuel param),(bq ins),(bK aa),(.box [(ci 7),(ci ((nx l (nx l (vl l p ins).2 2).2 (↑param:Int)).1)),(ci 0),(ci 0),(ci 0),dO,(ci 0),(ci 0),eR,wa,(ci 0),(ci 0),(ci 0),dn]),.dead],[]⟩))) (L (ah 23 4) ⟨[dG,xt,(13,((bool false),[]))],[(vS l p ins),(cH ins aa fuel param),(bq ins),(bK aa),(I4 l p ins)],[]⟩))))):fG (X67 l sn sx) 23 Tl L QE [.c (.rt 1 0 0)] [aE l p,aU 0 2 ins.n 3 aa.n fuel param,cX ins,lB aa]:=km h
def Cx (sn:Sq ak->ak->Sq ak) (sx:Sq ai->ai->Sq ai) (l:Sq Int) (p:Nat) (ins:Sq ak) (aa:Sq ai) (fuel:Int) (param:Nat) (x:ak):VS:=⟨[pP,(3,.c (.rt 4 0 0),[])],[aE l p,(cH ins aa fuel param),(bq ins),(bK aa),.box (lift (b8 x))],[]⟩
abbrev jF (aj:Sq ai):D:=int (↑aj.1:Int)
abbrev zc (aj:Sq ai->ai->Sq ai) (aA:Sq ai) (aB:Sq Int) (aT:Nat) (bp:Sq ak) (bP:Int) (bU:Nat):ae:=.arr 68 3 ((aj aA (lv aB aT bp bP bU).1).1) (λi=>bG ((aj aA (lv aB aT bp bP bU).1).2 i))
abbrev Gn (aj:ak) (aA:Sq ai):List C:=lift (b8 ({ op:=aj.1,a:=aj.2,b:=aj.3,c:=aj.4,n:=aj.5,args:=aj.6,k:=aj.7,names:=aj.8,place:=aj.9,exit:=Int.ofNat aA.1,once:=aj.11 }))
theorem Wj (l:Sq Int) (p:Nat) (ins:Sq ak) (aa:Sq ai) (fuel:Int) (param:Nat) (x:ak) (h:(LC 13 dY [(aE l p),(cH ins aa fuel param),(bq ins),(bK aa),(dM x)] (jF aa) [(aE l ((lv l p ins fuel param).2)),(aU 0 2 ins.1 5 ((sx aa (lv l p ins fuel param).1).1) fuel (↑param:Int)),(bq ins),.dead,(dM x),(zc sx aa l p ins fuel param)]/\(LC 12 [(.c (.rt 1 0 0)),(.a (Gn x aa))] [(aE l ((lv l p ins fuel param).2)),(aU 0 2 ins.1 5 ((sx aa (lv l p ins fuel param).1).1) fuel (↑param:Int)),(bq ins),.dead,(.box (Gn x aa)),(zc sx aa l p ins fuel param)] (ei ins) [(aE l ((lv l p ins fuel param).2)),(aU 0 6 ((sn ins { op:=x.1,a:=x.2,b:=x.3,c:=x.4,n:=x.5,args:=x.6,k:=x.7,names:=x.8,place:=x.9,exit:=Int.ofNat aa.1,once:=x.11 }).1) 5 ((sx aa (lv l p ins fuel param).1).1) fuel (↑param:Int)),.dead,.dead,(.box (Gn x aa)),(zc sx aa l p ins fuel param),(.arr 40 14 ((sn ins { op:=x.1,a:=x.2,b:=x.3,c:=x.4,n:=x.5,args:=x.6,k:=x.7,names:=x.8,place:=x.9,exit:=Int.ofNat aa.1,once:=x.11 }).1) (λi=>bQ ((sn ins { op:=x.1,a:=x.2,b:=x.3,c:=x.4,n:=x.5,args:=x.6,k:=x.7,names:=x.8,place:=x.9,exit:=Int.ofNat aa.1,once:=x.11 }).2 i)))]/\QE (int x.2) [(aE l ((lv l p ins fuel param).2)),(aU 0 6 ((sn ins { op:=x.1,a:=x.2,b:=x.3,c:=x.4,n:=x.5,args:=x.6,k:=x.7,names:=x.8,place:=x.9,exit:=Int.ofNat aa.1,once:=x.11 }).1) 5 ((sx aa (lv l p ins fuel param).1).1) fuel (↑param:Int)),.dead,.dead,(.box (lift (b8 ({ op:=x.1,a:=x.2,b:=x.3,c:=x.4,n:=x.5,args:=x.6,k:=x.7,names:=x.8,place:=x.9,exit:=Int.ofNat aa.1,once:=x.11 })))),(.arr 68 3 ((sx aa (lv l p ins fuel param).1).1) (λi=>bG ((sx aa (lv l p ins fuel param).1).2 i))),(.arr 40 14 ((sn ins { op:=x.1,a:=x.2,b:=x.3,c:=x.4,n:=x.5,args:=x.6,k:=x.7,names:=x.8,place:=x.9,exit:=Int.ofNat aa.1,once:=x.11 }).1) (λi=>bQ ((sn ins { op:=x.1,a:=x.2,b:=x.3,c:=x.4,n:=x.5,args:=x.6,k:=x.7,names:=x.8,place:=x.9,exit:=Int.ofNat aa.1,once:=x.11 }).2 i)))]))):cW (X67 l sn sx) 23 Tl L QE 4 (Cx sn sx l p ins aa fuel param x):=km h
theorem Qe (p0:Nat) (hl:l.n<=maxLen) (hI:ins.n<=900) (hE:aa.n<=900) (hF:0<=fuel/\fuel<=1000) (hP:param<=1000) (x:ak) (A:Int) (q:Nat) (hx:(A,q)=gj l p0 ins param) (hx1:x=uC A 0) (hq:p=q):ag 23 4 (cd [aE l p0,aU 0 2 ins.n 3 aa.n fuel param,cX ins,lB aa] (int (iE l p0 ins param aa.n).a) [aE l (eZ l p0 ins fuel param).2,aU 0 5 (bD ins (iE l p0 ins param aa.n)).n 4 (cf aa (eZ l p0 ins fuel param).1).n fuel param,.dead,.dead,lB (cf aa (eZ l p0 ins fuel param).1),cX (bD ins (iE l p0 ins param aa.n))]) (ah 23 4) (Cx bD cf l p ins aa fuel param x):=by
 subst hq
 subst hx1
 refine aF (X:=X67 l bD cf) (stop:=Tl) (Wj _ _ bD cf l p ins aa fuel param (uC A 0) ⟨nl (m:=0) (q:=1) (i:=2) (j:=3) l _ ins aa hl (by omega) (by omega) hF hP rfl rfl rfl rfl rfl,eO (m:=0) (q:=1) (i:=2) (j:=5) ins (uC A aa.n) (by omega) (bf.refl _) rfl (aH rfl) rfl rfl (aH rfl),?_⟩)
 rw [show eZ l p0 ins fuel param=lv l p ins fuel param from by unfold eZ; rw [<- hx],show iE l p0 ins param aa.n=uC A aa.n from by unfold iE; rw [<- hx]]
 exact ⟨[0,1,2,3,5,6],int A,_,_,rfl,(rc (rc (rc (rc (rc (rc .nil)))))),⟨6,aH rfl,aH rfl,rfl,rfl,bf.refl _,⟨.inr rfl,⟨.inr rfl,⟨.inr rfl,⟨.inr rfl,⟨rfl,⟨rfl,trivial⟩⟩⟩⟩⟩⟩⟩⟩
theorem Zw (hl:l.n<=maxLen) (hI:ins.n<=900) (hE:aa.n<=900) (hF:0<=fuel/\fuel<=1000) (hP:param<=1000):LC 23 [.c (.rt 1 0 0)] [aE l p,aU 0 2 ins.n 3 aa.n fuel param,cX ins,lB aa] (int (gj l p ins param).1) [aE l (eZ l p ins fuel param).2,aU 0 5 (bD ins (iE l p ins param aa.n)).n 4 (cf aa (eZ l p ins fuel param).1).n fuel param,.dead,.dead,lB (cf aa (eZ l p ins fuel param).1),cX (bD ins (iE l p ins param aa.n))]:=by
 refine cY aw0 (aH (by kernel_rfl)) (cU (X:=X67 l bD cf) (stop:=Tl) (aw8 _ _ bD cf l p ins aa fuel param ⟨fE l _ ins hl (by omega) rfl rfl rfl rfl (aH rfl),Uu,eo l _ _ hl rfl,?_⟩))
 refine aq (λh=>?_) (λh=>?_)
 .have e:gj l p ins param=nx l (nx l (vl l p ins).2 2).2 (param:Int):=by grind [gj]
  refine ⟨eo l _ _ hl rfl,eo l _ _ hl rfl,?_⟩
  exact ag.rename [0,1,2,3,4] rfl (ag.lf (Cx bD cf l (nx l (nx l (vl l p ins).2 2).2 (param:Int)).2 ins aa fuel param (uC (nx l (nx l (vl l p ins).2 2).2 (param:Int)).1 0)) (rc (rc (rc (rc (.cons (bZ.box (by repeat' (first|exact az.nil|refine az.cons ?_ ?_|exact dT.refl _|exact dT.nil _ _))) .nil))))) (Qe l _ ins aa fuel param p hl hI hE hF hP _ _ _ e.symm rfl rfl))
 .have e:gj l p ins param=((vl l p ins).1,(nx l (vl l p ins).2 2).2):=by grind [gj]
  exact ag.lf (Cx bD cf l (nx l (vl l p ins).2 2).2 ins aa fuel param (uC (vl l p ins).1 0)) (rc (rc (rc (rc (.cons (bZ.box (by repeat' (first|exact az.nil|refine az.cons ?_ ?_|exact dT.refl _|exact dT.nil _ _))) .nil))))) (Qe l _ ins aa fuel param p hl hI hE hF hP _ _ _ e.symm rfl rfl)
theorem Ua {m q i j:Nat} {RS:List ae} (hl:l.n<=maxLen) (hI:ins.n<=900) (hE:aa.n<=900) (hF:0<=fuel/\fuel<=1000) (hP:param<=1000) (hd:gW [m,q,i,j]=true) (h0:aR RS m=some (aE l p)) (h1:aR RS q=some (aU m i ins.n j aa.n fuel param)) (h2:aR RS i=some (cX ins)) (h3:aR RS j=some (lB aa)) :
  LC 23 [.c (.rt q 0 0)] RS (int (gj l p ins param).1) (setAt (setAt (setAt (setAt RS m (aE l (eZ l p ins fuel param).2)) q (aU m (RS.length+1) (bD ins (iE l p ins param aa.n)).n RS.length (cf aa (eZ l p ins fuel param).1).n fuel param)) i .dead) j .dead++[lB (cf aa (eZ l p ins fuel param).1),cX (bD ins (iE l p ins param aa.n))]):=
 bB.jm (Zw l p ins aa fuel param hl hI hE hF hP) [m,q,i,j] RS hd ⟨h0,eD h0,h1,eD h1,h2,eD h2,h3,eD h3,rfl⟩
end
end
end Go.Proofs.Ytapefhcmohbmaaa
