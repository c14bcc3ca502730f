/- Loops: what is to be shown. -/
import Derived.Test.YtgbbdaegmfjahaaGreatP6
import Derived.Test.YtgbbdaegmfjahaaGreatP5
import Derived.Test.YtgbbdaegmfjahaaGreatP4
set_option linter.unusedVariables false
set_option linter.unusedSimpArgs false
set_option maxRecDepth 1000000
namespace Go.Proofs.YtgbbdaegmfjahaaGreat
open Go Go.V
noncomputable section
def cy (s:Sq au) (x:au):Sq au:=eA s ⟨1,λ_=>x⟩
def cH (s:Sq aq) (x:aq):Sq aq:=eA s ⟨1,λ_=>x⟩
theorem B5:(∀ (s:Sq au) (x:au),(cy s x).n=s.n+1)/\(∀ (s:Sq aq) (x:aq),(cH s x).n=s.n+1):=⟨λ_ _=>rfl,λ_ _=>rfl⟩
def vR:Out:=(.t [],[],[])
section
variable (l:Sq Int) {n:Nat} (ins:Sq au)
def F34 (sn:Sq au->au->Sq au) (ds:List D) (rs:List ah):Out:=match ds with
 | [.c (.rt q _ _),x]=>match bh rs q with
   | some (.box [m,a,b,.sa i n,e,fu,pa])=>match bh rs i with
     | some (.arr _ _ k get)=>(int (n:Int),[(q,.box [m,a,b,.sa rs.length (sn ⟨k,λj=>kL (get j)⟩ (kL (gD x))).n,e,fu,pa]),(i,.dead)],[aP (sn ⟨k,λj=>kL (get j)⟩ (kL (gD x)))])
     | _=>vR
   | _=>vR
 | _=>vR
def W37 (ds:List D):Rd:=match ds with
 | [.c (.rt q _ _)]=>.get q λx=>match x with
   | .box [.rt m _ _,_,_,.sa i _,_,_,_]=>.get m λy=>match y with
     | .box [y,.im (.v (.int .i64 p))]=>.get i λz=>match z with
       | .arr _ _ k get=>.ret (int (vl l p.toNat ⟨k,λj=>kL (get j)⟩).1,m,.box [y,.im (iI (vl l p.toNat ⟨k,λj=>kL (get j)⟩).2)])
       | _=>.no
     | _=>.no
   | _=>.no
 | _=>.no
def X34:eU:={ F:=pY }
def Wh:eU:={ F:=pY,W:=λf ds=>match f with
 | 33=>W33 l ds
 | _=>W37 l ds }
theorem cD.sl {sz:Nat} {get get':Nat->Nat->I} (h:∀ i,i<n->∀ j,j<sz->cD (get i j) (get' i j)):cD (.sl sz n get) (.sl sz n get'):=by
 rintro av w v ⟨a,cap,rfl,h1,h2,h3⟩
 refine ⟨a,cap,rfl,h1,h2,λh0=>?_⟩
 obtain ⟨ad,q1,q2,q3,q4,q5⟩:=h3 h0
 refine ⟨ad,q1,q2,q3,q4,λi hi j hj=>?_⟩
 obtain ⟨x,p1,p2⟩:=q5 i hi j hj
 exact ⟨x,p1,h i hi j hj av w x p2⟩
theorem pE:∀ {l:List I} {j:Nat},j<l.length->iR l j=ixI l j
 | [],j,h=>absurd h (Nat.not_lt_zero _)
 | x::l,0,_=>rfl
 | x::l,j+1,h=>pE (l:=l) (j:=j) (by simpa using h)
theorem rE {α:Type} (el sz:Nat) (s:Sq α) (x:α) (e:α->Nat->I) (is:List I) (h:∀ j,j<sz->cD (iR is j) (e x j)):aY (.arr el sz (s.n+1) (fZ s.n (λi=>e (s.get i)) (flat sz is))) (.arr el sz (eA s ⟨1,λ_=>x⟩).n λi=>e ((eA s ⟨1,λ_=>x⟩).get i)):=by
 rw [<- Gp s ⟨1,λ_=>x⟩ e]
 refine aY.arr λi hi j hj=>?_
 show cD (Bool.rec (flat sz is (i-s.n) j) (e (s.get i) j) (Nat.blt i s.n):I) (Bool.rec (e x j) (e (s.get i) j) (Nat.blt i s.n):I)
 cases hb:Nat.blt i s.n with
 | true=>exact cD.refl _
 | false=>
   have:i-s.n=0:=by
    grind
   rw [this]
   show cD (iR is (0*sz+j)) (e x j)
   grind
theorem aq8 (s:Sq au) (x:au):aY (.arr 52 14 (s.n+1) (fZ s.n (λi=>gw (s.get i)) (flat 14 (bW x)))) (aP (cy s x)):=
 rE 52 14 s x gw (bW x) λj hj=>by rw [pE (l:=bW x) hj]; exact cD.refl _
theorem aE8 (s:Sq aq) (x:aq):aY (.arr 57 3 (s.n+1) (fZ s.n (λi=>dQ (s.get i)) (flat 3 (bJ x)))) (cl (cH s x)):=
 rE 57 3 s x dQ (bJ x) λj hj=>by rw [pE (l:=bJ x) hj]; exact cD.refl _
theorem Cl (h:n<=1000):IntKind.i64.wrap (((n+1:Nat):Int)-1)=(n:Int):=by
 grind [nG]
def lvV (l:Sq Int) (ins:Sq au):Nat->Nat->Sq Int->Sq Int×Nat
 | 0,p,h=>(h,p)
 | m+1,p,h=>lvV l ins m (vl l p ins).2 (eA h ⟨1,λ_=>(vl l p ins).1⟩)
def fr2 (v:Int):cK:=⟨1,2,⟨2,λi=>bif Nat.beq i 0 then -1 else v⟩⟩
def zV:cZ:=⟨0,0,aH ⟨⟨[]⟩⟩,aH 0⟩
def lv7 (fr:cK) (back:Int) (p:Nat):aq×Nat:=
 bif (nx l p 5).1==0 then (⟨eA ⟨1,λ_=>fr⟩ ⟨1,λ_=>fr2 (vl l (nx l p 5).2 ins).1⟩,aH zV,back⟩,(vl l (nx l p 5).2 ins).2) else (⟨⟨1,λ_=>fr⟩,aH zV,back⟩,(nx l p 5).2)
def lv6 (fuel:Int) (v:Sq Int×Nat):aq×Nat:=lv7 l ins ⟨0,0,v.1⟩ (nx l v.2 (fuel+1)).1 (nx l v.2 (fuel+1)).2
def lv (p:Nat) (ins:Sq au) (fuel:Int) (param:Nat):aq×Nat:=lv6 l ins fuel (lvV l ins param p (aH 0))
end
section
variable (L:LP) (QE:D->List ah->Prop) (l:Sq Int) (p:Nat) (ins:Sq au) (aa:Sq aq) (fuel:Int) (param:Nat) (hq:Sq Int) (fr:cK) (k:Nat) (back:Int) (ex:aq)
def bi0:Nat->Bool:=bH
theorem bs1:Fn 34:={}
theorem bw4 (ne:Nat) (fuel param:Int) (x:au) (h:nd (cw (ins.1+1) 152) (nd (ins.1.beq ins.1) (nd (cw (ins.1+1) 152) (nd (ins.1.beq ins.1) (QE (int (IntKind.i64.wrap ((↑(ins.1+1):Int)-1))) [.dead,(bm 0 6 (.succ ins.1) 3 ne fuel param),.dead,.dead,(.box (lift (bW (x)))),(.row 52 14 1 (lift (bW (x)))),(.arr 52 14 (ins.1+1) (fZ ins.1 (λi=>gw (ins.2 i)) (1,flat 14 [iI x.1,iI x.2,iI x.3,iI x.4,iI x.5,xT 1 bn x.6,iI x.7.1,iI x.7.2,iS x.7.3,xT 1 cA x.8,iI x.9.1,iI x.9.2,iI x.10,iB x.11]).snd))]))))):ep X34 34 bi0 L QE [.c (.rt 1 0 0),fk x] [.dead,bm 0 2 ins.n 3 ne fuel param,aP ins,.dead]:=km h
theorem aS1 (ne:Nat) (fuel param:Int) (x:au) (hI:ins.n<=1000):LC 34 [.c (.rt 1 0 0),fk x] [.dead,bm 0 2 ins.n 3 ne fuel param,aP ins,.dead] (int ins.n) [.dead,bm 0 4 (cy ins x).n 3 ne fuel param,.dead,.dead,aP (cy ins x)]:=by
 refine cM bs1 (aQ (by kernel_rfl)) (cY (X:=X34) (stop:=bi0) (bw4 _ _ ins ne fuel param x ?_))
 refine ai (bO (by omega) (by omega)) (ai (dv _) (ai (bO (by omega) (by omega)) (ai (dv _) ?_)))
 rw [Cl hI]
 exact ⟨[0,1,2,3,6],int ins.n,_,_,rfl,(rc (rc (rc (rc (.cons (aq8 ins x) .nil))))),⟨5,aQ rfl,aQ rfl,rfl,rfl,aX.refl _,⟨.inl (.inl rfl),⟨.inr rfl,⟨.inr rfl,⟨.inl (.inl rfl),⟨rfl,trivial⟩⟩⟩⟩⟩⟩⟩
theorem fq (x:au) {xd:D} {ne:Nat} {fuel param:Int} {m q i j:Nat} {RS:List ah} (hI:ins.n<=1000:=by first|omega|(simp only [B5]; omega)) (hx:aX xd (fk x):=by first|exact aX.refl _|exact jK (by repeat' (first|exact aF.nil|refine aF.cons ?_ ?_|exact dI.refl _|exact dI.nil _ _))) (hd:jj [m,q,i,j]=true:=by rfl) (h0:m<RS.length:=by exact aQ rfl) (h1:bh RS q=some (bm m i ins.n j ne fuel param):=by rfl) (h2:bh RS i=some (aP ins):=by rfl) (h3:j<RS.length:=by exact aQ rfl) :
  LC 34 [.c (.rt q 0 0),xd] RS (int ins.n) (setAt (setAt RS q (bm m RS.length (cy ins x).n j ne fuel param)) i .dead++[aP (cy ins x)]):=
 bt.pre (bt.gQ (aS1 ins ne fuel param x hI) [m,q,i,j] RS hd ⟨rfl,h0,h1,fi h1,h2,fi h2,rfl,h3,rfl⟩) (.cons (aX.refl _) (.cons hx .nil))
def z8:Nat->Bool:=λi=>Nat.beq i 3||Nat.beq i 6||Nat.beq i 7||Nat.beq i 9
theorem bq8:Fn 35:={}
abbrev zb:eQ:=(3,((.c (.rt 4 0 0)),[]))
abbrev dz (aj:Sq au) (ax:Sq aq) (aJ:Int) (aZ:Nat):ah:=bm 0 2 aj.1 3 ax.1 aJ (↑aZ:Int)
theorem bu7 (h:L (af 35 3) ⟨[eE,zb,vD],[(aL l p),(dz ins aa fuel param),(aP ins),(cl aa),(.box [(ci 0),(ci 0),bS])],[]⟩):ep (Wh l) 35 z8 L QE [.c (.rt 1 0 0)] [aL l p,bm 0 2 ins.n 3 aa.n fuel param,aP ins,cl aa]:=km h
def EH:VS:=⟨[sS,(3,(.c (.rt 4 0 0)),[]),(4,int k,[])],[(aL l p),(dz ins aa fuel param),(aP ins),(cl aa),.box [.im (iI 0),.im (iI 0),.sa 5 hq.n],.arr 3 1 hq.n (λi=>bn (hq.get i))],[]⟩
abbrev eR:List D:=[(.c (.rt 1 0 0))]
theorem Ww (h:br (decide ((↑k:Int)<(↑param:Int))) ((WC 37 eR [(aL l p),(dz ins aa fuel param),(aP ins),(cl aa),(.box [(ci 0),(ci 0),(.sa 5 hq.1)]),(eJ hq),.dead,.dead,.dead] (int ((vl l p ins).1)) 0 (aL l ((vl l p ins).2))/\nd (cw (hq.1+1) 8) (nd (hq.1.beq hq.1) ((WC 37 eR [(aL l p),(dz ins aa fuel param),(aP ins),(cl aa),(.box [(ci 0),(ci 0),(.sa 5 hq.1)]),(eJ hq),.dead,.dead,.dead] (int ((vl l p ins).1)) 0 (aL l ((vl l p ins).2))/\nd (cw (hq.1+1) 8) (nd (hq.1.beq hq.1) (L (af 35 3) ⟨[eE,zb,(4,((int (IntKind.i64.wrap ((↑k:Int)+1))),[]))],[(aL l ((vl l p ins).2)),(dz ins aa fuel param),(aP ins),(cl aa),(.box [(ci 0),(ci 0),(.sa 8 (.succ hq.1))]),.dead,.dead,(.row 3 1 1 [(ci ((vl l p ins).1))]),(.arr 3 1 (hq.1+1) (fZ hq.1 (λi=>bn (hq.2 i)) (1,flat 1 [I.v (Value.int IntKind.i64 (vl l p ins).1)]).snd))],[]⟩))))))) (L (af 35 6) ⟨[eE,zb,(4,((int (↑k:Int)),[])),(12,((bool false),[]))],[(aL l p),(dz ins aa fuel param),(aP ins),(cl aa),(.box [(ci 0),(ci 0),(.sa 5 hq.1)]),(eJ hq)],[]⟩)):b5 (Wh l) 35 z8 L QE 3 (EH l p ins aa fuel param hq k):=km h
def Lm:VS:=⟨[sS,(3,(.c (.rt 4 0 0)),[])],[(aL l p),(dz ins aa fuel param),(aP ins),(cl aa),.box (lift (mS ⟨0,0,hq⟩))],[]⟩
abbrev zM (aj:Sq Int):List C:=lift (mS ({ fn:=Int.ofNat 0,line:=Int.ofNat 0,vars:=aj }))
theorem aF1 (h:(WC 33 [(.c (.rt 0 0 0)),(int (IntKind.i64.wrap (fuel+1)))] [(aL l p),(dz ins aa fuel param),(aP ins),(cl aa),(.box (zM hq)),(.row 92 3 1 (zM hq)),.dead,.dead] (int ((nx l p (IntKind.i64.wrap (fuel+1))).1)) 0 (aL l ((nx l p (IntKind.i64.wrap (fuel+1))).2))/\(WC 33 [(.c (.rt 0 0 0)),(int (IntKind.i64.wrap (fuel+1)))] [(aL l p),(dz ins aa fuel param),(aP ins),(cl aa),(.box (zM hq)),.dead,.dead,.dead] (int ((nx l p (IntKind.i64.wrap (fuel+1))).1)) 0 (aL l ((nx l p (IntKind.i64.wrap (fuel+1))).2))/\L (af 35 7) ⟨[eE,(5,((.c (.rt 7 0 0)),[]))],[(aL l ((nx l p (IntKind.i64.wrap (fuel+1))).2)),(dz ins aa fuel param),(aP ins),(cl aa),(.box (zM hq)),(.row 92 3 1 (zM hq)),.dead,(.box [(.sa 5 1),bS,(ci ((nx l p (IntKind.i64.wrap (fuel+1))).1))])],[]⟩))):b5 (Wh l) 35 z8 L QE 6 (Lm l p ins aa fuel param hq):=km h
abbrev lU:eQ:=(5,.c (.rt 4 0 0),[])
def L7:VS:=⟨[sS,lU],[aL l p,(dz ins aa fuel param),(aP ins),(cl aa),.box [.sa 5 1,.im (.v (.slice .none 0 0)),.im (iI back)],.arr 92 3 1 (λ_=>dD fr)],[]⟩
abbrev D6 (aj:Int):ah:=.box [(.sa 5 1),bS,(ci aj)]
abbrev Di (aj:cK):ah:=.arr 92 3 1 (λx=>dD aj)
abbrev di:eQ:=(5,((.c (.rt 4 0 0)),[]))
theorem av3 (h:(WC 33 [(.c (.rt 0 0 0)),(int 5)] [(aL l p),(dz ins aa fuel param),(aP ins),(cl aa),(D6 back),(Di fr)] (int ((nx l p 5).1)) 0 (aL l ((nx l p 5).2))/\br ((nx l p 5).1==0) ((WC 37 eR [(aL l ((nx l p 5).2)),(dz ins aa fuel param),(aP ins),(cl aa),(D6 back),(Di fr),.dead,.dead,.dead,.dead] (int ((vl l (nx l p 5).2 ins).1)) 0 (aL l ((vl l (nx l p 5).2 ins).2))/\(WC 37 eR [(aL l ((nx l p 5).2)),(dz ins aa fuel param),(aP ins),(cl aa),(D6 back),(Di fr),.dead,.dead,.dead,.dead] (int ((vl l (nx l p 5).2 ins).1)) 0 (aL l ((vl l (nx l p 5).2 ins).2))/\L (af 35 9) ⟨[eE,di],[(aL l ((vl l (nx l p 5).2 ins).2)),(dz ins aa fuel param),(aP ins),(cl aa),(.box [(.sa 9 2),bS,(ci back)]),.dead,.dead,.dead,(.row 92 3 1 [(ci 1),(ci 2),(.im (.sl 1 2 (flat 1 [I.v (Value.int IntKind.i64 (-1)),I.v (Value.int IntKind.i64 (vl l (nx l p 5).2 ins).1)])))]),(.arr 92 3 2 (fZ 1 (λx=>dD fr) (1,flat 3 [I.v (Value.int IntKind.i64 1),I.v (Value.int IntKind.i64 2),I.sl 1 2 (flat 1 [I.v (Value.int IntKind.i64 (-1)),I.v (Value.int IntKind.i64 (vl l (nx l p 5).2 ins).1)])]).snd))],[]⟩))) (L (af 35 9) ⟨[eE,di,(40,((bool false),[]))],[(aL l ((nx l p 5).2)),(dz ins aa fuel param),(aP ins),(cl aa),(D6 back),(Di fr)],[]⟩))):b5 (Wh l) 35 z8 L QE 7 (L7 l p ins aa fuel param fr back):=km h
def Fv:VS:=⟨[sS,lU],[aL l p,(dz ins aa fuel param),(aP ins),(cl aa),.box (lift (bJ ex))],[]⟩
theorem ax8 (h:nd (cw (aa.1+1) 56) (nd (aa.1.beq aa.1) (nd (cw (aa.1+1) 56) (nd (aa.1.beq aa.1) (QE (int (IntKind.i64.wrap ((↑(aa.1+1):Int)-1))) [(aL l p),(bm 0 2 ins.1 6 (.succ aa.1) fuel (↑param:Int)),(aP ins),.dead,(.box (lift (bJ (ex)))),(.row 57 3 1 (lift (bJ (ex)))),(.arr 57 3 (aa.1+1) (fZ aa.1 (λi=>dQ (aa.2 i)) (1,flat 3 [xT 3 dD ex.1,xT 4 ff ex.2,iI ex.3]).snd))]))))):b5 (Wh l) 35 z8 L QE 9 (Fv l p ins aa fuel param ex):=km h
theorem VP (p0:Nat) (hl:l.n<=maxLen) (hI:ins.n<=1000) (hE:aa.n<=1000) (hF:0<=fuel/\fuel<=1000) (ex:aq):ae 35 4 (bA [aL l p0,bm 0 2 ins.n 3 aa.n fuel param,aP ins,cl aa] (int aa.n) [aL l ((ex,p)).2,bm 0 2 ins.n 4 (cH aa ((ex,p)).1).n fuel param,aP ins,.dead,cl (cH aa ((ex,p)).1)]) (af 35 9) (Fv l p ins aa fuel param ex):=by
 refine aG (X:=Wh l) (stop:=z8) (ax8 _ _ l p ins aa fuel param ex ?_)
 refine ai (bO (by omega) (by omega)) (ai (dv _) (ai (bO (by omega) (by omega)) (ai (dv _) ?_)))
 rw [Cl hE]
 exact ⟨[0,1,2,3,6],int aa.n,_,_,rfl,(rc (rc (rc (rc (.cons (aE8 aa ex) .nil))))),⟨5,aQ rfl,aQ rfl,rfl,rfl,aX.refl _,⟨.inr rfl,⟨.inr rfl,⟨.inl (.inl rfl),⟨.inr rfl,⟨rfl,trivial⟩⟩⟩⟩⟩⟩⟩
theorem aJ8 (v:Int):∀ i,i<1->∀ j,j<3->cD (flat 3 [I.v (Value.int IntKind.i64 1),I.v (Value.int IntKind.i64 2),I.sl 1 2 (flat 1 [I.v (Value.int IntKind.i64 (-1)),I.v (Value.int IntKind.i64 v)])] i j) (dD (fr2 v) j):=by
 intro i hi j hj
 have hi:i=0:=by omega
 subst hi
 match j,hj with
 | 0,_=>exact cD.refl _
 | 1,_=>exact cD.refl _
 | 2,_=>
   refine cD.sl λa ha b hb=>?_
   have hb:b=0:=by omega
   subst hb
   match a,ha with
   | 0,_=>exact cD.refl _
   | 1,_=>exact cD.refl _
end
section
variable (l:Sq Int) (p:Nat) (ins:Sq au) (aa:Sq aq) (fuel:Int) (param p0:Nat)
theorem ax1 (hl:l.n<=maxLen) (hI:ins.n<=1000) (hE:aa.n<=1000) (hF:0<=fuel/\fuel<=1000) (fr:cK) (back:Int):ae 35 4 (bA [aL l p0,bm 0 2 ins.n 3 aa.n fuel param,aP ins,cl aa] (int aa.n) [aL l (lv7 l ins fr back p).2,bm 0 2 ins.n 4 (cH aa (lv7 l ins fr back p).1).n fuel param,aP ins,.dead,cl (cH aa (lv7 l ins fr back p).1)]) (af 35 7) (L7 l p ins aa fuel param fr back):=by
 refine aG (X:=Wh l) (stop:=z8) (av3 _ _ l p ins aa fuel param fr back ⟨e5 l _ _ hl rfl,?_⟩)
 refine ag (λh=>?_) (λh=>?_)
 .refine ⟨gr l _ ins hl hI rfl rfl rfl rfl (aQ rfl),gr l _ ins hl hI rfl rfl rfl rfl (aQ rfl),?_⟩
  rw [show lv7 l ins fr back p=(⟨eA ⟨1,λ_=>fr⟩ ⟨1,λ_=>fr2 (vl l (nx l p 5).2 ins).1⟩,aH zV,back⟩,(vl l (nx l p 5).2 ins).2) from by grind [lv7]]
  refine ae.freeze 9 rfl (ae.rename [0,1,2,3,4] rfl (ae.lf (Fv l (vl l (nx l p 5).2 ins).2 ins aa fuel param ⟨eA ⟨1,λ_=>fr⟩ ⟨1,λ_=>fr2 (vl l (nx l p 5).2 ins).1⟩,aH zV,back⟩) (rc (rc (rc (rc (.cons (aY.box (.cons (dI.im (cD.sl λi hi j hj=>?_)) (.cons (dI.nil _ _) (.cons (dI.refl _) .nil)))) .nil))))) (VP l (vl l (nx l p 5).2 ins).2 ins aa fuel param p0 hl hI hE hF _)))
  show cD (Bool.rec (flat 3 [I.v (Value.int IntKind.i64 1),I.v (Value.int IntKind.i64 2),I.sl 1 2 (flat 1 [I.v (Value.int IntKind.i64 (-1)),I.v (Value.int IntKind.i64 (vl l (nx l p 5).2 ins).1)])] (i-1) j) (dD fr j) (Nat.blt i 1):I) (dD (Bool.rec (fr2 (vl l (nx l p 5).2 ins).1) fr (Nat.blt i 1)) j)
  cases Nat.blt i 1 with
  | true=>exact cD.refl _
  | false=>exact aJ8 _ _ (by omega) j hj
 .rw [show lv7 l ins fr back p=(⟨⟨1,λ_=>fr⟩,aH zV,back⟩,(nx l p 5).2) from by grind [lv7]]
  exact ae.freeze 5 rfl (ae.rename [0,1,2,3,4] rfl (ae.lf (Fv l (nx l p 5).2 ins aa fuel param ⟨⟨1,λ_=>fr⟩,aH zV,back⟩) (rc (rc (rc (rc (.cons (aY.box (.cons (dI.refl _) (.cons (dI.nil _ _) (.cons (dI.refl _) .nil)))) .nil))))) (VP l (nx l p 5).2 ins aa fuel param p0 hl hI hE hF _)))
theorem Za (x:cK):∀ i,i<1->∀ j,j<3->(lift (mS x))[i*3+j]?=some (.im (dD x j)):=by
 intro i hi j hj
 have hi:i=0:=by omega
 subst hi
 match j,hj with
 | 0,_=>rfl
 | 1,_=>rfl
 | 2,_=>rfl
theorem as5 (hl:l.n<=maxLen) (hI:ins.n<=1000) (hE:aa.n<=1000) (hF:0<=fuel/\fuel<=1000) (hq:Sq Int):ae 35 4 (bA [aL l p0,bm 0 2 ins.n 3 aa.n fuel param,aP ins,cl aa] (int aa.n) [aL l (lv6 l ins fuel (hq,p)).2,bm 0 2 ins.n 4 (cH aa (lv6 l ins fuel (hq,p)).1).n fuel param,aP ins,.dead,cl (cH aa (lv6 l ins fuel (hq,p)).1)]) (af 35 6) (Lm l p ins aa fuel param hq):=by
 refine aG (X:=Wh l) (stop:=z8) (aF1 _ _ l p ins aa fuel param hq ?_)
 rw [iT (k:=fuel+1) (by omega) (by omega)]
 refine ⟨e5 l _ _ hl rfl,e5 l _ _ hl rfl,?_⟩
 exact ae.rename [0,1,2,3,7,5] rfl (ae.lf (L7 l (nx l p (fuel+1)).2 ins aa fuel param ⟨0,0,hq⟩ (nx l p (fuel+1)).1) (rc (rc (rc (rc (rc (.cons (aY.row (Za ⟨0,0,hq⟩)) .nil)))))) (ax1 l (nx l p (fuel+1)).2 ins aa fuel param p0 hl hI hE hF ⟨0,0,hq⟩ (nx l p (fuel+1)).1))
theorem as8 (hl:l.n<=maxLen) (hI:ins.n<=1000) (hE:aa.n<=1000) (hF:0<=fuel/\fuel<=1000) (hP:param<=1000) (o:aq×Nat):∀ k,k<=param->∀ (p:Nat) (hq:Sq Int),hq.n<=k->lv6 l ins fuel (lvV l ins (param-k) p hq)=o->ae 35 4 (bA [aL l p0,bm 0 2 ins.n 3 aa.n fuel param,aP ins,cl aa] (int aa.n) [aL l (o).2,bm 0 2 ins.n 4 (cH aa (o).1).n fuel param,aP ins,.dead,cl (cH aa (o).1)]) (af 35 3) (EH l p ins aa fuel param hq k):=by
 refine aN (λk hk ih p hq hh ho=>?_) (λp hq hh ho=>?_)
 .have q:param-k=(param-(k+1))+1:=by omega
  rw [q] at ho
  refine aG (X:=Wh l) (stop:=z8) (Ww _ _ l p ins aa fuel param hq k ?_)
  rw [b6 hk (cT hP (by decide))]
  refine ag (λh3=>?_) (λh3=>(dec_lt h3 hk).elim)
  refine ⟨gr l _ ins hl hI rfl rfl rfl rfl (aQ rfl),ai (bO (by omega) (by omega)) (ai (dv _) ⟨gr l _ ins hl hI rfl rfl rfl rfl (aQ rfl),ai (bO (by omega) (by omega)) (ai (dv _) ?_)⟩)⟩
  exact ae.rename [0,1,2,3,4,8] rfl (ae.lf (EH l (vl l p ins).2 ins aa fuel param (eA hq ⟨1,λ_=>(vl l p ins).1⟩) (k+1)) (rc (rc (rc (rc (rc (.cons (DS hq _) .nil)))))) (ih _ _ (by show hq.n+1<=_; omega) ho))
 .rw [Nat.sub_self] at ho
  refine aG (X:=Wh l) (stop:=z8) (Ww _ _ l p ins aa fuel param hq _ ?_)
  refine ag (λh3=>bq h3) (λh3=>?_)
  have ho:lv6 l ins fuel (hq,p)=o:=ho
  subst ho
  exact ae.freeze 5 rfl (ae.rename [0,1,2,3,4] rfl (ae.lr (Lm l p ins aa fuel param hq) (as5 l p ins aa fuel param p0 hl hI hE hF hq)))
theorem bb0 (hl:l.n<=maxLen) (hI:ins.n<=1000) (hE:aa.n<=1000) (hF:0<=fuel/\fuel<=1000) (hP:param<=1000):LC 35 [.c (.rt 1 0 0)] [aL l p,bm 0 2 ins.n 3 aa.n fuel param,aP ins,cl aa] (int aa.n) [aL l (lv l p ins fuel param).2,bm 0 2 ins.n 4 (cH aa (lv l p ins fuel param).1).n fuel param,aP ins,.dead,cl (cH aa (lv l p ins fuel param).1)]:=by
 refine cM bq8 (aQ (by kernel_rfl)) (cY (X:=Wh l) (stop:=z8) (bu7 _ _ l p ins aa fuel param ?_))
 exact ae.iQ 4 2 3 1 _ rfl rfl (ae.lf (EH l p ins aa fuel param (aH 0) 0) (rc (rc (rc (rc (rc (.cons (qp 3 1 _ _) .nil)))))) (as8 l ins aa fuel param p hl hI hE hF hP _ 0 (bk _) p (aH 0) (bk _) rfl))
theorem pJ {fuel:Int} {param:Nat} {m q i j:Nat} {RS:List ah} (hl:l.n<=maxLen) (hI:ins.n<=1000:=by first|omega|(simp only [B5]; omega)) (hE:aa.n<=1000:=by first|omega|(simp only [B5]; omega)) (hF:0<=fuel/\fuel<=1000:=by assumption) (hP:param<=1000:=by first|assumption|omega) (hd:jj [m,q,i,j]=true:=by rfl) (h0:bh RS m=some (aL l p):=by rfl) (h1:bh RS q=some (bm m i ins.n j aa.n fuel param):=by rfl) (h2:bh RS i=some (aP ins):=by rfl) (h3:bh RS j=some (cl aa):=by rfl) :
  LC 35 [.c (.rt q 0 0)] RS (int aa.n) (setAt (setAt (setAt (setAt RS m (aL l (lv l p ins fuel param).2)) q (bm m i ins.n RS.length (cH aa (lv l p ins fuel param).1).n fuel param)) i (aP ins)) j .dead++[cl (cH aa (lv l p ins fuel param).1)]):=
 bt.gQ (bb0 l p ins aa fuel param hl hI hE hF hP) [m,q,i,j] RS hd ⟨h0,fi h0,h1,fi h1,h2,fi h2,h3,fi h3,rfl⟩
end
open Go Go.V
section
variable (L:LP) (aj l:Sq Int) (ax:Nat) (QE:D->List ah->Prop) (sn:Sq au->au->Sq au) (sx:Sq aq->aq->Sq aq) (f:FuncId) (aJ:Sq au) (p:Nat) (ds:List D) (ins:Sq au) (rs:List ah) (aa:Sq aq) (fuel:Int) (param:Nat)
def F35:Out:=match ds with
 | [.c (.rt q _ _)]=>match bh rs q with
   | some (.box [.rt m a b,c,d,.sa i n,.sa j ne,.im (.v (.int .i64 fu)),.im (.v (.int .i64 pa))])=>match bh rs m,bh rs i,bh rs j with
     | some (.box [y,.im (.v (.int .i64 p))]),some (.arr _ _ k get),some (.arr _ _ ke ge)=>
       (int (ne:Int),[(m,.box [y,.im (iI (lv l p.toNat ⟨k,λt=>kL (get t)⟩ fu pa.toNat).2)]),(q,.box [.rt m a b,c,d,.sa i n,.sa rs.length (sx ⟨ke,λt=>qx (ge t)⟩ (lv l p.toNat ⟨k,λt=>kL (get t)⟩ fu pa.toNat).1).n,.im (iI fu),.im (iI pa)]),(j,.dead)],
        [cl (sx ⟨ke,λt=>qx (ge t)⟩ (lv l p.toNat ⟨k,λt=>kL (get t)⟩ fu pa.toNat).1)])
     | _,_,_=>vR
   | _=>vR
 | _=>vR
def BU:Sq ByteArray:=⟨2,λi=>bif Nat.beq i 0 then ⟨⟨[120]⟩⟩ else ⟨⟨[121]⟩⟩⟩
def qy:List Nat:=[0,1,2,3,4,5,6,7,8,9,10,11,12,13,14,15,16,17,18,19,20,21,22,23,24,25,26,27,28,29,30]
def X48:eU:={ F:=pY }
def W67:Rd:=match f with
 | 33=>W33 l ds
 | _=>W37 l ds
def F67:Out:=match f with
 | 34=>F34 sn ds rs
 | 35=>F35 l sx ds rs
 | 48=>(fM 1 cA BU,[],[])
 | f=>pY f ds rs
def X67:eU:={ F:=F67 l sn sx,W:=W67 l,S:=qy }
def zI:au:=⟨0,0,0,0,0,aH 0,⟨0,0,⟨⟨[]⟩⟩⟩,aH ⟨⟨[]⟩⟩,⟨0,0⟩,0,false⟩
def jk:Int×Nat:=bif (nx l (vl l p ins).2 2).1==0 then nx l (nx l (vl l p ins).2 2).2 (param:Int) else ((vl l p ins).1,(nx l (vl l p ins).2 2).2)
def Ba (A e:Int):au:={ zI with op:=7,a:=A,names:=BU,exit:=e }
def fJ:aq×Nat:=lv l (jk l p ins param).2 ins fuel param
def jW (ne:Nat):au:=Ba (jk l p ins param).1 (ne:Int)
theorem jK {l l':List C} (h:aF dI l l'):aX (.a l) (.a l'):=by
 rintro E av w v ⟨cs,rfl,hv⟩
 exact ⟨cs,rfl,aF.cle h hv⟩
def aS3:Nat->Bool:=bH
theorem bB0:Fn 48:={}
theorem bp5 (QD:D->Prop)  (h:QD (.c (.im (.sl 1 2 (flat 1 [I.v (Value.string { data := #[120] }),I.v (Value.string { data := #[121] })]))))):ep X48 48 aS3 L (bf QD) [] []:=km h
theorem Nt:LC 48 [] [] (fM 1 cA BU) []:=by
 refine pv (X:=X48) (stop:=aS3) bB0 (bp5 _ _ ?_)
 exact λE av w v h=>cD.sl (λi hi j hj=>by
  have hj:j=0:=by omega
  subst hj
  match i,hi with
  | 0,_=>exact cD.refl _
  | 1,_=>exact cD.refl _) av w v h
def YY:Nat->Bool:=λi=>Nat.beq i 4
theorem bp6:Fn 67:={}
abbrev oF (aZ:Sq aq) (bR:Int) (cW:Nat):List ah:=[(aL aj ax),(dz aJ aZ bR cW),(aP aJ),(cl aZ)]
abbrev ph:C:=.im (.sl 1 2 (λi=>cA (BU.get i)))
abbrev FU:ah:=.box [(ci 7),(ci ((vl aj ax aJ).1)),(ci 0),(ci 0),(ci 0),bS,(ci 0),(ci 0),dH,ph,(ci 0),(ci 0),(ci 0),ea]
abbrev Bj:ah:=aL aj ((nx aj (vl aj ax aJ).2 2).2)
theorem bB2 (l:Sq Int) (p:Nat) (ins:Sq au) (aa:Sq aq) (fuel:Int) (param:Nat) (h:(WC 37 eR (oF l p ins aa fuel param) (int ((vl l p ins).1)) 0 (aL l ((vl l p ins).2))/\(LC 48 [] [] (.c ph) []/\(WC 33 mT [(aL l ((vl l p ins).2)),(dz ins aa fuel param),(aP ins),(cl aa),(FU l p ins)] (int ((nx l (vl l p ins).2 2).1)) 0 (aL l ((nx l (vl l p ins).2 2).2))/\br ((nx l (vl l p ins).2 2).1==0) ((WC 33 [(.c (.rt 0 0 0)),(fp param)] [(Bj l p ins),(dz ins aa fuel param),(aP ins),(cl aa),(FU l p ins),.dead] (int ((nx l (nx l (vl l p ins).2 2).2 (↑param:Int)).1)) 0 (aL l ((nx l (nx l (vl l p ins).2 2).2 (↑param:Int)).2))/\(WC 33 [(.c (.rt 0 0 0)),(fp param)] [(Bj l p ins),(dz ins aa fuel param),(aP ins),(cl aa),(FU l p ins),.dead] (int ((nx l (nx l (vl l p ins).2 2).2 (↑param:Int)).1)) 0 (aL l ((nx l (nx l (vl l p ins).2 2).2 (↑param:Int)).2))/\L (af 67 4) ⟨[eE,zb],[(aL l ((nx l (nx l (vl l p ins).2 2).2 (↑param:Int)).2)),(dz ins aa fuel param),(aP ins),(cl aa),(.box [(ci 7),(ci ((nx l (nx l (vl l p ins).2 2).2 (↑param:Int)).1)),(ci 0),(ci 0),(ci 0),bS,(ci 0),(ci 0),dH,ph,(ci 0),(ci 0),(ci 0),ea]),.dead],[]⟩))) (L (af 67 4) ⟨[eE,zb,(13,((bool false),[]))],[(Bj l p ins),(dz ins aa fuel param),(aP ins),(cl aa),(FU l p ins)],[]⟩))))):ep (X67 l sn sx) 67 YY L QE [.c (.rt 1 0 0)] [aL l p,bm 0 2 ins.n 3 aa.n fuel param,aP ins,cl aa]:=km h
def Gl (sn:Sq au->au->Sq au) (sx:Sq aq->aq->Sq aq) (l:Sq Int) (p:Nat) (ins:Sq au) (aa:Sq aq) (fuel:Int) (param:Nat) (x:au):VS:=⟨[sS,(3,.c (.rt 4 0 0),[])],[aL l p,(dz ins aa fuel param),(aP ins),(cl aa),.box (lift (bW x))],[]⟩
abbrev kP (aj:Sq aq):D:=int (↑aj.1:Int)
abbrev L2 (aj:au) (ax:Sq aq):List C:=lift (bW ({ op:=aj.1,a:=aj.2,b:=aj.3,c:=aj.4,n:=aj.5,args:=aj.6,k:=aj.7,names:=aj.8,place:=aj.9,exit:=Int.ofNat ax.1,once:=aj.11 }))
theorem aJ2 (l:Sq Int) (p:Nat) (ins:Sq au) (aa:Sq aq) (fuel:Int) (param:Nat) (x:au) (h:(LC 35 eR [(aL l p),(dz ins aa fuel param),(aP ins),(cl aa),(cG x)] (kP aa) [(aL l ((lv l p ins fuel param).2)),(bm 0 2 ins.1 5 ((sx aa (lv l p ins fuel param).1).1) fuel (↑param:Int)),(aP ins),.dead,(cG x),(cl (sx aa (lv l p ins fuel param).1))]/\(LC 34 [(.c (.rt 1 0 0)),(.a (L2 x aa))] [(aL l ((lv l p ins fuel param).2)),(bm 0 2 ins.1 5 ((sx aa (lv l p ins fuel param).1).1) fuel (↑param:Int)),(aP ins),.dead,(.box (L2 x aa)),(cl (sx aa (lv l p ins fuel param).1))] (dL ins) [(aL l ((lv l p ins fuel param).2)),(bm 0 6 ((sn ins { op:=x.1,a:=x.2,b:=x.3,c:=x.4,n:=x.5,args:=x.6,k:=x.7,names:=x.8,place:=x.9,exit:=Int.ofNat aa.1,once:=x.11 }).1) 5 ((sx aa (lv l p ins fuel param).1).1) fuel (↑param:Int)),.dead,.dead,(.box (L2 x aa)),(cl (sx aa (lv l p ins fuel param).1)),(aP (sn ins { op:=x.1,a:=x.2,b:=x.3,c:=x.4,n:=x.5,args:=x.6,k:=x.7,names:=x.8,place:=x.9,exit:=Int.ofNat aa.1,once:=x.11 }))]/\QE (int x.2) [(aL l ((lv l p ins fuel param).2)),(bm 0 6 ((sn ins { op:=x.1,a:=x.2,b:=x.3,c:=x.4,n:=x.5,args:=x.6,k:=x.7,names:=x.8,place:=x.9,exit:=Int.ofNat aa.1,once:=x.11 }).1) 5 ((sx aa (lv l p ins fuel param).1).1) fuel (↑param:Int)),.dead,.dead,(.box (lift (bW ({ op:=x.1,a:=x.2,b:=x.3,c:=x.4,n:=x.5,args:=x.6,k:=x.7,names:=x.8,place:=x.9,exit:=Int.ofNat aa.1,once:=x.11 })))),(cl (sx aa (lv l p ins fuel param).1)),(aP (sn ins { op:=x.1,a:=x.2,b:=x.3,c:=x.4,n:=x.5,args:=x.6,k:=x.7,names:=x.8,place:=x.9,exit:=Int.ofNat aa.1,once:=x.11 }))]))):b5 (X67 l sn sx) 67 YY L QE 4 (Gl sn sx l p ins aa fuel param x):=km h
theorem VM (p0:Nat) (hl:l.n<=maxLen) (hI:ins.n<=900) (hE:aa.n<=900) (hF:0<=fuel/\fuel<=1000) (hP:param<=1000) (x:au) (A:Int) (q:Nat) (hx:(A,q)=jk l p0 ins param) (hx1:x=Ba A 0) (hq:p=q):ae 67 4 (bA [aL l p0,bm 0 2 ins.n 3 aa.n fuel param,aP ins,cl aa] (int (jW l p0 ins param aa.n).a) [aL l (fJ l p0 ins fuel param).2,bm 0 5 (cy ins (jW l p0 ins param aa.n)).n 4 (cH aa (fJ l p0 ins fuel param).1).n fuel param,.dead,.dead,cl (cH aa (fJ l p0 ins fuel param).1),aP (cy ins (jW l p0 ins param aa.n))]) (af 67 4) (Gl cy cH l p ins aa fuel param x):=by
 subst hq
 subst hx1
 refine aG (X:=X67 l cy cH) (stop:=YY) (aJ2 _ _ cy cH l p ins aa fuel param (Ba A 0) ⟨pJ (m:=0) (q:=1) (i:=2) (j:=3) l _ ins aa hl (by omega) (by omega) hF hP rfl rfl rfl rfl rfl,fq (m:=0) (q:=1) (i:=2) (j:=5) ins (Ba A aa.n) (by omega) (aX.refl _) rfl (aQ rfl) rfl rfl (aQ rfl),?_⟩)
 rw [show fJ l p0 ins fuel param=lv l p ins fuel param from by unfold fJ; rw [<- hx],show jW l p0 ins param aa.n=Ba A aa.n from by unfold jW; rw [<- hx]]
 exact ⟨[0,1,2,3,5,6],int A,_,_,rfl,(rc (rc (rc (rc (rc (rc .nil)))))),⟨6,aQ rfl,aQ rfl,rfl,rfl,aX.refl _,⟨.inr rfl,⟨.inr rfl,⟨.inr rfl,⟨.inr rfl,⟨rfl,⟨rfl,trivial⟩⟩⟩⟩⟩⟩⟩⟩
theorem aU8 (hl:l.n<=maxLen) (hI:ins.n<=900) (hE:aa.n<=900) (hF:0<=fuel/\fuel<=1000) (hP:param<=1000):LC 67 [.c (.rt 1 0 0)] [aL l p,bm 0 2 ins.n 3 aa.n fuel param,aP ins,cl aa] (int (jk l p ins param).1) [aL l (fJ l p ins fuel param).2,bm 0 5 (cy ins (jW l p ins param aa.n)).n 4 (cH aa (fJ l p ins fuel param).1).n fuel param,.dead,.dead,cl (cH aa (fJ l p ins fuel param).1),aP (cy ins (jW l p ins param aa.n))]:=by
 refine cM bp6 (aQ (by kernel_rfl)) (cY (X:=X67 l cy cH) (stop:=YY) (bB2 _ _ cy cH l p ins aa fuel param ⟨gr l _ ins hl (by omega) rfl rfl rfl rfl (aQ rfl),Nt,e5 l _ _ hl rfl,?_⟩))
 refine ag (λh=>?_) (λh=>?_)
 .have e:jk l p ins param=nx l (nx l (vl l p ins).2 2).2 (param:Int):=by grind [jk]
  refine ⟨e5 l _ _ hl rfl,e5 l _ _ hl rfl,?_⟩
  exact ae.rename [0,1,2,3,4] rfl (ae.lf (Gl cy cH l (nx l (nx l (vl l p ins).2 2).2 (param:Int)).2 ins aa fuel param (Ba (nx l (nx l (vl l p ins).2 2).2 (param:Int)).1 0)) (rc (rc (rc (rc (.cons (aY.box (by repeat' (first|exact aF.nil|refine aF.cons ?_ ?_|exact dI.refl _|exact dI.nil _ _))) .nil))))) (VM l _ ins aa fuel param p hl hI hE hF hP _ _ _ e.symm rfl rfl))
 .have e:jk l p ins param=((vl l p ins).1,(nx l (vl l p ins).2 2).2):=by grind [jk]
  exact ae.lf (Gl cy cH l (nx l (vl l p ins).2 2).2 ins aa fuel param (Ba (vl l p ins).1 0)) (rc (rc (rc (rc (.cons (aY.box (by repeat' (first|exact aF.nil|refine aF.cons ?_ ?_|exact dI.refl _|exact dI.nil _ _))) .nil))))) (VM l _ ins aa fuel param p hl hI hE hF hP _ _ _ e.symm rfl rfl)
theorem ap7 {m q i j:Nat} {RS:List ah} (hl:l.n<=maxLen) (hI:ins.n<=900) (hE:aa.n<=900) (hF:0<=fuel/\fuel<=1000) (hP:param<=1000) (hd:jj [m,q,i,j]=true) (h0:bh RS m=some (aL l p)) (h1:bh RS q=some (bm m i ins.n j aa.n fuel param)) (h2:bh RS i=some (aP ins)) (h3:bh RS j=some (cl aa)) :
  LC 67 [.c (.rt q 0 0)] RS (int (jk l p ins param).1) (setAt (setAt (setAt (setAt RS m (aL l (fJ l p ins fuel param).2)) q (bm m (RS.length+1) (cy ins (jW l p ins param aa.n)).n RS.length (cH aa (fJ l p ins fuel param).1).n fuel param)) i .dead) j .dead++[cl (cH aa (fJ l p ins fuel param).1),aP (cy ins (jW l p ins param aa.n))]):=
 bt.gQ (aU8 l p ins aa fuel param hl hI hE hF hP) [m,q,i,j] RS hd ⟨h0,fi h0,h1,fi h1,h2,fi h2,h3,fi h3,rfl⟩
end
open Go Go.V
section
variable (l:Sq Int) (sn:Sq au->au->Sq au) (sx:Sq aq->aq->Sq aq)
def bw2 (ds:List D) (rs:List ah):Out:=match ds with
 | [.c (.rt q _ _)]=>match bh rs q with
   | some (.box [.rt m a b,c,d,.sa i n,.sa j ne,.im (.v (.int .i64 fu)),.im (.v (.int .i64 pa))])=>match bh rs m,bh rs i,bh rs j with
     | some (.box [y,.im (.v (.int .i64 p))]),some (.arr _ _ k get),some (.arr _ _ ke ge)=>
       (int (jk l p.toNat ⟨k,λt=>kL (get t)⟩ pa.toNat).1,[(m,.box [y,.im (iI (fJ l p.toNat ⟨k,λt=>kL (get t)⟩ fu pa.toNat).2)]),(q,.box [.rt m a b,c,d,.sa (rs.length+1) (sn ⟨k,λt=>kL (get t)⟩ (jW l p.toNat ⟨k,λt=>kL (get t)⟩ pa.toNat ne)).n,.sa rs.length (sx ⟨ke,λt=>qx (ge t)⟩ (fJ l p.toNat ⟨k,λt=>kL (get t)⟩ fu pa.toNat).1).n,.im (iI fu),.im (iI pa)]),(i,.dead),(j,.dead)],
        [cl (sx ⟨ke,λt=>qx (ge t)⟩ (fJ l p.toNat ⟨k,λt=>kL (get t)⟩ fu pa.toNat).1),aP (sn ⟨k,λt=>kL (get t)⟩ (jW l p.toNat ⟨k,λt=>kL (get t)⟩ pa.toNat ne))])
     | _,_,_=>vR
   | _=>vR
 | _=>vR
def bp4 (f:FuncId) (ds:List D) (rs:List ah):Out:=match f with
 | 67=>bw2 l sn sx ds rs
 | f=>F67 l sn sx f ds rs
def oA:eU:={ F:=bp4 l sn sx,W:=W67 l,S:=qy }
end
structure mH where
 p:Nat
 ins:Sq au
 ex:Sq aq
section
section
variable (d:Nat) (l:Sq Int) (fuel:Int) (x:au) (c:Int) (param:Nat) (s:mH)
def kOf (n:Int):jd:=bif Nat.beq d 0 then ⟨3,IntKind.i64.wrap (n-2),⟨⟨[]⟩⟩⟩ else bif Nat.beq d 1 then ⟨1,0,⟨⟨[]⟩⟩⟩ else bif Nat.beq d 2 then ⟨2,1,⟨⟨[]⟩⟩⟩ else ⟨4,0,⟨⟨[115]⟩⟩⟩
def nOf:Int:=bif Nat.beq d 0 then 10 else 11
def kLA (x:au) (p:Nat) (s:mH):mH:=⟨(lv l p s.ins fuel param).2,cy s.ins { x with exit:=(s.ex.n:Int) },cH s.ex (lv l p s.ins fuel param).1⟩
def k35:mH:=⟨(nx l s.p 2).2,cy s.ins (ew 10 c 0 0 (nx l s.p 2).1 (-1)),s.ex⟩
def k34 (c:Int) (s:mH):mH:=k35 l c ⟨(nx l (nx l s.p (param:Int)).2 2).2,cy s.ins (ew 11 c (nx l s.p (param:Int)).1 0 (nx l (nx l s.p (param:Int)).2 2).1 (-1)),s.ex⟩
def k33:mH:=k34 l param (s.ins.n:Int) ⟨s.p,cy s.ins { ew 16 0 0 0 0 (-1) with names:=BU },s.ex⟩
def k27:mH:=⟨(nx l (vl l s.p s.ins).2 2).2,cy s.ins (ew 11 c (vl l s.p s.ins).1 0 (nx l (vl l s.p s.ins).2 2).1 (-1)),s.ex⟩
def k40:mH:=bif (nx l s.p 2).1==0 then ⟨(nx l s.p 2).2,cy s.ins (ew 12 x.a x.b 0 0 (-1)),s.ex⟩ else ⟨(vl l (nx l s.p 2).2 s.ins).2,cy s.ins (ew 13 x.a x.b (vl l (nx l s.p 2).2 s.ins).1 0 (-1)),s.ex⟩
def k47:mH:=⟨s.p,cy s.ins (ew 14 x.a 0 0 0 (-1)),s.ex⟩
def k52:mH:=⟨(nx l s.p 3).2,cy s.ins { ew 19 x.a 0 0 0 (-1) with place:=⟨0,(nx l s.p 3).1⟩ },s.ex⟩
def k18 (c:Int) (s:mH):mH:=kLA l fuel param (ew 5 c 0 0 (nx l s.p 2).1 0) (nx l s.p 2).2 s
def k3:mH:=⟨(nx l (nx l s.p 7).2 4).2,cy s.ins { ew 2 0 0 0 0 (-1) with k:=kOf (nx l (nx l s.p 7).2 4).1.toNat (nx l s.p 7).1 },s.ex⟩
def ab (p:Nat) (ins:Sq au):Int×Int×Nat:=((vl l p ins).1,(vl l (vl l p ins).2 ins).1,(vl l (vl l p ins).2 ins).2)
def k7:mH:=kLA l fuel param (ew 4 (ab l (nx l s.p 10).2 s.ins).1 (ab l (nx l s.p 10).2 s.ins).2.1 0 (IntKind.i64.wrap (5+(nx l s.p 10).1)) 0) (ab l (nx l s.p 10).2 s.ins).2.2 s
def k11:mH:=kLA l fuel param (ew 3 (vl l (nx l s.p 2).2 s.ins).1 0 0 (IntKind.i64.wrap (3+(nx l s.p 2).1)) 0) (vl l (nx l s.p 2).2 s.ins).2 s
def k15:mH:=k18 l fuel param (s.ins.n:Int) (kLA l fuel param (ew 4 (ab l (nx l s.p 2).2 s.ins).1 (ab l (nx l s.p 2).2 s.ins).2.1 0 (nOf (nx l s.p 2).1.toNat) 0) (ab l (nx l s.p 2).2 s.ins).2.2 s)
def ksh:mH:=⟨(fJ l s.p s.ins fuel param).2,cy s.ins (jW l s.p s.ins param s.ex.n),cH s.ex (fJ l s.p s.ins fuel param).1⟩
def k23:mH:=k35 l (jk l s.p s.ins param).1 (ksh l fuel param s)
def k26:mH:=k27 l (jk l s.p s.ins param).1 (ksh l fuel param s)
def k30:mH:=k33 l param (kLA l fuel param (ew 15 0 0 0 32 0) s.p s)
def k37:mH:=k40 l (ew 9 (ab l s.p s.ins).1 (ab l s.p s.ins).2.1 0 0 (s.ex.n:Int)) (kLA l fuel param (ew 9 (ab l s.p s.ins).1 (ab l s.p s.ins).2.1 0 0 0) (ab l s.p s.ins).2.2 s)
def k44:mH:=k47 (ew 8 (vl l s.p s.ins).1 0 0 0 (s.ex.n:Int)) (kLA l fuel param (ew 8 (vl l s.p s.ins).1 0 0 0 0) (vl l s.p s.ins).2 s)
def k49:mH:=k52 l (ew 6 (vl l s.p s.ins).1 0 0 (IntKind.i64.wrap (1+(nx l (vl l s.p s.ins).2 4).1)) (s.ex.n:Int)) (kLA l fuel param (ew 6 (vl l s.p s.ins).1 0 0 (IntKind.i64.wrap (1+(nx l (vl l s.p s.ins).2 4).1)) 0) (nx l (vl l s.p s.ins).2 4).2 s)
def dP:mH:=
 bif (nx l s.p 14).1==0 then k3 l ⟨(nx l s.p 14).2,s.ins,s.ex⟩
 else bif (nx l s.p 14).1==1 then k7 l fuel param ⟨(nx l s.p 14).2,s.ins,s.ex⟩
 else bif (nx l s.p 14).1==2 then k7 l fuel param ⟨(nx l s.p 14).2,s.ins,s.ex⟩
 else bif (nx l s.p 14).1==3 then k7 l fuel param ⟨(nx l s.p 14).2,s.ins,s.ex⟩
 else bif (nx l s.p 14).1==4 then k11 l fuel param ⟨(nx l s.p 14).2,s.ins,s.ex⟩
 else bif (nx l s.p 14).1==5 then k15 l fuel param ⟨(nx l s.p 14).2,s.ins,s.ex⟩
 else bif (nx l s.p 14).1==6 then k23 l fuel param ⟨(nx l s.p 14).2,s.ins,s.ex⟩
 else bif (nx l s.p 14).1==7 then k23 l fuel param ⟨(nx l s.p 14).2,s.ins,s.ex⟩
 else bif (nx l s.p 14).1==8 then k26 l fuel param ⟨(nx l s.p 14).2,s.ins,s.ex⟩
 else bif (nx l s.p 14).1==9 then k30 l fuel param ⟨(nx l s.p 14).2,s.ins,s.ex⟩
 else bif (nx l s.p 14).1==10 then k30 l fuel param ⟨(nx l s.p 14).2,s.ins,s.ex⟩
 else bif (nx l s.p 14).1==11 then k37 l fuel param ⟨(nx l s.p 14).2,s.ins,s.ex⟩
 else bif (nx l s.p 14).1==12 then k44 l fuel param ⟨(nx l s.p 14).2,s.ins,s.ex⟩
 else k49 l fuel param ⟨(nx l s.p 14).2,s.ins,s.ex⟩
def Ce (s0:mH) (fuel:Int) (param:Nat) (o:mH):D->List ah->Prop:=bA [aL l s0.p,bm 0 2 s0.ins.n 3 s0.ex.n fuel param,aP s0.ins,cl s0.ex] (.t []) [aL l o.p,bm 0 5 o.ins.n 4 o.ex.n fuel param,.dead,.dead,cl o.ex,aP o.ins]
end
end
section
variable {l:Sq Int} {p:Nat}
theorem aa9 (h0:Nat.beq (nx l p 4).1.toNat 0=false) (h1:Nat.beq (nx l p 4).1.toNat 1=false) (h2:Nat.beq (nx l p 4).1.toNat 2=false) (h3:Nat.beq (nx l p 4).1.toNat 3=false):False:=by
 obtain ⟨d,hd,eW⟩:=nw (l:=l) (p:=p) (n:=4) (by omega) (by omega)
 rw [hd] at h0 h1 h2 h3
 have g:∀ k,Nat.beq (d:Int).toNat k=false->d≠k:=λk hk e=>by
  simp_all
 grind
theorem YF (h0:Nat.beq (nx l p 2).1.toNat 0=false) (h1:Nat.beq (nx l p 2).1.toNat 1=false):False:=by
 obtain ⟨d,hd,eW⟩:=nw (l:=l) (p:=p) (n:=2) (by omega) (by omega)
 rw [hd] at h0 h1
 have g:∀ k,Nat.beq (d:Int).toNat k=false->d≠k:=λk hk e=>by
  simp_all
 grind
theorem ak8 (n:Nat) (h1:1<=n) (h2:n<=1000):bQ (nx l p (n:Int)).1 n=true:=by
 obtain ⟨d,hd,eW⟩:=nw (l:=l) (p:=p) (n:=(n:Int)) (by omega) (by omega)
 rw [hd]
 exact aC (by omega)
end
def fN:Nat->Bool:=λi=>Nat.beq i 3||Nat.beq i 7||Nat.beq i 11||Nat.beq i 15||Nat.beq i 18||Nat.beq i 23||Nat.beq i 24||Nat.beq i 26||Nat.beq i 27||Nat.beq i 30||Nat.beq i 33||Nat.beq i 34||Nat.beq i 35||Nat.beq i 37||Nat.beq i 40||Nat.beq i 44||Nat.beq i 47||Nat.beq i 49||Nat.beq i 52
theorem by2:Fn 36:={}
section
variable (aj:Sq Int) (L:LP) (s0:mH) (ax:Nat) (QE:D->List ah->Prop) (sn:Sq au->au->Sq au) (aJ:Sq au) (sx:Sq aq->aq->Sq aq) (l:Sq Int) (aZ:Sq aq) (p:Nat) (bR:Int) (ins:Sq au) (cW:Nat) (aa:Sq aq) (fuel:Int) (param:Nat) (c:Int) (x:au)
abbrev lY:eQ:=(20,((int ((nx aj ax 14).1)),[]))
abbrev mD:List ah:=[(aL aj ((nx aj ax 14).2)),(dz aJ aZ bR cW),(aP aJ),(cl aZ)]
abbrev LS:a8:=[eE,b4,(lY aj ax),(38,((bool true),[]))]
theorem bs7 (h:(WC 33 [(.c (.rt 0 0 0)),(int 14)] (oF l p ins aa fuel param) (int ((nx l p 14).1)) 0 (aL l ((nx l p 14).2))/\br ((nx l p 14).1==0) (L (af 36 3) ⟨[eE,b4,(lY l p),(21,((bool true),[]))],(mD l p ins aa fuel param),[]⟩) (br ((nx l p 14).1==1) (L (af 36 7) ⟨(LS l p),(mD l p ins aa fuel param),[]⟩) (br ((nx l p 14).1==2) (L (af 36 7) ⟨(LS l p),(mD l p ins aa fuel param),[]⟩) (br ((nx l p 14).1==3) (L (af 36 7) ⟨(LS l p),(mD l p ins aa fuel param),[]⟩) (br ((nx l p 14).1==4) (L (af 36 11) ⟨[eE,b4,(lY l p),(56,((bool true),[]))],(mD l p ins aa fuel param),[]⟩) (br ((nx l p 14).1==5) (L (af 36 15) ⟨[eE,b4,(lY l p),(70,((bool true),[]))],(mD l p ins aa fuel param),[]⟩) (br ((nx l p 14).1==6) (L (af 36 23) ⟨[eE,b4,(lY l p),(98,((bool true),[]))],(mD l p ins aa fuel param),[]⟩) (br ((nx l p 14).1==7) (L (af 36 23) ⟨[eE,b4,(lY l p),(98,((bool true),[]))],(mD l p ins aa fuel param),[]⟩) (br ((nx l p 14).1==8) (L (af 36 26) ⟨[eE,b4,(lY l p),(109,((bool true),[]))],(mD l p ins aa fuel param),[]⟩) (br ((nx l p 14).1==9) (L (af 36 30) ⟨[eE,b4,(lY l p),(121,((bool true),[]))],(mD l p ins aa fuel param),[]⟩) (br ((nx l p 14).1==10) (L (af 36 30) ⟨[eE,b4,(lY l p),(121,((bool true),[]))],(mD l p ins aa fuel param),[]⟩) (br ((nx l p 14).1==11) (L (af 36 37) ⟨[eE,b4,(lY l p),(153,((bool true),[]))],(mD l p ins aa fuel param),[]⟩) (br ((nx l p 14).1==12) (L (af 36 44) ⟨[eE,b4,(lY l p),(185,((bool true),[]))],(mD l p ins aa fuel param),[]⟩) (br ((nx l p 14).1==13) (L (af 36 49) ⟨[eE,b4,(201,((bool true),[]))],(mD l p ins aa fuel param),[]⟩) (QE (.t []) [(aL l ((nx l p 14).2)),(bm 0 2 ins.1 3 aa.1 fuel (↑param:Int)),(aP ins),(cl aa)])))))))))))))))):ep (oA l sn sx) 36 fN L QE [.c (.rt 1 0 0)] [aL l p,bm 0 2 ins.n 3 aa.n fuel param,aP ins,cl aa]:=km h
abbrev l5:eQ:=(0,.c (.rt 1 0 0),[])
abbrev gm:eQ:=(2,.c (.rt 0 0 0),[])
def JM (sn:Sq au->au->Sq au) (sx:Sq aq->aq->Sq aq) (l:Sq Int) (p:Nat) (ins:Sq au) (aa:Sq aq) (fuel:Int) (param:Nat)  : VS:=⟨[l5,gm],[aL l p,bm 0 2 ins.n 4 aa.n fuel param,aP ins,.dead,cl aa],[]⟩
abbrev mW:C:=.im (.v (.string ({ data := #[115] })))
abbrev qk:ah:=aL aj ((nx aj (nx aj ax 7).2 4).2)
theorem aE1  (h:(WC 33 [(.c (.rt 0 0 0)),(int 7)] [(aL l p),(bm 0 2 ins.1 4 aa.1 fuel (↑param:Int)),(aP ins),.dead,(cl aa)] (int ((nx l p 7).1)) 0 (aL l ((nx l p 7).2))/\(WC 33 [(.c (.rt 0 0 0)),(int 4)] [(aL l ((nx l p 7).2)),(bm 0 2 ins.1 4 aa.1 fuel (↑param:Int)),(aP ins),.dead,(cl aa),(.row 44 3 4 [(ci 3),(ci (IntKind.i64.wrap ((nx l p 7).1-2))),dH,(ci 1),(ci 0),dH,(ci 2),(ci 1),dH,(ci 4),(ci 0),mW])] (int ((nx l (nx l p 7).2 4).1)) 0 (aL l ((nx l (nx l p 7).2 4).2))/\nd (bQ (nx l (nx l p 7).2 4).1 4) (br ((nx l (nx l p 7).2 4).1.toNat.beq 0) ((LC 34 [(.c (.rt 1 0 0)),(.a [(ci 2),(ci 0),(ci 0),(ci 0),(ci 0),bS,(ci 3),(ci (IntKind.i64.wrap ((nx l p 7).1-2))),dH,bS,(ci 0),(ci 0),(ci (-1)),ea])] [(qk l p),(bm 0 2 ins.1 4 aa.1 fuel (↑param:Int)),(aP ins),.dead,(cl aa),(.row 44 3 4 [(ci 3),(ci (IntKind.i64.wrap ((nx l p 7).1-2))),dH,(ci 1),(ci 0),dH,(ci 2),(ci 1),dH,(ci 4),(ci 0),mW])] (dL ins) [(qk l p),(bm 0 6 ((sn ins { op:=Int.ofNat 2,a:=Int.ofNat 0,b:=Int.ofNat 0,c:=Int.ofNat 0,n:=Int.ofNat 0,args:={ n:=0,get:=λx=>Int.ofNat 0 },k:={ kind:=Int.ofNat 3,n:=cV (I.v (Value.int IntKind.i64 (IntKind.i64.wrap ((nx l p 7).1-2)))),s:={ data:={ toList:=[] } } },names:={ n:=0,get:=λx=>{ data:={ toList:=[] } } },place:={ fn:=Int.ofNat 0,line:=Int.ofNat 0 },exit:=Int.negSucc 0,once:=false }).1) 4 aa.1 fuel (↑param:Int)),.dead,.dead,(cl aa),(.row 44 3 4 [(ci 3),(ci (IntKind.i64.wrap ((nx l p 7).1-2))),dH,(ci 1),(ci 0),dH,(ci 2),(ci 1),dH,(ci 4),(ci 0),mW]),(aP (sn ins { op:=Int.ofNat 2,a:=Int.ofNat 0,b:=Int.ofNat 0,c:=Int.ofNat 0,n:=Int.ofNat 0,args:={ n:=0,get:=λx=>Int.ofNat 0 },k:={ kind:=Int.ofNat 3,n:=cV (I.v (Value.int IntKind.i64 (IntKind.i64.wrap ((nx l p 7).1-2)))),s:={ data:={ toList:=[] } } },names:={ n:=0,get:=λx=>{ data:={ toList:=[] } } },place:={ fn:=Int.ofNat 0,line:=Int.ofNat 0 },exit:=Int.negSucc 0,once:=false }))]/\QE (.t []) [(aL l ((nx l (nx l p 7).2 4).2)),(bm 0 6 ((sn ins { op:=Int.ofNat 2,a:=Int.ofNat 0,b:=Int.ofNat 0,c:=Int.ofNat 0,n:=Int.ofNat 0,args:={ n:=0,get:=λx=>Int.ofNat 0 },k:={ kind:=Int.ofNat 3,n:=cV (I.v (Value.int IntKind.i64 (IntKind.i64.wrap ((nx l p 7).1-2)))),s:={ data:={ toList:=[] } } },names:={ n:=0,get:=λx=>{ data:={ toList:=[] } } },place:={ fn:=Int.ofNat 0,line:=Int.ofNat 0 },exit:=Int.negSucc 0,once:=false }).1) 4 aa.1 fuel (↑param:Int)),.dead,.dead,(cl aa),(.row 44 3 4 [(ci 3),(ci (IntKind.i64.wrap ((nx l p 7).1-2))),(.im (.v (.string ⟨⟨[]⟩⟩))),(ci 1),(ci 0),(.im (.v (.string ⟨⟨[]⟩⟩))),(ci 2),(ci 1),(.im (.v (.string ⟨⟨[]⟩⟩))),(ci 4),(ci 0),(.im (.v (.string ({ data := #[115] }))))]),(aP (sn ins { op:=Int.ofNat 2,a:=Int.ofNat 0,b:=Int.ofNat 0,c:=Int.ofNat 0,n:=Int.ofNat 0,args:={ n:=0,get:=λx=>Int.ofNat 0 },k:={ kind:=Int.ofNat 3,n:=cV (I.v (Value.int IntKind.i64 (IntKind.i64.wrap ((nx l p 7).1-2)))),s:={ data:={ toList:=[] } } },names:={ n:=0,get:=λx=>{ data:={ toList:=[] } } },place:={ fn:=Int.ofNat 0,line:=Int.ofNat 0 },exit:=Int.negSucc 0,once:=false }))])) (br ((nx l (nx l p 7).2 4).1.toNat.beq 1) ((LC 34 [(.c (.rt 1 0 0)),(.a [(ci 2),(ci 0),(ci 0),(ci 0),(ci 0),bS,(ci 1),(ci 0),dH,bS,(ci 0),(ci 0),(ci (-1)),ea])] [(qk l p),(bm 0 2 ins.1 4 aa.1 fuel (↑param:Int)),(aP ins),.dead,(cl aa),(.row 44 3 4 [(ci 3),(ci (IntKind.i64.wrap ((nx l p 7).1-2))),dH,(ci 1),(ci 0),dH,(ci 2),(ci 1),dH,(ci 4),(ci 0),mW])] (dL ins) [(qk l p),(bm 0 6 ((sn ins { op:=Int.ofNat 2,a:=Int.ofNat 0,b:=Int.ofNat 0,c:=Int.ofNat 0,n:=Int.ofNat 0,args:={ n:=0,get:=λx=>Int.ofNat 0 },k:={ kind:=Int.ofNat 1,n:=Int.ofNat 0,s:={ data:={ toList:=[] } } },names:={ n:=0,get:=λx=>{ data:={ toList:=[] } } },place:={ fn:=Int.ofNat 0,line:=Int.ofNat 0 },exit:=Int.negSucc 0,once:=false }).1) 4 aa.1 fuel (↑param:Int)),.dead,.dead,(cl aa),(.row 44 3 4 [(ci 3),(ci (IntKind.i64.wrap ((nx l p 7).1-2))),dH,(ci 1),(ci 0),dH,(ci 2),(ci 1),dH,(ci 4),(ci 0),mW]),(aP (sn ins { op:=Int.ofNat 2,a:=Int.ofNat 0,b:=Int.ofNat 0,c:=Int.ofNat 0,n:=Int.ofNat 0,args:={ n:=0,get:=λx=>Int.ofNat 0 },k:={ kind:=Int.ofNat 1,n:=Int.ofNat 0,s:={ data:={ toList:=[] } } },names:={ n:=0,get:=λx=>{ data:={ toList:=[] } } },place:={ fn:=Int.ofNat 0,line:=Int.ofNat 0 },exit:=Int.negSucc 0,once:=false }))]/\QE (.t []) [(aL l ((nx l (nx l p 7).2 4).2)),(bm 0 6 ((sn ins { op:=Int.ofNat 2,a:=Int.ofNat 0,b:=Int.ofNat 0,c:=Int.ofNat 0,n:=Int.ofNat 0,args:={ n:=0,get:=λx=>Int.ofNat 0 },k:={ kind:=Int.ofNat 1,n:=Int.ofNat 0,s:={ data:={ toList:=[] } } },names:={ n:=0,get:=λx=>{ data:={ toList:=[] } } },place:={ fn:=Int.ofNat 0,line:=Int.ofNat 0 },exit:=Int.negSucc 0,once:=false }).1) 4 aa.1 fuel (↑param:Int)),.dead,.dead,(cl aa),(.row 44 3 4 [(ci 3),(ci (IntKind.i64.wrap ((nx l p 7).1-2))),(.im (.v (.string ⟨⟨[]⟩⟩))),(ci 1),(ci 0),(.im (.v (.string ⟨⟨[]⟩⟩))),(ci 2),(ci 1),(.im (.v (.string ⟨⟨[]⟩⟩))),(ci 4),(ci 0),(.im (.v (.string ({ data := #[115] }))))]),(aP (sn ins { op:=Int.ofNat 2,a:=Int.ofNat 0,b:=Int.ofNat 0,c:=Int.ofNat 0,n:=Int.ofNat 0,args:={ n:=0,get:=λx=>Int.ofNat 0 },k:={ kind:=Int.ofNat 1,n:=Int.ofNat 0,s:={ data:={ toList:=[] } } },names:={ n:=0,get:=λx=>{ data:={ toList:=[] } } },place:={ fn:=Int.ofNat 0,line:=Int.ofNat 0 },exit:=Int.negSucc 0,once:=false }))])) (br ((nx l (nx l p 7).2 4).1.toNat.beq 2) ((LC 34 [(.c (.rt 1 0 0)),(.a [(ci 2),(ci 0),(ci 0),(ci 0),(ci 0),bS,(ci 2),(ci 1),dH,bS,(ci 0),(ci 0),(ci (-1)),ea])] [(qk l p),(bm 0 2 ins.1 4 aa.1 fuel (↑param:Int)),(aP ins),.dead,(cl aa),(.row 44 3 4 [(ci 3),(ci (IntKind.i64.wrap ((nx l p 7).1-2))),dH,(ci 1),(ci 0),dH,(ci 2),(ci 1),dH,(ci 4),(ci 0),mW])] (dL ins) [(qk l p),(bm 0 6 ((sn ins { op:=Int.ofNat 2,a:=Int.ofNat 0,b:=Int.ofNat 0,c:=Int.ofNat 0,n:=Int.ofNat 0,args:={ n:=0,get:=λx=>Int.ofNat 0 },k:={ kind:=Int.ofNat 2,n:=Int.ofNat 1,s:={ data:={ toList:=[] } } },names:={ n:=0,get:=λx=>{ data:={ toList:=[] } } },place:={ fn:=Int.ofNat 0,line:=Int.ofNat 0 },exit:=Int.negSucc 0,once:=false }).1) 4 aa.1 fuel (↑param:Int)),.dead,.dead,(cl aa),(.row 44 3 4 [(ci 3),(ci (IntKind.i64.wrap ((nx l p 7).1-2))),dH,(ci 1),(ci 0),dH,(ci 2),(ci 1),dH,(ci 4),(ci 0),mW]),(aP (sn ins { op:=Int.ofNat 2,a:=Int.ofNat 0,b:=Int.ofNat 0,c:=Int.ofNat 0,n:=Int.ofNat 0,args:={ n:=0,get:=λx=>Int.ofNat 0 },k:={ kind:=Int.ofNat 2,n:=Int.ofNat 1,s:={ data:={ toList:=[] } } },names:={ n:=0,get:=λx=>{ data:={ toList:=[] } } },place:={ fn:=Int.ofNat 0,line:=Int.ofNat 0 },exit:=Int.negSucc 0,once:=false }))]/\QE (.t []) [(aL l ((nx l (nx l p 7).2 4).2)),(bm 0 6 ((sn ins { op:=Int.ofNat 2,a:=Int.ofNat 0,b:=Int.ofNat 0,c:=Int.ofNat 0,n:=Int.ofNat 0,args:={ n:=0,get:=λx=>Int.ofNat 0 },k:={ kind:=Int.ofNat 2,n:=Int.ofNat 1,s:={ data:={ toList:=[] } } },names:={ n:=0,get:=λx=>{ data:={ toList:=[] } } },place:={ fn:=Int.ofNat 0,line:=Int.ofNat 0 },exit:=Int.negSucc 0,once:=false }).1) 4 aa.1 fuel (↑param:Int)),.dead,.dead,(cl aa),(.row 44 3 4 [(ci 3),(ci (IntKind.i64.wrap ((nx l p 7).1-2))),(.im (.v (.string ⟨⟨[]⟩⟩))),(ci 1),(ci 0),(.im (.v (.string ⟨⟨[]⟩⟩))),(ci 2),(ci 1),(.im (.v (.string ⟨⟨[]⟩⟩))),(ci 4),(ci 0),(.im (.v (.string ({ data := #[115] }))))]),(aP (sn ins { op:=Int.ofNat 2,a:=Int.ofNat 0,b:=Int.ofNat 0,c:=Int.ofNat 0,n:=Int.ofNat 0,args:={ n:=0,get:=λx=>Int.ofNat 0 },k:={ kind:=Int.ofNat 2,n:=Int.ofNat 1,s:={ data:={ toList:=[] } } },names:={ n:=0,get:=λx=>{ data:={ toList:=[] } } },place:={ fn:=Int.ofNat 0,line:=Int.ofNat 0 },exit:=Int.negSucc 0,once:=false }))])) (br ((nx l (nx l p 7).2 4).1.toNat.beq 3) ((LC 34 [(.c (.rt 1 0 0)),(.a [(ci 2),(ci 0),(ci 0),(ci 0),(ci 0),bS,(ci 4),(ci 0),mW,bS,(ci 0),(ci 0),(ci (-1)),ea])] [(qk l p),(bm 0 2 ins.1 4 aa.1 fuel (↑param:Int)),(aP ins),.dead,(cl aa),(.row 44 3 4 [(ci 3),(ci (IntKind.i64.wrap ((nx l p 7).1-2))),dH,(ci 1),(ci 0),dH,(ci 2),(ci 1),dH,(ci 4),(ci 0),mW])] (dL ins) [(qk l p),(bm 0 6 ((sn ins { op:=Int.ofNat 2,a:=Int.ofNat 0,b:=Int.ofNat 0,c:=Int.ofNat 0,n:=Int.ofNat 0,args:={ n:=0,get:=λx=>Int.ofNat 0 },k:={ kind:=Int.ofNat 4,n:=Int.ofNat 0,s:={ data := #[115] } },names:={ n:=0,get:=λx=>{ data:={ toList:=[] } } },place:={ fn:=Int.ofNat 0,line:=Int.ofNat 0 },exit:=Int.negSucc 0,once:=false }).1) 4 aa.1 fuel (↑param:Int)),.dead,.dead,(cl aa),(.row 44 3 4 [(ci 3),(ci (IntKind.i64.wrap ((nx l p 7).1-2))),dH,(ci 1),(ci 0),dH,(ci 2),(ci 1),dH,(ci 4),(ci 0),mW]),(aP (sn ins { op:=Int.ofNat 2,a:=Int.ofNat 0,b:=Int.ofNat 0,c:=Int.ofNat 0,n:=Int.ofNat 0,args:={ n:=0,get:=λx=>Int.ofNat 0 },k:={ kind:=Int.ofNat 4,n:=Int.ofNat 0,s:={ data := #[115] } },names:={ n:=0,get:=λx=>{ data:={ toList:=[] } } },place:={ fn:=Int.ofNat 0,line:=Int.ofNat 0 },exit:=Int.negSucc 0,once:=false }))]/\QE (.t []) [(aL l ((nx l (nx l p 7).2 4).2)),(bm 0 6 ((sn ins { op:=Int.ofNat 2,a:=Int.ofNat 0,b:=Int.ofNat 0,c:=Int.ofNat 0,n:=Int.ofNat 0,args:={ n:=0,get:=λx=>Int.ofNat 0 },k:={ kind:=Int.ofNat 4,n:=Int.ofNat 0,s:={ data := #[115] } },names:={ n:=0,get:=λx=>{ data:={ toList:=[] } } },place:={ fn:=Int.ofNat 0,line:=Int.ofNat 0 },exit:=Int.negSucc 0,once:=false }).1) 4 aa.1 fuel (↑param:Int)),.dead,.dead,(cl aa),(.row 44 3 4 [(ci 3),(ci (IntKind.i64.wrap ((nx l p 7).1-2))),(.im (.v (.string ⟨⟨[]⟩⟩))),(ci 1),(ci 0),(.im (.v (.string ⟨⟨[]⟩⟩))),(ci 2),(ci 1),(.im (.v (.string ⟨⟨[]⟩⟩))),(ci 4),(ci 0),(.im (.v (.string ({ data := #[115] }))))]),(aP (sn ins { op:=Int.ofNat 2,a:=Int.ofNat 0,b:=Int.ofNat 0,c:=Int.ofNat 0,n:=Int.ofNat 0,args:={ n:=0,get:=λx=>Int.ofNat 0 },k:={ kind:=Int.ofNat 4,n:=Int.ofNat 0,s:={ data := #[115] } },names:={ n:=0,get:=λx=>{ data:={ toList:=[] } } },place:={ fn:=Int.ofNat 0,line:=Int.ofNat 0 },exit:=Int.negSucc 0,once:=false }))])) (False)))))))):b5 (oA l sn sx) 36 fN L QE 3 (JM sn sx l p ins aa fuel param ):=km h
abbrev uO:VS:=⟨[l5,gm],[aL aj ax,bm 0 2 aJ.n 3 aZ.n bR cW,aP aJ,cl aZ],[]⟩
def zB (sn:Sq au->au->Sq au) (sx:Sq aq->aq->Sq aq) (l:Sq Int) (p:Nat) (ins:Sq au) (aa:Sq aq) (fuel:Int) (param:Nat)  : VS:=(uO l p ins aa fuel param)
theorem aE6 (h:(WC 33 [(.c (.rt 0 0 0)),(int 10)] (oF l p ins aa fuel param) (int ((nx l p 10).1)) 0 (aL l ((nx l p 10).2))/\(WC 37 eR [(aL l ((nx l p 10).2)),(dz ins aa fuel param),(aP ins),(cl aa)] (int ((vl l (nx l p 10).2 ins).1)) 0 (aL l ((vl l (nx l p 10).2 ins).2))/\(WC 37 eR [(aL l ((vl l (nx l p 10).2 ins).2)),(dz ins aa fuel param),(aP ins),(cl aa)] (int ((vl l (vl l (nx l p 10).2 ins).2 ins).1)) 0 (aL l ((vl l (vl l (nx l p 10).2 ins).2 ins).2))/\(LC 35 eR [(aL l ((vl l (vl l (nx l p 10).2 ins).2 ins).2)),(dz ins aa fuel param),(aP ins),(cl aa),(.box (fO 4 (vl l (nx l p 10).2 ins).1 (vl l (vl l (nx l p 10).2 ins).2 ins).1 0 (cV (I.v (Value.int IntKind.i64 (IntKind.i64.wrap (5+(nx l p 10).1))))) 0))] (kP aa) [(aL l ((lv l (vl l (vl l (nx l p 10).2 ins).2 ins).2 ins fuel param).2)),(bm 0 2 ins.1 5 ((sx aa (lv l (vl l (vl l (nx l p 10).2 ins).2 ins).2 ins fuel param).1).1) fuel (↑param:Int)),(aP ins),.dead,(.box (fO 4 (vl l (nx l p 10).2 ins).1 (vl l (vl l (nx l p 10).2 ins).2 ins).1 0 (cV (I.v (Value.int IntKind.i64 (IntKind.i64.wrap (5+(nx l p 10).1))))) 0)),(cl (sx aa (lv l (vl l (vl l (nx l p 10).2 ins).2 ins).2 ins fuel param).1))]/\(LC 34 [(.c (.rt 1 0 0)),(.a (fO 4 (vl l (nx l p 10).2 ins).1 (vl l (vl l (nx l p 10).2 ins).2 ins).1 0 (cV (I.v (Value.int IntKind.i64 (IntKind.i64.wrap (5+(nx l p 10).1))))) (Int.ofNat aa.1)))] [(aL l ((lv l (vl l (vl l (nx l p 10).2 ins).2 ins).2 ins fuel param).2)),(bm 0 2 ins.1 5 ((sx aa (lv l (vl l (vl l (nx l p 10).2 ins).2 ins).2 ins fuel param).1).1) fuel (↑param:Int)),(aP ins),.dead,(.box (fO 4 (vl l (nx l p 10).2 ins).1 (vl l (vl l (nx l p 10).2 ins).2 ins).1 0 (cV (I.v (Value.int IntKind.i64 (IntKind.i64.wrap (5+(nx l p 10).1))))) (Int.ofNat aa.1))),(cl (sx aa (lv l (vl l (vl l (nx l p 10).2 ins).2 ins).2 ins fuel param).1))] (dL ins) [(aL l ((lv l (vl l (vl l (nx l p 10).2 ins).2 ins).2 ins fuel param).2)),(bm 0 6 ((sn ins (ew 4 (vl l (nx l p 10).2 ins).1 (vl l (vl l (nx l p 10).2 ins).2 ins).1 0 (cV (I.v (Value.int IntKind.i64 (IntKind.i64.wrap (5+(nx l p 10).1))))) (Int.ofNat aa.1))).1) 5 ((sx aa (lv l (vl l (vl l (nx l p 10).2 ins).2 ins).2 ins fuel param).1).1) fuel (↑param:Int)),.dead,.dead,(.box (fO 4 (vl l (nx l p 10).2 ins).1 (vl l (vl l (nx l p 10).2 ins).2 ins).1 0 (cV (I.v (Value.int IntKind.i64 (IntKind.i64.wrap (5+(nx l p 10).1))))) (Int.ofNat aa.1))),(cl (sx aa (lv l (vl l (vl l (nx l p 10).2 ins).2 ins).2 ins fuel param).1)),(aP (sn ins (ew 4 (vl l (nx l p 10).2 ins).1 (vl l (vl l (nx l p 10).2 ins).2 ins).1 0 (cV (I.v (Value.int IntKind.i64 (IntKind.i64.wrap (5+(nx l p 10).1))))) (Int.ofNat aa.1))))]/\QE (.t []) [(aL l ((lv l (vl l (vl l (nx l p 10).2 ins).2 ins).2 ins fuel param).2)),(bm 0 6 ((sn ins (ew 4 (vl l (nx l p 10).2 ins).1 (vl l (vl l (nx l p 10).2 ins).2 ins).1 0 (cV (I.v (Value.int IntKind.i64 (IntKind.i64.wrap (5+(nx l p 10).1))))) (Int.ofNat aa.1))).1) 5 ((sx aa (lv l (vl l (vl l (nx l p 10).2 ins).2 ins).2 ins fuel param).1).1) fuel (↑param:Int)),.dead,.dead,(.box (fO 4 (vl l (nx l p 10).2 ins).1 (vl l (vl l (nx l p 10).2 ins).2 ins).1 0 (cV (I.v (Value.int IntKind.i64 (IntKind.i64.wrap (5+(nx l p 10).1))))) (Int.ofNat aa.1))),(cl (sx aa (lv l (vl l (vl l (nx l p 10).2 ins).2 ins).2 ins fuel param).1)),(aP (sn ins (ew 4 (vl l (nx l p 10).2 ins).1 (vl l (vl l (nx l p 10).2 ins).2 ins).1 0 (cV (I.v (Value.int IntKind.i64 (IntKind.i64.wrap (5+(nx l p 10).1))))) (Int.ofNat aa.1))))])))))):b5 (oA l sn sx) 36 fN L QE 7 (zB sn sx l p ins aa fuel param ):=km h
def EU (sn:Sq au->au->Sq au) (sx:Sq aq->aq->Sq aq) (l:Sq Int) (p:Nat) (ins:Sq au) (aa:Sq aq) (fuel:Int) (param:Nat)  : VS:=(uO l p ins aa fuel param)
abbrev qR:D:=int ((vl aj (nx aj ax 2).2 aJ).1)
abbrev qv:ah:=aL aj ((vl aj (nx aj ax 2).2 aJ).2)
theorem ag7 (h:(WC 33 mT (oF l p ins aa fuel param) (qu l p) 0 (aL l ((nx l p 2).2))/\(WC 37 eR [(iw l p),(dz ins aa fuel param),(aP ins),(cl aa)] (qR l p ins) 0 (aL l ((vl l (nx l p 2).2 ins).2))/\(LC 35 eR [(qv l p ins),(dz ins aa fuel param),(aP ins),(cl aa),(.box (fO 3 (vl l (nx l p 2).2 ins).1 0 0 (cV (I.v (Value.int IntKind.i64 (IntKind.i64.wrap (3+(nx l p 2).1))))) 0))] (kP aa) [(aL l ((lv l (vl l (nx l p 2).2 ins).2 ins fuel param).2)),(bm 0 2 ins.1 5 ((sx aa (lv l (vl l (nx l p 2).2 ins).2 ins fuel param).1).1) fuel (↑param:Int)),(aP ins),.dead,(.box (fO 3 (vl l (nx l p 2).2 ins).1 0 0 (cV (I.v (Value.int IntKind.i64 (IntKind.i64.wrap (3+(nx l p 2).1))))) 0)),(cl (sx aa (lv l (vl l (nx l p 2).2 ins).2 ins fuel param).1))]/\(LC 34 [(.c (.rt 1 0 0)),(.a (fO 3 (vl l (nx l p 2).2 ins).1 0 0 (cV (I.v (Value.int IntKind.i64 (IntKind.i64.wrap (3+(nx l p 2).1))))) (Int.ofNat aa.1)))] [(aL l ((lv l (vl l (nx l p 2).2 ins).2 ins fuel param).2)),(bm 0 2 ins.1 5 ((sx aa (lv l (vl l (nx l p 2).2 ins).2 ins fuel param).1).1) fuel (↑param:Int)),(aP ins),.dead,(.box (fO 3 (vl l (nx l p 2).2 ins).1 0 0 (cV (I.v (Value.int IntKind.i64 (IntKind.i64.wrap (3+(nx l p 2).1))))) (Int.ofNat aa.1))),(cl (sx aa (lv l (vl l (nx l p 2).2 ins).2 ins fuel param).1))] (dL ins) [(aL l ((lv l (vl l (nx l p 2).2 ins).2 ins fuel param).2)),(bm 0 6 ((sn ins (ew 3 (vl l (nx l p 2).2 ins).1 0 0 (cV (I.v (Value.int IntKind.i64 (IntKind.i64.wrap (3+(nx l p 2).1))))) (Int.ofNat aa.1))).1) 5 ((sx aa (lv l (vl l (nx l p 2).2 ins).2 ins fuel param).1).1) fuel (↑param:Int)),.dead,.dead,(.box (fO 3 (vl l (nx l p 2).2 ins).1 0 0 (cV (I.v (Value.int IntKind.i64 (IntKind.i64.wrap (3+(nx l p 2).1))))) (Int.ofNat aa.1))),(cl (sx aa (lv l (vl l (nx l p 2).2 ins).2 ins fuel param).1)),(aP (sn ins (ew 3 (vl l (nx l p 2).2 ins).1 0 0 (cV (I.v (Value.int IntKind.i64 (IntKind.i64.wrap (3+(nx l p 2).1))))) (Int.ofNat aa.1))))]/\QE (.t []) [(aL l ((lv l (vl l (nx l p 2).2 ins).2 ins fuel param).2)),(bm 0 6 ((sn ins (ew 3 (vl l (nx l p 2).2 ins).1 0 0 (cV (I.v (Value.int IntKind.i64 (IntKind.i64.wrap (3+(nx l p 2).1))))) (Int.ofNat aa.1))).1) 5 ((sx aa (lv l (vl l (nx l p 2).2 ins).2 ins fuel param).1).1) fuel (↑param:Int)),.dead,.dead,(.box (fO 3 (vl l (nx l p 2).2 ins).1 0 0 (cV (I.v (Value.int IntKind.i64 (IntKind.i64.wrap (3+(nx l p 2).1))))) (Int.ofNat aa.1))),(cl (sx aa (lv l (vl l (nx l p 2).2 ins).2 ins fuel param).1)),(aP (sn ins (ew 3 (vl l (nx l p 2).2 ins).1 0 0 (cV (I.v (Value.int IntKind.i64 (IntKind.i64.wrap (3+(nx l p 2).1))))) (Int.ofNat aa.1))))]))))):b5 (oA l sn sx) 36 fN L QE 11 (EU sn sx l p ins aa fuel param ):=km h
def Ds (sn:Sq au->au->Sq au) (sx:Sq aq->aq->Sq aq) (l:Sq Int) (p:Nat) (ins:Sq au) (aa:Sq aq) (fuel:Int) (param:Nat)  : VS:=(uO l p ins aa fuel param)
abbrev lM:ah:=.row 3 1 2 [(ci 10),(ci 11)]
abbrev Wf:ah:=.box (fO 4 (vl aj (nx aj ax 2).2 aJ).1 (vl aj (vl aj (nx aj ax 2).2 aJ).2 aJ).1 0 10 0)
abbrev wm (aZ:Int) (bR:Nat):ah:=aL aj ((lv aj (vl aj (vl aj (nx aj ax 2).2 aJ).2 aJ).2 aJ aZ bR).2)
abbrev Fb (aj:Sq au) (ax:Sq aq->aq->Sq aq) (aJ:Sq aq) (aZ:Sq Int) (bR:Nat) (cW:Int) (de:Nat):ah:=bm 0 2 aj.1 9 ((ax aJ (lv aZ (vl aZ (vl aZ (nx aZ bR 2).2 aj).2 aj).2 aj cW de).1).1) cW (↑de:Int)
abbrev wB (aj:Sq aq->aq->Sq aq) (ax:Sq aq) (aJ:Sq Int) (aZ:Nat) (bR:Sq au) (cW:Int) (de:Nat):ah:=cl (aj ax (lv aJ (vl aJ (vl aJ (nx aJ aZ 2).2 bR).2 bR).2 bR cW de).1)
abbrev KR:List C:=fO 4 (vl aj (nx aj ax 2).2 aJ).1 (vl aj (vl aj (nx aj ax 2).2 aJ).2 aJ).1 0 10 (Int.ofNat aZ.1)
abbrev TK:ah:=.box (fO 4 (vl aj (nx aj ax 2).2 aJ).1 (vl aj (vl aj (nx aj ax 2).2 aJ).2 aJ).1 0 11 0)
abbrev KW:List C:=fO 4 (vl aj (nx aj ax 2).2 aJ).1 (vl aj (vl aj (nx aj ax 2).2 aJ).2 aJ).1 0 11 (Int.ofNat aZ.1)
abbrev aU3 (de:Sq aq->aq->Sq aq) (nB:Sq au->au->Sq au) (BD:LP):Prop:=(WC 37 eR [(iw aj ax),(dz aJ aZ bR cW),(aP aJ),(cl aZ),lM,.dead,.dead,.dead,.dead] (qR aj ax aJ) 0 (aL aj ((vl aj (nx aj ax 2).2 aJ).2))/\(WC 37 eR [(qv aj ax aJ),(dz aJ aZ bR cW),(aP aJ),(cl aZ),lM,.dead,.dead,.dead,.dead] (int ((vl aj (vl aj (nx aj ax 2).2 aJ).2 aJ).1)) 0 (aL aj ((vl aj (vl aj (nx aj ax 2).2 aJ).2 aJ).2))/\(WC 33 mT [(aL aj ax),(dz aJ aZ bR cW),(aP aJ),(cl aZ),.dead,.dead,.dead,.dead,.dead] (qu aj ax) 0 (aL aj ((nx aj ax 2).2))/\nd (bQ (nx aj ax 2).1 2) (br ((nx aj ax 2).1.toNat.beq 0) ((WC 37 eR [(iw aj ax),(dz aJ aZ bR cW),(aP aJ),(cl aZ),.dead,.dead,.dead,.dead,.dead] (qR aj ax aJ) 0 (aL aj ((vl aj (nx aj ax 2).2 aJ).2))/\(WC 37 eR [(qv aj ax aJ),(dz aJ aZ bR cW),(aP aJ),(cl aZ),.dead,.dead,.dead,.dead,.dead] (int ((vl aj (vl aj (nx aj ax 2).2 aJ).2 aJ).1)) 0 (aL aj ((vl aj (vl aj (nx aj ax 2).2 aJ).2 aJ).2))/\(LC 35 eR [(aL aj ((vl aj (vl aj (nx aj ax 2).2 aJ).2 aJ).2)),(dz aJ aZ bR cW),(aP aJ),(cl aZ),lM,.dead,.dead,.dead,(Wf aj ax aJ)] (kP aZ) [(wm aj ax aJ bR cW),(Fb aJ de aZ aj ax bR cW),(aP aJ),.dead,lM,.dead,.dead,.dead,(Wf aj ax aJ),(wB de aZ aj ax aJ bR cW)]/\(LC 34 [(.c (.rt 1 0 0)),(.a (KR aj ax aJ aZ))] [(wm aj ax aJ bR cW),(Fb aJ de aZ aj ax bR cW),(aP aJ),.dead,lM,.dead,.dead,.dead,(.box (KR aj ax aJ aZ)),(wB de aZ aj ax aJ bR cW)] (dL aJ) [(wm aj ax aJ bR cW),(bm 0 10 ((nB aJ (ew 4 (vl aj (nx aj ax 2).2 aJ).1 (vl aj (vl aj (nx aj ax 2).2 aJ).2 aJ).1 0 10 (Int.ofNat aZ.1))).1) 9 ((de aZ (lv aj (vl aj (vl aj (nx aj ax 2).2 aJ).2 aJ).2 aJ bR cW).1).1) bR (↑cW:Int)),.dead,.dead,lM,.dead,.dead,.dead,(.box (KR aj ax aJ aZ)),(wB de aZ aj ax aJ bR cW),(aP (nB aJ (ew 4 (vl aj (nx aj ax 2).2 aJ).1 (vl aj (vl aj (nx aj ax 2).2 aJ).2 aJ).1 0 10 (Int.ofNat aZ.1))))]/\BD (af 36 18) ⟨[(0,((.c (.rt 1 0 0)),[])),(2,((.c (.rt 0 0 0)),[])),(6,((int (↑aJ.1:Int)),[]))],[(aL aj ((lv aj (vl aj (vl aj (nx aj ax 2).2 aJ).2 aJ).2 aJ bR cW).2)),(bm 0 10 ((nB aJ (ew 4 (vl aj (nx aj ax 2).2 aJ).1 (vl aj (vl aj (nx aj ax 2).2 aJ).2 aJ).1 0 10 (Int.ofNat aZ.1))).1) 9 ((de aZ (lv aj (vl aj (vl aj (nx aj ax 2).2 aJ).2 aJ).2 aJ bR cW).1).1) bR (↑cW:Int)),.dead,.dead,(.row 3 1 2 [(ci 10),(ci 11)]),.dead,.dead,.dead,(.box (fO 4 (vl aj (nx aj ax 2).2 aJ).1 (vl aj (vl aj (nx aj ax 2).2 aJ).2 aJ).1 0 10 (Int.ofNat aZ.1))),(cl (de aZ (lv aj (vl aj (vl aj (nx aj ax 2).2 aJ).2 aJ).2 aJ bR cW).1)),(aP (nB aJ (ew 4 (vl aj (nx aj ax 2).2 aJ).1 (vl aj (vl aj (nx aj ax 2).2 aJ).2 aJ).1 0 10 (Int.ofNat aZ.1))))],[]⟩))))) (br ((nx aj ax 2).1.toNat.beq 1) ((WC 37 eR [(iw aj ax),(dz aJ aZ bR cW),(aP aJ),(cl aZ),.dead,.dead,.dead,.dead,.dead] (qR aj ax aJ) 0 (aL aj ((vl aj (nx aj ax 2).2 aJ).2))/\(WC 37 eR [(qv aj ax aJ),(dz aJ aZ bR cW),(aP aJ),(cl aZ),.dead,.dead,.dead,.dead,.dead] (int ((vl aj (vl aj (nx aj ax 2).2 aJ).2 aJ).1)) 0 (aL aj ((vl aj (vl aj (nx aj ax 2).2 aJ).2 aJ).2))/\(LC 35 eR [(aL aj ((vl aj (vl aj (nx aj ax 2).2 aJ).2 aJ).2)),(dz aJ aZ bR cW),(aP aJ),(cl aZ),lM,.dead,.dead,.dead,(TK aj ax aJ)] (kP aZ) [(wm aj ax aJ bR cW),(Fb aJ de aZ aj ax bR cW),(aP aJ),.dead,lM,.dead,.dead,.dead,(TK aj ax aJ),(wB de aZ aj ax aJ bR cW)]/\(LC 34 [(.c (.rt 1 0 0)),(.a (KW aj ax aJ aZ))] [(wm aj ax aJ bR cW),(Fb aJ de aZ aj ax bR cW),(aP aJ),.dead,lM,.dead,.dead,.dead,(.box (KW aj ax aJ aZ)),(wB de aZ aj ax aJ bR cW)] (dL aJ) [(wm aj ax aJ bR cW),(bm 0 10 ((nB aJ (ew 4 (vl aj (nx aj ax 2).2 aJ).1 (vl aj (vl aj (nx aj ax 2).2 aJ).2 aJ).1 0 11 (Int.ofNat aZ.1))).1) 9 ((de aZ (lv aj (vl aj (vl aj (nx aj ax 2).2 aJ).2 aJ).2 aJ bR cW).1).1) bR (↑cW:Int)),.dead,.dead,lM,.dead,.dead,.dead,(.box (KW aj ax aJ aZ)),(wB de aZ aj ax aJ bR cW),(aP (nB aJ (ew 4 (vl aj (nx aj ax 2).2 aJ).1 (vl aj (vl aj (nx aj ax 2).2 aJ).2 aJ).1 0 11 (Int.ofNat aZ.1))))]/\BD (af 36 18) ⟨[(0,((.c (.rt 1 0 0)),[])),(2,((.c (.rt 0 0 0)),[])),(6,((int (↑aJ.1:Int)),[]))],[(aL aj ((lv aj (vl aj (vl aj (nx aj ax 2).2 aJ).2 aJ).2 aJ bR cW).2)),(bm 0 10 ((nB aJ (ew 4 (vl aj (nx aj ax 2).2 aJ).1 (vl aj (vl aj (nx aj ax 2).2 aJ).2 aJ).1 0 11 (Int.ofNat aZ.1))).1) 9 ((de aZ (lv aj (vl aj (vl aj (nx aj ax 2).2 aJ).2 aJ).2 aJ bR cW).1).1) bR (↑cW:Int)),.dead,.dead,(.row 3 1 2 [(ci 10),(ci 11)]),.dead,.dead,.dead,(.box (fO 4 (vl aj (nx aj ax 2).2 aJ).1 (vl aj (vl aj (nx aj ax 2).2 aJ).2 aJ).1 0 11 (Int.ofNat aZ.1))),(cl (de aZ (lv aj (vl aj (vl aj (nx aj ax 2).2 aJ).2 aJ).2 aJ bR cW).1)),(aP (nB aJ (ew 4 (vl aj (nx aj ax 2).2 aJ).1 (vl aj (vl aj (nx aj ax 2).2 aJ).2 aJ).1 0 11 (Int.ofNat aZ.1))))],[]⟩))))) (False))))))
theorem Ya (h:(WC 33 mT [(aL l p),(dz ins aa fuel param),(aP ins),(cl aa),lM,.dead,.dead,.dead,.dead] (qu l p) 0 (aL l ((nx l p 2).2))/\nd (bQ (nx l p 2).1 2) (br ((nx l p 2).1.toNat.beq 0) (aU3 l p ins aa fuel param sx sn L) (br ((nx l p 2).1.toNat.beq 1) (aU3 l p ins aa fuel param sx sn L) (False))))):b5 (oA l sn sx) 36 fN L QE 15 (Ds sn sx l p ins aa fuel param ):=km h
abbrev vW:List ah:=[aL aj ax,bm 0 5 aJ.n 4 aZ.n bR cW,.dead,.dead,cl aZ,aP aJ]
def yg (sn:Sq au->au->Sq au) (sx:Sq aq->aq->Sq aq) (l:Sq Int) (p:Nat) (ins:Sq au) (aa:Sq aq) (fuel:Int) (param:Nat) (c:Int):VS:=⟨[l5,gm,(6,int c,[])],(vW l p ins aa fuel param),[]⟩
abbrev gA (aj:Sq au) (ax:Sq aq) (aJ:Int) (aZ:Nat):ah:=bm 0 5 aj.1 4 ax.1 aJ (↑aZ:Int)
abbrev Ak:List ah:=[(aL aj ax),(gA aJ aZ bR cW),.dead,.dead,(cl aZ),(aP aJ)]
theorem Xq (h:(WC 33 mT (Ak l p ins aa fuel param) (qu l p) 0 (aL l ((nx l p 2).2))/\(LC 35 eR [(iw l p),(gA ins aa fuel param),.dead,.dead,(cl aa),(aP ins),(.box (fO 5 c 0 0 (nx l p 2).1 0))] (kP aa) [(aL l ((lv l (nx l p 2).2 ins fuel param).2)),(bm 0 5 ins.1 7 ((sx aa (lv l (nx l p 2).2 ins fuel param).1).1) fuel (↑param:Int)),.dead,.dead,.dead,(aP ins),(.box (fO 5 c 0 0 (nx l p 2).1 0)),(cl (sx aa (lv l (nx l p 2).2 ins fuel param).1))]/\(LC 34 [(.c (.rt 1 0 0)),(.a (fO 5 c 0 0 (nx l p 2).1 (Int.ofNat aa.1)))] [(aL l ((lv l (nx l p 2).2 ins fuel param).2)),(bm 0 5 ins.1 7 ((sx aa (lv l (nx l p 2).2 ins fuel param).1).1) fuel (↑param:Int)),.dead,.dead,.dead,(aP ins),(.box (fO 5 c 0 0 (nx l p 2).1 (Int.ofNat aa.1))),(cl (sx aa (lv l (nx l p 2).2 ins fuel param).1))] (dL ins) [(aL l ((lv l (nx l p 2).2 ins fuel param).2)),(bm 0 8 ((sn ins (ew 5 c 0 0 (nx l p 2).1 (Int.ofNat aa.1))).1) 7 ((sx aa (lv l (nx l p 2).2 ins fuel param).1).1) fuel (↑param:Int)),.dead,.dead,.dead,.dead,(.box (fO 5 c 0 0 (nx l p 2).1 (Int.ofNat aa.1))),(cl (sx aa (lv l (nx l p 2).2 ins fuel param).1)),(aP (sn ins (ew 5 c 0 0 (nx l p 2).1 (Int.ofNat aa.1))))]/\QE (.t []) [(aL l ((lv l (nx l p 2).2 ins fuel param).2)),(bm 0 8 ((sn ins (ew 5 c 0 0 (nx l p 2).1 (Int.ofNat aa.1))).1) 7 ((sx aa (lv l (nx l p 2).2 ins fuel param).1).1) fuel (↑param:Int)),.dead,.dead,.dead,.dead,(.box (fO 5 c 0 0 (nx l p 2).1 (Int.ofNat aa.1))),(cl (sx aa (lv l (nx l p 2).2 ins fuel param).1)),(aP (sn ins (ew 5 c 0 0 (nx l p 2).1 (Int.ofNat aa.1))))])))):b5 (oA l sn sx) 36 fN L QE 18 (yg sn sx l p ins aa fuel param c):=km h
def yD (sn:Sq au->au->Sq au) (sx:Sq aq->aq->Sq aq) (l:Sq Int) (p:Nat) (ins:Sq au) (aa:Sq aq) (fuel:Int) (param:Nat)  : VS:=(uO l p ins aa fuel param)
abbrev MA (aZ:Int) (bR:Nat) (cW:Sq au->au->Sq au) (de:Sq aq) (nB:Sq aq->aq->Sq aq):List ah:=[(aL aj ((fJ aj ax aJ aZ bR).2)),(bm 0 5 ((cW aJ (jW aj ax aJ bR de.1)).1) 4 ((nB de (fJ aj ax aJ aZ bR).1).1) aZ (↑bR:Int)),.dead,.dead,(cl (nB de (fJ aj ax aJ aZ bR).1)),(aP (cW aJ (jW aj ax aJ bR de.1)))]
theorem aa8 (h:(LC 67 eR (oF l p ins aa fuel param) (int ((jk l p ins param).1)) (MA l p ins fuel param sn aa sx)/\L (af 36 24) ⟨[eE,b4,(8,((int ((jk l p ins param).1)),[]))],(MA l p ins fuel param sn aa sx),[]⟩)):b5 (oA l sn sx) 36 fN L QE 23 (yD sn sx l p ins aa fuel param ):=km h
def Es (sn:Sq au->au->Sq au) (sx:Sq aq->aq->Sq aq) (l:Sq Int) (p:Nat) (ins:Sq au) (aa:Sq aq) (fuel:Int) (param:Nat) (c:Int):VS:=⟨[l5,gm,(8,int c,[])],(vW l p ins aa fuel param),[]⟩
abbrev am8 (de:Int) (nB:Sq au->au->Sq au) (BD:D->List ah->Prop):Prop:=WC 33 mT (Ak aj ax aJ aZ bR cW) (qu aj ax) 0 (aL aj ((nx aj ax 2).2))/\(LC 34 [(.c (.rt 1 0 0)),(.a (fO 10 de 0 0 (nx aj ax 2).1 (-1)))] [(iw aj ax),(gA aJ aZ bR cW),.dead,.dead,(cl aZ),(aP aJ)] (dL aJ) [(iw aj ax),(bm 0 6 ((nB aJ (ew 10 de 0 0 (nx aj ax 2).1 (-1))).1) 4 aZ.1 bR (↑cW:Int)),.dead,.dead,(cl aZ),.dead,(aP (nB aJ (ew 10 de 0 0 (nx aj ax 2).1 (-1))))]/\BD (.t []) [(aL aj ((nx aj ax 2).2)),(bm 0 6 ((nB aJ (ew 10 de 0 0 (nx aj ax 2).1 (-1))).1) 4 aZ.1 bR (↑cW:Int)),.dead,.dead,(cl aZ),.dead,(aP (nB aJ (ew 10 de 0 0 (nx aj ax 2).1 (-1))))])
theorem Xl (h:(am8 l p ins aa fuel param c sn QE)):b5 (oA l sn sx) 36 fN L QE 24 (Es sn sx l p ins aa fuel param c):=km h
def FK (sn:Sq au->au->Sq au) (sx:Sq aq->aq->Sq aq) (l:Sq Int) (p:Nat) (ins:Sq au) (aa:Sq aq) (fuel:Int) (param:Nat)  : VS:=(uO l p ins aa fuel param)
theorem ab9 (h:(LC 67 eR (oF l p ins aa fuel param) (int ((jk l p ins param).1)) (MA l p ins fuel param sn aa sx)/\L (af 36 27) ⟨[eE,b4,(9,((int ((jk l p ins param).1)),[]))],(MA l p ins fuel param sn aa sx),[]⟩)):b5 (oA l sn sx) 36 fN L QE 26 (FK sn sx l p ins aa fuel param ):=km h
def DB (sn:Sq au->au->Sq au) (sx:Sq aq->aq->Sq aq) (l:Sq Int) (p:Nat) (ins:Sq au) (aa:Sq aq) (fuel:Int) (param:Nat) (c:Int):VS:=⟨[l5,gm,(9,int c,[])],(vW l p ins aa fuel param),[]⟩
theorem Z1 (h:(WC 37 eR (Ak l p ins aa fuel param) (int ((vl l p ins).1)) 0 (aL l ((vl l p ins).2))/\(WC 33 mT [(aL l ((vl l p ins).2)),(gA ins aa fuel param),.dead,.dead,(cl aa),(aP ins)] (int ((nx l (vl l p ins).2 2).1)) 0 (aL l ((nx l (vl l p ins).2 2).2))/\(LC 34 [(.c (.rt 1 0 0)),(.a (fO 11 c (vl l p ins).1 0 (nx l (vl l p ins).2 2).1 (-1)))] [(Bj l p ins),(gA ins aa fuel param),.dead,.dead,(cl aa),(aP ins)] (dL ins) [(Bj l p ins),(bm 0 6 ((sn ins (ew 11 c (vl l p ins).1 0 (nx l (vl l p ins).2 2).1 (-1))).1) 4 aa.1 fuel (↑param:Int)),.dead,.dead,(cl aa),.dead,(aP (sn ins (ew 11 c (vl l p ins).1 0 (nx l (vl l p ins).2 2).1 (-1))))]/\QE (.t []) [(aL l ((nx l (vl l p ins).2 2).2)),(bm 0 6 ((sn ins (ew 11 c (vl l p ins).1 0 (nx l (vl l p ins).2 2).1 (-1))).1) 4 aa.1 fuel (↑param:Int)),.dead,.dead,(cl aa),.dead,(aP (sn ins (ew 11 c (vl l p ins).1 0 (nx l (vl l p ins).2 2).1 (-1))))])))):b5 (oA l sn sx) 36 fN L QE 27 (DB sn sx l p ins aa fuel param c):=km h
def ye (sn:Sq au->au->Sq au) (sx:Sq aq->aq->Sq aq) (l:Sq Int) (p:Nat) (ins:Sq au) (aa:Sq aq) (fuel:Int) (param:Nat)  : VS:=(uO l p ins aa fuel param)
abbrev Rx (aZ:Int) (bR:Nat) (cW:Sq au->au->Sq au) (de:Sq aq) (nB:Sq aq->aq->Sq aq):List ah:=[(aL aj ((lv aj ax aJ aZ bR).2)),(bm 0 6 ((cW aJ (ew 15 0 0 0 32 (Int.ofNat de.1))).1) 5 ((nB de (lv aj ax aJ aZ bR).1).1) aZ (↑bR:Int)),.dead,.dead,(.box (fO 15 0 0 0 32 (Int.ofNat de.1))),(cl (nB de (lv aj ax aJ aZ bR).1)),(aP (cW aJ (ew 15 0 0 0 32 (Int.ofNat de.1))))]
theorem Zp (h:(LC 35 eR [(aL l p),(dz ins aa fuel param),(aP ins),(cl aa),(.box (fO 15 0 0 0 32 0))] (kP aa) [(aL l ((lv l p ins fuel param).2)),(bm 0 2 ins.1 5 ((sx aa (lv l p ins fuel param).1).1) fuel (↑param:Int)),(aP ins),.dead,(.box (fO 15 0 0 0 32 0)),(cl (sx aa (lv l p ins fuel param).1))]/\(LC 34 [(.c (.rt 1 0 0)),(.a (fO 15 0 0 0 32 (Int.ofNat aa.1)))] [(aL l ((lv l p ins fuel param).2)),(bm 0 2 ins.1 5 ((sx aa (lv l p ins fuel param).1).1) fuel (↑param:Int)),(aP ins),.dead,(.box (fO 15 0 0 0 32 (Int.ofNat aa.1))),(cl (sx aa (lv l p ins fuel param).1))] (dL ins) (Rx l p ins fuel param sn aa sx)/\L (af 36 33) ⟨[eE,b4],(Rx l p ins fuel param sn aa sx),[]⟩))):b5 (oA l sn sx) 36 fN L QE 30 (ye sn sx l p ins aa fuel param ):=km h
def DL (sn:Sq au->au->Sq au) (sx:Sq aq->aq->Sq aq) (l:Sq Int) (p:Nat) (ins:Sq au) (aa:Sq aq) (fuel:Int) (param:Nat)  : VS:=⟨[l5,gm],(vW l p ins aa fuel param),[]⟩
abbrev ah4 (aJ:Sq au->au->Sq au) (aZ:Sq au) (bR:Sq aq) (cW:Int) (de:Nat):List ah:=[(aL aj ax),(bm 0 6 ((aJ aZ { op:=Int.ofNat 16,a:=Int.ofNat 0,b:=Int.ofNat 0,c:=Int.ofNat 0,n:=Int.ofNat 0,args:={ n:=0,get:=λx=>Int.ofNat 0 },k:={ kind:=Int.ofNat 0,n:=Int.ofNat 0,s:={ data:={ toList:=[] } } },names:={ n:=2,get:=λi=>rS (cA (BU.get i)) },place:={ fn:=Int.ofNat 0,line:=Int.ofNat 0 },exit:=Int.negSucc 0,once:=false }).1) 4 bR.1 cW (↑de:Int)),.dead,.dead,(cl bR),.dead,(aP (aJ aZ { op:=Int.ofNat 16,a:=Int.ofNat 0,b:=Int.ofNat 0,c:=Int.ofNat 0,n:=Int.ofNat 0,args:={ n:=0,get:=λx=>Int.ofNat 0 },k:={ kind:=Int.ofNat 0,n:=Int.ofNat 0,s:={ data:={ toList:=[] } } },names:={ n:=2,get:=λi=>rS (cA (BU.get i)) },place:={ fn:=Int.ofNat 0,line:=Int.ofNat 0 },exit:=Int.negSucc 0,once:=false }))]
theorem Yx (h:(LC 48 [] [] (.c ph) []/\(LC 34 [(.c (.rt 1 0 0)),(.a [(ci 16),(ci 0),(ci 0),(ci 0),(ci 0),bS,(ci 0),(ci 0),dH,ph,(ci 0),(ci 0),(ci (-1)),ea])] (Ak l p ins aa fuel param) (dL ins) (ah4 l p sn ins aa fuel param)/\L (af 36 34) ⟨[eE,b4,(11,((dL ins),[]))],(ah4 l p sn ins aa fuel param),[]⟩))):b5 (oA l sn sx) 36 fN L QE 33 (DL sn sx l p ins aa fuel param ):=km h
def DA (sn:Sq au->au->Sq au) (sx:Sq aq->aq->Sq aq) (l:Sq Int) (p:Nat) (ins:Sq au) (aa:Sq aq) (fuel:Int) (param:Nat) (c:Int):VS:=⟨[l5,gm,(11,int c,[])],(vW l p ins aa fuel param),[]⟩
abbrev Su (aJ:Nat) (aZ:Sq au->au->Sq au) (bR:Sq au) (cW:Int) (de:Sq aq) (nB:Int):List ah:=[(aL aj ((nx aj (nx aj ax (↑aJ:Int)).2 2).2)),(bm 0 6 ((aZ bR (ew 11 cW (nx aj ax (↑aJ:Int)).1 0 (nx aj (nx aj ax (↑aJ:Int)).2 2).1 (-1))).1) 4 de.1 nB (↑aJ:Int)),.dead,.dead,(cl de),.dead,(aP (aZ bR (ew 11 cW (nx aj ax (↑aJ:Int)).1 0 (nx aj (nx aj ax (↑aJ:Int)).2 2).1 (-1))))]
theorem ab1 (h:(WC 33 [(.c (.rt 0 0 0)),(fp param)] (Ak l p ins aa fuel param) (int ((nx l p (↑param:Int)).1)) 0 (aL l ((nx l p (↑param:Int)).2))/\(WC 33 mT [(aL l ((nx l p (↑param:Int)).2)),(gA ins aa fuel param),.dead,.dead,(cl aa),(aP ins)] (int ((nx l (nx l p (↑param:Int)).2 2).1)) 0 (aL l ((nx l (nx l p (↑param:Int)).2 2).2))/\(LC 34 [(.c (.rt 1 0 0)),(.a (fO 11 c (nx l p (↑param:Int)).1 0 (nx l (nx l p (↑param:Int)).2 2).1 (-1)))] [(aL l ((nx l (nx l p (↑param:Int)).2 2).2)),(gA ins aa fuel param),.dead,.dead,(cl aa),(aP ins)] (dL ins) (Su l p param sn ins c aa fuel)/\L (af 36 35) ⟨[eE,b4,(11,((int c),[]))],(Su l p param sn ins c aa fuel),[]⟩)))):b5 (oA l sn sx) 36 fN L QE 34 (DA sn sx l p ins aa fuel param c):=km h
def ES (sn:Sq au->au->Sq au) (sx:Sq aq->aq->Sq aq) (l:Sq Int) (p:Nat) (ins:Sq au) (aa:Sq aq) (fuel:Int) (param:Nat) (c:Int):VS:=⟨[l5,gm,(11,int c,[])],(vW l p ins aa fuel param),[]⟩
theorem Yu (h:(am8 l p ins aa fuel param c sn QE)):b5 (oA l sn sx) 36 fN L QE 35 (ES sn sx l p ins aa fuel param c):=km h
def EX (sn:Sq au->au->Sq au) (sx:Sq aq->aq->Sq aq) (l:Sq Int) (p:Nat) (ins:Sq au) (aa:Sq aq) (fuel:Int) (param:Nat)  : VS:=(uO l p ins aa fuel param)
abbrev KK:List C:=fO 9 (vl aj ax aJ).1 (vl aj (vl aj ax aJ).2 aJ).1 0 0 (Int.ofNat aZ.1)
abbrev Tp (aZ:Int) (bR:Nat) (cW:Sq au->au->Sq au) (de:Sq aq) (nB:Sq aq->aq->Sq aq):List ah:=[(aL aj ((lv aj (vl aj (vl aj ax aJ).2 aJ).2 aJ aZ bR).2)),(bm 0 6 ((cW aJ (ew 9 (vl aj ax aJ).1 (vl aj (vl aj ax aJ).2 aJ).1 0 0 (Int.ofNat de.1))).1) 5 ((nB de (lv aj (vl aj (vl aj ax aJ).2 aJ).2 aJ aZ bR).1).1) aZ (↑bR:Int)),.dead,.dead,(.box (KK aj ax aJ de)),(cl (nB de (lv aj (vl aj (vl aj ax aJ).2 aJ).2 aJ aZ bR).1)),(aP (cW aJ (ew 9 (vl aj ax aJ).1 (vl aj (vl aj ax aJ).2 aJ).1 0 0 (Int.ofNat de.1))))]
theorem Zq (h:(WC 37 eR (oF l p ins aa fuel param) (int ((vl l p ins).1)) 0 (aL l ((vl l p ins).2))/\(WC 37 eR [(aL l ((vl l p ins).2)),(dz ins aa fuel param),(aP ins),(cl aa)] (int ((vl l (vl l p ins).2 ins).1)) 0 (aL l ((vl l (vl l p ins).2 ins).2))/\(LC 35 eR [(aL l ((vl l (vl l p ins).2 ins).2)),(dz ins aa fuel param),(aP ins),(cl aa),(.box (fO 9 (vl l p ins).1 (vl l (vl l p ins).2 ins).1 0 0 0))] (kP aa) [(aL l ((lv l (vl l (vl l p ins).2 ins).2 ins fuel param).2)),(bm 0 2 ins.1 5 ((sx aa (lv l (vl l (vl l p ins).2 ins).2 ins fuel param).1).1) fuel (↑param:Int)),(aP ins),.dead,(.box (fO 9 (vl l p ins).1 (vl l (vl l p ins).2 ins).1 0 0 0)),(cl (sx aa (lv l (vl l (vl l p ins).2 ins).2 ins fuel param).1))]/\(LC 34 [(.c (.rt 1 0 0)),(.a (KK l p ins aa))] [(aL l ((lv l (vl l (vl l p ins).2 ins).2 ins fuel param).2)),(bm 0 2 ins.1 5 ((sx aa (lv l (vl l (vl l p ins).2 ins).2 ins fuel param).1).1) fuel (↑param:Int)),(aP ins),.dead,(.box (KK l p ins aa)),(cl (sx aa (lv l (vl l (vl l p ins).2 ins).2 ins fuel param).1))] (dL ins) (Tp l p ins fuel param sn aa sx)/\L (af 36 40) ⟨[eE,b4,(12,((.c (.rt 4 0 0)),[]))],(Tp l p ins fuel param sn aa sx),[]⟩))))):b5 (oA l sn sx) 36 fN L QE 37 (EX sn sx l p ins aa fuel param ):=km h
def Ev (sn:Sq au->au->Sq au) (sx:Sq aq->aq->Sq aq) (l:Sq Int) (p:Nat) (ins:Sq au) (aa:Sq aq) (fuel:Int) (param:Nat) (x:au):VS:=⟨[l5,gm,(12,.c (.rt 6 0 0),[])],[aL l p,bm 0 5 ins.n 4 aa.n fuel param,.dead,.dead,cl aa,aP ins,.box (lift (bW x))],[]⟩
abbrev Sp (aZ:Sq au->au->Sq au) (bR:au) (cW:Sq aq) (de:Int) (nB:Nat):List ah:=[(qv aj ax aJ),(bm 0 9 ((aZ aJ (ew 13 bR.2 bR.3 (vl aj (nx aj ax 2).2 aJ).1 0 (-1))).1) 4 cW.1 de (↑nB:Int)),.dead,.dead,(cl cW),.dead,(cG bR),.dead,.dead,(aP (aZ aJ (ew 13 bR.2 bR.3 (vl aj (nx aj ax 2).2 aJ).1 0 (-1))))]
theorem ZX (h:(WC 33 mT [(aL l p),(gA ins aa fuel param),.dead,.dead,(cl aa),(aP ins),(cG x)] (qu l p) 0 (aL l ((nx l p 2).2))/\br ((nx l p 2).1==0) ((LC 34 [(.c (.rt 1 0 0)),(.a (fO 12 x.2 x.3 0 0 (-1)))] [(iw l p),(gA ins aa fuel param),.dead,.dead,(cl aa),(aP ins),(cG x)] (dL ins) [(iw l p),(bm 0 7 ((sn ins (ew 12 x.2 x.3 0 0 (-1))).1) 4 aa.1 fuel (↑param:Int)),.dead,.dead,(cl aa),.dead,(cG x),(aP (sn ins (ew 12 x.2 x.3 0 0 (-1))))]/\QE (.t []) [(aL l ((nx l p 2).2)),(bm 0 7 ((sn ins (ew 12 x.2 x.3 0 0 (-1))).1) 4 aa.1 fuel (↑param:Int)),.dead,.dead,(cl aa),.dead,(.box (lift (bW (x)))),(aP (sn ins (ew 12 x.2 x.3 0 0 (-1))))])) ((WC 37 eR [(iw l p),(gA ins aa fuel param),.dead,.dead,(cl aa),(aP ins),(cG x),.dead,.dead] (qR l p ins) 0 (aL l ((vl l (nx l p 2).2 ins).2))/\(LC 34 [(.c (.rt 1 0 0)),(.a (fO 13 x.2 x.3 (vl l (nx l p 2).2 ins).1 0 (-1)))] [(qv l p ins),(gA ins aa fuel param),.dead,.dead,(cl aa),(aP ins),(cG x),.dead,.dead] (dL ins) (Sp l p ins sn x aa fuel param)/\(WC 37 eR [(iw l p),(gA ins aa fuel param),.dead,.dead,(cl aa),(aP ins),(cG x),.dead,.dead] (qR l p ins) 0 (aL l ((vl l (nx l p 2).2 ins).2))/\(LC 34 [(.c (.rt 1 0 0)),(.a (fO 13 x.2 x.3 (vl l (nx l p 2).2 ins).1 0 (-1)))] [(qv l p ins),(gA ins aa fuel param),.dead,.dead,(cl aa),(aP ins),(cG x),.dead,.dead] (dL ins) (Sp l p ins sn x aa fuel param)/\QE (.t []) [(aL l ((vl l (nx l p 2).2 ins).2)),(bm 0 9 ((sn ins (ew 13 x.2 x.3 (vl l (nx l p 2).2 ins).1 0 (-1))).1) 4 aa.1 fuel (↑param:Int)),.dead,.dead,(cl aa),.dead,(.box (lift (bW (x)))),.dead,.dead,(aP (sn ins (ew 13 x.2 x.3 (vl l (nx l p 2).2 ins).1 0 (-1))))]))))))):b5 (oA l sn sx) 36 fN L QE 40 (Ev sn sx l p ins aa fuel param x):=km h
def Gq (sn:Sq au->au->Sq au) (sx:Sq aq->aq->Sq aq) (l:Sq Int) (p:Nat) (ins:Sq au) (aa:Sq aq) (fuel:Int) (param:Nat)  : VS:=(uO l p ins aa fuel param)
abbrev W4 (aZ:Int) (bR:Nat) (cW:Sq au->au->Sq au) (de:Sq aq) (nB:Sq aq->aq->Sq aq):List ah:=[(aL aj ((lv aj (vl aj ax aJ).2 aJ aZ bR).2)),(bm 0 6 ((cW aJ (ew 8 (vl aj ax aJ).1 0 0 0 (Int.ofNat de.1))).1) 5 ((nB de (lv aj (vl aj ax aJ).2 aJ aZ bR).1).1) aZ (↑bR:Int)),.dead,.dead,(.box (fO 8 (vl aj ax aJ).1 0 0 0 (Int.ofNat de.1))),(cl (nB de (lv aj (vl aj ax aJ).2 aJ aZ bR).1)),(aP (cW aJ (ew 8 (vl aj ax aJ).1 0 0 0 (Int.ofNat de.1))))]
theorem Yn (h:(WC 37 eR (oF l p ins aa fuel param) (int ((vl l p ins).1)) 0 (aL l ((vl l p ins).2))/\(LC 35 eR [(aL l ((vl l p ins).2)),(dz ins aa fuel param),(aP ins),(cl aa),(.box (fO 8 (vl l p ins).1 0 0 0 0))] (kP aa) [(aL l ((lv l (vl l p ins).2 ins fuel param).2)),(bm 0 2 ins.1 5 ((sx aa (lv l (vl l p ins).2 ins fuel param).1).1) fuel (↑param:Int)),(aP ins),.dead,(.box (fO 8 (vl l p ins).1 0 0 0 0)),(cl (sx aa (lv l (vl l p ins).2 ins fuel param).1))]/\(LC 34 [(.c (.rt 1 0 0)),(.a (fO 8 (vl l p ins).1 0 0 0 (Int.ofNat aa.1)))] [(aL l ((lv l (vl l p ins).2 ins fuel param).2)),(bm 0 2 ins.1 5 ((sx aa (lv l (vl l p ins).2 ins fuel param).1).1) fuel (↑param:Int)),(aP ins),.dead,(.box (fO 8 (vl l p ins).1 0 0 0 (Int.ofNat aa.1))),(cl (sx aa (lv l (vl l p ins).2 ins fuel param).1))] (dL ins) (W4 l p ins fuel param sn aa sx)/\L (af 36 47) ⟨[eE,(13,((.c (.rt 4 0 0)),[]))],(W4 l p ins fuel param sn aa sx),[]⟩)))):b5 (oA l sn sx) 36 fN L QE 44 (Gq sn sx l p ins aa fuel param ):=km h
def DE (sn:Sq au->au->Sq au) (sx:Sq aq->aq->Sq aq) (l:Sq Int) (p:Nat) (ins:Sq au) (aa:Sq aq) (fuel:Int) (param:Nat) (x:au):VS:=⟨[l5,(13,.c (.rt 6 0 0),[])],[aL l p,bm 0 5 ins.n 4 aa.n fuel param,.dead,.dead,cl aa,aP ins,.box (lift (bW x))],[]⟩
theorem Xm (h:(LC 34 [(.c (.rt 1 0 0)),(.a (fO 14 x.2 0 0 0 (-1)))] [(aL l p),(gA ins aa fuel param),.dead,.dead,(cl aa),(aP ins),(cG x)] (dL ins) [(aL l p),(bm 0 7 ((sn ins (ew 14 x.2 0 0 0 (-1))).1) 4 aa.1 fuel (↑param:Int)),.dead,.dead,(cl aa),.dead,(cG x),(aP (sn ins (ew 14 x.2 0 0 0 (-1))))]/\QE (.t []) [(aL l p),(bm 0 7 ((sn ins (ew 14 x.2 0 0 0 (-1))).1) 4 aa.1 fuel (↑param:Int)),.dead,.dead,(cl aa),.dead,(.box (lift (bW (x)))),(aP (sn ins (ew 14 x.2 0 0 0 (-1))))])):b5 (oA l sn sx) 36 fN L QE 47 (DE sn sx l p ins aa fuel param x):=km h
def Dw (sn:Sq au->au->Sq au) (sx:Sq aq->aq->Sq aq) (l:Sq Int) (p:Nat) (ins:Sq au) (aa:Sq aq) (fuel:Int) (param:Nat)  : VS:=(uO l p ins aa fuel param)
theorem ae9 (h:(WC 37 eR (oF l p ins aa fuel param) (int ((vl l p ins).1)) 0 (aL l ((vl l p ins).2))/\(WC 33 [(.c (.rt 0 0 0)),(int 4)] [(aL l ((vl l p ins).2)),(dz ins aa fuel param),(aP ins),(cl aa)] (int ((nx l (vl l p ins).2 4).1)) 0 (aL l ((nx l (vl l p ins).2 4).2))/\(LC 35 eR [(aL l ((nx l (vl l p ins).2 4).2)),(dz ins aa fuel param),(aP ins),(cl aa),(.box (fO 6 (vl l p ins).1 0 0 (cV (I.v (Value.int IntKind.i64 (IntKind.i64.wrap (1+(nx l (vl l p ins).2 4).1))))) 0))] (kP aa) [(aL l ((lv l (nx l (vl l p ins).2 4).2 ins fuel param).2)),(bm 0 2 ins.1 5 ((sx aa (lv l (nx l (vl l p ins).2 4).2 ins fuel param).1).1) fuel (↑param:Int)),(aP ins),.dead,(.box (fO 6 (vl l p ins).1 0 0 (cV (I.v (Value.int IntKind.i64 (IntKind.i64.wrap (1+(nx l (vl l p ins).2 4).1))))) 0)),(cl (sx aa (lv l (nx l (vl l p ins).2 4).2 ins fuel param).1))]/\(LC 34 [(.c (.rt 1 0 0)),(.a (fO 6 (vl l p ins).1 0 0 (cV (I.v (Value.int IntKind.i64 (IntKind.i64.wrap (1+(nx l (vl l p ins).2 4).1))))) (Int.ofNat aa.1)))] [(aL l ((lv l (nx l (vl l p ins).2 4).2 ins fuel param).2)),(bm 0 2 ins.1 5 ((sx aa (lv l (nx l (vl l p ins).2 4).2 ins fuel param).1).1) fuel (↑param:Int)),(aP ins),.dead,(.box (fO 6 (vl l p ins).1 0 0 (cV (I.v (Value.int IntKind.i64 (IntKind.i64.wrap (1+(nx l (vl l p ins).2 4).1))))) (Int.ofNat aa.1))),(cl (sx aa (lv l (nx l (vl l p ins).2 4).2 ins fuel param).1))] (dL ins) [(aL l ((lv l (nx l (vl l p ins).2 4).2 ins fuel param).2)),(bm 0 6 ((sn ins (ew 6 (vl l p ins).1 0 0 (cV (I.v (Value.int IntKind.i64 (IntKind.i64.wrap (1+(nx l (vl l p ins).2 4).1))))) (Int.ofNat aa.1))).1) 5 ((sx aa (lv l (nx l (vl l p ins).2 4).2 ins fuel param).1).1) fuel (↑param:Int)),.dead,.dead,(.box (fO 6 (vl l p ins).1 0 0 (cV (I.v (Value.int IntKind.i64 (IntKind.i64.wrap (1+(nx l (vl l p ins).2 4).1))))) (Int.ofNat aa.1))),(cl (sx aa (lv l (nx l (vl l p ins).2 4).2 ins fuel param).1)),(aP (sn ins (ew 6 (vl l p ins).1 0 0 (cV (I.v (Value.int IntKind.i64 (IntKind.i64.wrap (1+(nx l (vl l p ins).2 4).1))))) (Int.ofNat aa.1))))]/\L (af 36 52) ⟨[eE,b4,(14,((.c (.rt 4 0 0)),[]))],[(aL l ((lv l (nx l (vl l p ins).2 4).2 ins fuel param).2)),(bm 0 6 ((sn ins (ew 6 (vl l p ins).1 0 0 (cV (I.v (Value.int IntKind.i64 (IntKind.i64.wrap (1+(nx l (vl l p ins).2 4).1))))) (Int.ofNat aa.1))).1) 5 ((sx aa (lv l (nx l (vl l p ins).2 4).2 ins fuel param).1).1) fuel (↑param:Int)),.dead,.dead,(.box (fO 6 (vl l p ins).1 0 0 (cV (I.v (Value.int IntKind.i64 (IntKind.i64.wrap (1+(nx l (vl l p ins).2 4).1))))) (Int.ofNat aa.1))),(cl (sx aa (lv l (nx l (vl l p ins).2 4).2 ins fuel param).1)),(aP (sn ins (ew 6 (vl l p ins).1 0 0 (cV (I.v (Value.int IntKind.i64 (IntKind.i64.wrap (1+(nx l (vl l p ins).2 4).1))))) (Int.ofNat aa.1))))],[]⟩))))):b5 (oA l sn sx) 36 fN L QE 49 (Dw sn sx l p ins aa fuel param ):=km h
def D2 (sn:Sq au->au->Sq au) (sx:Sq aq->aq->Sq aq) (l:Sq Int) (p:Nat) (ins:Sq au) (aa:Sq aq) (fuel:Int) (param:Nat) (x:au):VS:=⟨[l5,gm,(14,.c (.rt 6 0 0),[])],[aL l p,bm 0 5 ins.n 4 aa.n fuel param,.dead,.dead,cl aa,aP ins,.box (lift (bW x))],[]⟩
abbrev UX (aj:au) (ax:Sq Int) (aJ:Nat):List D:=[(.c (.rt 1 0 0)),(.a [(ci 19),(ci aj.2),(ci 0),(ci 0),(ci 0),bS,(ci 0),(ci 0),dH,bS,(ci 0),(ci ((nx ax aJ 3).1)),(ci (-1)),ea])]
theorem ag6 (h:(WC 33 [(.c (.rt 0 0 0)),(int 3)] [(aL l p),(gA ins aa fuel param),.dead,.dead,(cl aa),(aP ins),(cG x),.dead,.dead] (int ((nx l p 3).1)) 0 (aL l ((nx l p 3).2))/\(LC 34 (UX x l p) [(aL l ((nx l p 3).2)),(gA ins aa fuel param),.dead,.dead,(cl aa),(aP ins),(cG x),.dead,.dead] (dL ins) [(aL l ((nx l p 3).2)),(bm 0 9 ((sn ins { op:=Int.ofNat 19,a:=x.2,b:=Int.ofNat 0,c:=Int.ofNat 0,n:=Int.ofNat 0,args:={ n:=0,get:=λx=>Int.ofNat 0 },k:={ kind:=Int.ofNat 0,n:=Int.ofNat 0,s:={ data:={ toList:=[] } } },names:={ n:=0,get:=λx=>{ data:={ toList:=[] } } },place:={ fn:=Int.ofNat 0,line:=(nx l p 3).1 },exit:=Int.negSucc 0,once:=false }).1) 4 aa.1 fuel (↑param:Int)),.dead,.dead,(cl aa),.dead,(cG x),.dead,.dead,(aP (sn ins { op:=Int.ofNat 19,a:=x.2,b:=Int.ofNat 0,c:=Int.ofNat 0,n:=Int.ofNat 0,args:={ n:=0,get:=λx=>Int.ofNat 0 },k:={ kind:=Int.ofNat 0,n:=Int.ofNat 0,s:={ data:={ toList:=[] } } },names:={ n:=0,get:=λx=>{ data:={ toList:=[] } } },place:={ fn:=Int.ofNat 0,line:=(nx l p 3).1 },exit:=Int.negSucc 0,once:=false }))]/\(WC 33 [(.c (.rt 0 0 0)),(int 3)] [(aL l p),(gA ins aa fuel param),.dead,.dead,(cl aa),(aP ins),(cG x),.dead,.dead] (int ((nx l p 3).1)) 0 (aL l ((nx l p 3).2))/\(LC 34 (UX x l p) [(aL l ((nx l p 3).2)),(gA ins aa fuel param),.dead,.dead,(cl aa),(aP ins),(cG x),.dead,.dead] (dL ins) [(aL l ((nx l p 3).2)),(bm 0 9 ((sn ins { op:=Int.ofNat 19,a:=x.2,b:=Int.ofNat 0,c:=Int.ofNat 0,n:=Int.ofNat 0,args:={ n:=0,get:=λx=>Int.ofNat 0 },k:={ kind:=Int.ofNat 0,n:=Int.ofNat 0,s:={ data:={ toList:=[] } } },names:={ n:=0,get:=λx=>{ data:={ toList:=[] } } },place:={ fn:=Int.ofNat 0,line:=(nx l p 3).1 },exit:=Int.negSucc 0,once:=false }).1) 4 aa.1 fuel (↑param:Int)),.dead,.dead,(cl aa),.dead,(cG x),.dead,.dead,(aP (sn ins { op:=Int.ofNat 19,a:=x.2,b:=Int.ofNat 0,c:=Int.ofNat 0,n:=Int.ofNat 0,args:={ n:=0,get:=λx=>Int.ofNat 0 },k:={ kind:=Int.ofNat 0,n:=Int.ofNat 0,s:={ data:={ toList:=[] } } },names:={ n:=0,get:=λx=>{ data:={ toList:=[] } } },place:={ fn:=Int.ofNat 0,line:=(nx l p 3).1 },exit:=Int.negSucc 0,once:=false }))]/\QE (.t []) [(aL l ((nx l p 3).2)),(bm 0 9 ((sn ins { op:=Int.ofNat 19,a:=x.2,b:=Int.ofNat 0,c:=Int.ofNat 0,n:=Int.ofNat 0,args:={ n:=0,get:=λx=>Int.ofNat 0 },k:={ kind:=Int.ofNat 0,n:=Int.ofNat 0,s:={ data:={ toList:=[] } } },names:={ n:=0,get:=λx=>{ data:={ toList:=[] } } },place:={ fn:=Int.ofNat 0,line:=(nx l p 3).1 },exit:=Int.negSucc 0,once:=false }).1) 4 aa.1 fuel (↑param:Int)),.dead,.dead,(cl aa),.dead,(.box (lift (bW (x)))),.dead,.dead,(aP (sn ins { op:=Int.ofNat 19,a:=x.2,b:=Int.ofNat 0,c:=Int.ofNat 0,n:=Int.ofNat 0,args:={ n:=0,get:=λx=>Int.ofNat 0 },k:={ kind:=Int.ofNat 0,n:=Int.ofNat 0,s:={ data:={ toList:=[] } } },names:={ n:=0,get:=λx=>{ data:={ toList:=[] } } },place:={ fn:=Int.ofNat 0,line:=(nx l p 3).1 },exit:=Int.negSucc 0,once:=false }))]))))):b5 (oA l sn sx) 36 fN L QE 52 (D2 sn sx l p ins aa fuel param x):=km h
theorem ZW (hl:l.n<=maxLen) (hI:ins.n<=930) (hE:aa.n<=930) (hF:0<=fuel/\fuel<=1000) (hP:param<=1000) (c:Int):ae 36 4 (Ce l s0 fuel param (k35 l c ⟨p,ins,aa⟩)) (af 36 35) (ES cy cH l p ins aa fuel param c):=by
 refine aG (X:=oA l cy cH) (stop:=fN) (Yu _ _ cy cH l p ins aa fuel param c ?_)
 refine ⟨e5 l _ _ hl rfl,?_⟩
 refine ⟨fq (m:=0) (q:=1) (i:=5) (j:=4) _ _ (by grind) (by first|exact aX.refl _|exact jK (by repeat' (first|exact aF.nil|refine aF.cons ?_ ?_|exact dI.refl _|exact dI.nil _ _))) rfl (aQ rfl) rfl rfl (aQ rfl),?_⟩
 exact ⟨[0,1,2,3,4,6],.t [],_,_,rfl,(rc (rc (rc (rc (rc (rc .nil)))))),⟨6,aQ rfl,aQ rfl,rfl,rfl,aX.refl _,⟨.inr rfl,⟨.inr rfl,⟨.inr rfl,⟨.inr rfl,⟨rfl,⟨rfl,trivial⟩⟩⟩⟩⟩⟩⟩⟩
theorem YL (hl:l.n<=maxLen) (hI:ins.n<=910) (hE:aa.n<=910) (hF:0<=fuel/\fuel<=1000) (hP:param<=1000) (c:Int):ae 36 4 (Ce l s0 fuel param (k35 l c ⟨p,ins,aa⟩)) (af 36 24) (Es cy cH l p ins aa fuel param c):=by
 refine aG (X:=oA l cy cH) (stop:=fN) (Xl _ _ cy cH l p ins aa fuel param c ?_)
 refine ⟨e5 l _ _ hl rfl,?_⟩
 refine ⟨fq (m:=0) (q:=1) (i:=5) (j:=4) _ _ (by grind) (by first|exact aX.refl _|exact jK (by repeat' (first|exact aF.nil|refine aF.cons ?_ ?_|exact dI.refl _|exact dI.nil _ _))) rfl (aQ rfl) rfl rfl (aQ rfl),?_⟩
 exact ⟨[0,1,2,3,4,6],.t [],_,_,rfl,(rc (rc (rc (rc (rc (rc .nil)))))),⟨6,aQ rfl,aQ rfl,rfl,rfl,aX.refl _,⟨.inr rfl,⟨.inr rfl,⟨.inr rfl,⟨.inr rfl,⟨rfl,⟨rfl,trivial⟩⟩⟩⟩⟩⟩⟩⟩
theorem Z6 (hl:l.n<=maxLen) (hI:ins.n<=920) (hE:aa.n<=920) (hF:0<=fuel/\fuel<=1000) (hP:param<=1000) (c:Int):ae 36 4 (Ce l s0 fuel param (k34 l param c ⟨p,ins,aa⟩)) (af 36 34) (DA cy cH l p ins aa fuel param c):=by
 refine aG (X:=oA l cy cH) (stop:=fN) (ab1 _ _ cy cH l p ins aa fuel param c ?_)
 refine ⟨e5 l _ _ hl rfl,?_⟩
 refine ⟨e5 l _ _ hl rfl,?_⟩
 refine ⟨fq (m:=0) (q:=1) (i:=5) (j:=4) _ _ (by grind) (by first|exact aX.refl _|exact jK (by repeat' (first|exact aF.nil|refine aF.cons ?_ ?_|exact dI.refl _|exact dI.nil _ _))) rfl (aQ rfl) rfl rfl (aQ rfl),?_⟩
 exact ae.rename [0,1,2,3,4,6] rfl (ae.lr (ES cy cH l ((nx l (nx l p (↑param:Int)).2 2).2) ((cy ins (ew 11 c (nx l p (↑param:Int)).1 0 (nx l (nx l p (↑param:Int)).2 2).1 (-1)))) (aa) fuel param (c)) (ZW s0 l ((nx l (nx l p (↑param:Int)).2 2).2) ((cy ins (ew 11 c (nx l p (↑param:Int)).1 0 (nx l (nx l p (↑param:Int)).2 2).1 (-1)))) (aa) fuel param hl (by first|omega|(simp only [B5]; omega)) (by grind) hF hP (c)))
theorem Z4 (hl:l.n<=maxLen) (hI:ins.n<=910) (hE:aa.n<=910) (hF:0<=fuel/\fuel<=1000) (hP:param<=1000)  : ae 36 4 (Ce l s0 fuel param (k33 l param ⟨p,ins,aa⟩)) (af 36 33) (DL cy cH l p ins aa fuel param ):=by
 refine aG (X:=oA l cy cH) (stop:=fN) (Yx _ _ cy cH l p ins aa fuel param  ?_)
 refine ⟨Nt,?_⟩
 refine ⟨fq (m:=0) (q:=1) (i:=5) (j:=4) _ _ (by grind) (by first|exact aX.refl _|exact jK (by repeat' (first|exact aF.nil|refine aF.cons ?_ ?_|exact dI.refl _|exact dI.nil _ _))) rfl (aQ rfl) rfl rfl (aQ rfl),?_⟩
 exact ae.rename [0,1,2,3,4,6] rfl (ae.lr (DA cy cH l (p) ((cy ins { op:=Int.ofNat 16,a:=Int.ofNat 0,b:=Int.ofNat 0,c:=Int.ofNat 0,n:=Int.ofNat 0,args:={ n:=0,get:=λx=>Int.ofNat 0 },k:={ kind:=Int.ofNat 0,n:=Int.ofNat 0,s:={ data:={ toList:=[] } } },names:={ n:=2,get:=λi=>rS (cA (BU.get i)) },place:={ fn:=Int.ofNat 0,line:=Int.ofNat 0 },exit:=Int.negSucc 0,once:=false })) (aa) fuel param ((↑ins.1:Int))) (Z6 s0 l (p) ((cy ins { op:=Int.ofNat 16,a:=Int.ofNat 0,b:=Int.ofNat 0,c:=Int.ofNat 0,n:=Int.ofNat 0,args:={ n:=0,get:=λx=>Int.ofNat 0 },k:={ kind:=Int.ofNat 0,n:=Int.ofNat 0,s:={ data:={ toList:=[] } } },names:={ n:=2,get:=λi=>rS (cA (BU.get i)) },place:={ fn:=Int.ofNat 0,line:=Int.ofNat 0 },exit:=Int.negSucc 0,once:=false })) (aa) fuel param hl (by first|omega|(simp only [B5]; omega)) (by grind) hF hP ((↑ins.1:Int))))
theorem X1 (hl:l.n<=maxLen) (hI:ins.n<=910) (hE:aa.n<=910) (hF:0<=fuel/\fuel<=1000) (hP:param<=1000) (c:Int):ae 36 4 (Ce l s0 fuel param (k27 l c ⟨p,ins,aa⟩)) (af 36 27) (DB cy cH l p ins aa fuel param c):=by
 refine aG (X:=oA l cy cH) (stop:=fN) (Z1 _ _ cy cH l p ins aa fuel param c ?_)
 refine ⟨gr (m:=0) (q:=1) (i:=5) (j:=4) l _ _ hl,?_⟩
 refine ⟨e5 l _ _ hl rfl,?_⟩
 refine ⟨fq (m:=0) (q:=1) (i:=5) (j:=4) _ _ (by grind) (by first|exact aX.refl _|exact jK (by repeat' (first|exact aF.nil|refine aF.cons ?_ ?_|exact dI.refl _|exact dI.nil _ _))) rfl (aQ rfl) rfl rfl (aQ rfl),?_⟩
 exact ⟨[0,1,2,3,4,6],.t [],_,_,rfl,(rc (rc (rc (rc (rc (rc .nil)))))),⟨6,aQ rfl,aQ rfl,rfl,rfl,aX.refl _,⟨.inr rfl,⟨.inr rfl,⟨.inr rfl,⟨.inr rfl,⟨rfl,⟨rfl,trivial⟩⟩⟩⟩⟩⟩⟩⟩
theorem Yq (hl:l.n<=maxLen) (hI:ins.n<=910) (hE:aa.n<=910) (hF:0<=fuel/\fuel<=1000) (hP:param<=1000) (x:au):ae 36 4 (Ce l s0 fuel param (k40 l x ⟨p,ins,aa⟩)) (af 36 40) (Ev cy cH l p ins aa fuel param x):=by
 refine aG (X:=oA l cy cH) (stop:=fN) (ZX _ _ cy cH l p ins aa fuel param x ?_)
 refine ⟨e5 l _ _ hl rfl,?_⟩
 refine ag (λh0=>?_) (λh0=>?_)
 .refine ⟨fq (m:=0) (q:=1) (i:=5) (j:=4) _ _ (by grind) (by first|exact aX.refl _|exact jK (by repeat' (first|exact aF.nil|refine aF.cons ?_ ?_|exact dI.refl _|exact dI.nil _ _))) rfl (aQ rfl) rfl rfl (aQ rfl),?_⟩
  simp only [k40,show ((nx l p 2).1==0)=true from h0,cond_true,cond_false]
  exact ⟨[0,1,2,3,4,7],.t [],_,_,rfl,(rc (rc (rc (rc (rc (rc .nil)))))),⟨6,aQ rfl,aQ rfl,rfl,rfl,aX.refl _,⟨.inr rfl,⟨.inr rfl,⟨.inr rfl,⟨.inr rfl,⟨rfl,⟨rfl,trivial⟩⟩⟩⟩⟩⟩⟩⟩
 .refine ⟨gr (m:=0) (q:=1) (i:=5) (j:=4) l _ _ hl,?_⟩
  refine ⟨fq (m:=0) (q:=1) (i:=5) (j:=4) _ _ (by grind) (by first|exact aX.refl _|exact jK (by repeat' (first|exact aF.nil|refine aF.cons ?_ ?_|exact dI.refl _|exact dI.nil _ _))) rfl (aQ rfl) rfl rfl (aQ rfl),?_⟩
  refine ⟨gr (m:=0) (q:=1) (i:=5) (j:=4) l _ _ hl,?_⟩
  refine ⟨fq (m:=0) (q:=1) (i:=5) (j:=4) _ _ (by grind) (by first|exact aX.refl _|exact jK (by repeat' (first|exact aF.nil|refine aF.cons ?_ ?_|exact dI.refl _|exact dI.nil _ _))) rfl (aQ rfl) rfl rfl (aQ rfl),?_⟩
  simp only [k40,show ((nx l p 2).1==0)=false from h0,cond_true,cond_false]
  exact ⟨[0,1,2,3,4,9],.t [],_,_,rfl,(rc (rc (rc (rc (rc (rc .nil)))))),⟨6,aQ rfl,aQ rfl,rfl,rfl,aX.refl _,⟨.inr rfl,⟨.inr rfl,⟨.inr rfl,⟨.inr rfl,⟨rfl,⟨rfl,trivial⟩⟩⟩⟩⟩⟩⟩⟩
theorem Zj (hl:l.n<=maxLen) (hI:ins.n<=910) (hE:aa.n<=910) (hF:0<=fuel/\fuel<=1000) (hP:param<=1000) (x:au):ae 36 4 (Ce l s0 fuel param (k47 x ⟨p,ins,aa⟩)) (af 36 47) (DE cy cH l p ins aa fuel param x):=by
 refine aG (X:=oA l cy cH) (stop:=fN) (Xm _ _ cy cH l p ins aa fuel param x ?_)
 refine ⟨fq (m:=0) (q:=1) (i:=5) (j:=4) _ _ (by grind) (by first|exact aX.refl _|exact jK (by repeat' (first|exact aF.nil|refine aF.cons ?_ ?_|exact dI.refl _|exact dI.nil _ _))) rfl (aQ rfl) rfl rfl (aQ rfl),?_⟩
 exact ⟨[0,1,2,3,4,7],.t [],_,_,rfl,(rc (rc (rc (rc (rc (rc .nil)))))),⟨6,aQ rfl,aQ rfl,rfl,rfl,aX.refl _,⟨.inr rfl,⟨.inr rfl,⟨.inr rfl,⟨.inr rfl,⟨rfl,⟨rfl,trivial⟩⟩⟩⟩⟩⟩⟩⟩
theorem Yp (hl:l.n<=maxLen) (hI:ins.n<=910) (hE:aa.n<=910) (hF:0<=fuel/\fuel<=1000) (hP:param<=1000) (x:au):ae 36 4 (Ce l s0 fuel param (k52 l x ⟨p,ins,aa⟩)) (af 36 52) (D2 cy cH l p ins aa fuel param x):=by
 refine aG (X:=oA l cy cH) (stop:=fN) (ag6 _ _ cy cH l p ins aa fuel param x ?_)
 refine ⟨e5 l _ _ hl rfl,?_⟩
 refine ⟨fq (m:=0) (q:=1) (i:=5) (j:=4) _ _ (by grind) (by first|exact aX.refl _|exact jK (by repeat' (first|exact aF.nil|refine aF.cons ?_ ?_|exact dI.refl _|exact dI.nil _ _))) rfl (aQ rfl) rfl rfl (aQ rfl),?_⟩
 refine ⟨e5 l _ _ hl rfl,?_⟩
 refine ⟨fq (m:=0) (q:=1) (i:=5) (j:=4) _ _ (by grind) (by first|exact aX.refl _|exact jK (by repeat' (first|exact aF.nil|refine aF.cons ?_ ?_|exact dI.refl _|exact dI.nil _ _))) rfl (aQ rfl) rfl rfl (aQ rfl),?_⟩
 exact ⟨[0,1,2,3,4,9],.t [],_,_,rfl,(rc (rc (rc (rc (rc (rc .nil)))))),⟨6,aQ rfl,aQ rfl,rfl,rfl,aX.refl _,⟨.inr rfl,⟨.inr rfl,⟨.inr rfl,⟨.inr rfl,⟨rfl,⟨rfl,trivial⟩⟩⟩⟩⟩⟩⟩⟩
theorem NW (hl:l.n<=maxLen) (hI:ins.n<=910) (hE:aa.n<=910) (hF:0<=fuel/\fuel<=1000) (hP:param<=1000) (c:Int):ae 36 4 (Ce l s0 fuel param (k18 l fuel param c ⟨p,ins,aa⟩)) (af 36 18) (yg cy cH l p ins aa fuel param c):=by
 refine aG (X:=oA l cy cH) (stop:=fN) (Xq _ _ cy cH l p ins aa fuel param c ?_)
 refine ⟨e5 l _ _ hl rfl,?_⟩
 refine ⟨pJ (m:=0) (q:=1) (i:=5) (j:=4) l _ _ _ hl (by grind) (by grind) hF hP rfl rfl rfl rfl rfl,?_⟩
 refine ⟨fq (m:=0) (q:=1) (i:=5) (j:=7) _ _ (by grind) (by first|exact aX.refl _|exact jK (by repeat' (first|exact aF.nil|refine aF.cons ?_ ?_|exact dI.refl _|exact dI.nil _ _))) rfl (aQ rfl) rfl rfl (aQ rfl),?_⟩
 exact ⟨[0,1,2,3,7,8],.t [],_,_,rfl,(rc (rc (rc (rc (rc (rc .nil)))))),⟨6,aQ rfl,aQ rfl,rfl,rfl,aX.refl _,⟨.inr rfl,⟨.inr rfl,⟨.inr rfl,⟨.inr rfl,⟨rfl,⟨rfl,trivial⟩⟩⟩⟩⟩⟩⟩⟩
theorem ae7 {c:Bool} {p:Prop} (k:p) (h:c=true:=by first|rfl|assumption|exact ak8 4 (by decide) (by decide)|exact ak8 2 (by decide) (by decide)|(simp; done)|omega):nd c p:=ai h k
theorem aC1 (hl:l.n<=maxLen) (hI:ins.n<=900) (hE:aa.n<=900) (hF:0<=fuel/\fuel<=1000) (hP:param<=1000)  : ae 36 4 (Ce l s0 fuel param (k3 l ⟨p,ins,aa⟩)) (af 36 3) (JM cy cH l p ins aa fuel param ):=by
 refine aG (X:=oA l cy cH) (stop:=fN) (aE1 _ _ cy cH l p ins aa fuel param  ?_)
 refine ⟨e5 l _ _ hl rfl,?_⟩
 refine ⟨e5 l _ _ hl rfl,?_⟩
 refine ae7 ?_
 refine ag (λh0=>?_) (λh0=>?_)
 .refine ⟨fq (m:=0) (q:=1) (i:=2) (j:=4) _ _ (by grind) (by first|exact aX.refl _|exact jK (by repeat' (first|exact aF.nil|refine aF.cons ?_ ?_|exact dI.refl _|exact dI.nil _ _))) rfl (aQ rfl) rfl rfl (aQ rfl),?_⟩
  simp only [k3,kOf,h0,cond_true,cond_false]
  exact ⟨[0,1,2,3,4,6],.t [],_,_,rfl,(rc (rc (rc (rc (rc (rc .nil)))))),⟨6,aQ rfl,aQ rfl,rfl,rfl,aX.refl _,⟨.inr rfl,⟨.inr rfl,⟨.inr rfl,⟨.inr rfl,⟨rfl,⟨rfl,trivial⟩⟩⟩⟩⟩⟩⟩⟩
 .refine ag (λh1=>?_) (λh1=>?_)
  .refine ⟨fq (m:=0) (q:=1) (i:=2) (j:=4) _ _ (by grind) (by first|exact aX.refl _|exact jK (by repeat' (first|exact aF.nil|refine aF.cons ?_ ?_|exact dI.refl _|exact dI.nil _ _))) rfl (aQ rfl) rfl rfl (aQ rfl),?_⟩
   simp only [k3,kOf,h0,h1,cond_true,cond_false]
   exact ⟨[0,1,2,3,4,6],.t [],_,_,rfl,(rc (rc (rc (rc (rc (rc .nil)))))),⟨6,aQ rfl,aQ rfl,rfl,rfl,aX.refl _,⟨.inr rfl,⟨.inr rfl,⟨.inr rfl,⟨.inr rfl,⟨rfl,⟨rfl,trivial⟩⟩⟩⟩⟩⟩⟩⟩
  .refine ag (λh2=>?_) (λh2=>?_)
   .refine ⟨fq (m:=0) (q:=1) (i:=2) (j:=4) _ _ (by grind) (by first|exact aX.refl _|exact jK (by repeat' (first|exact aF.nil|refine aF.cons ?_ ?_|exact dI.refl _|exact dI.nil _ _))) rfl (aQ rfl) rfl rfl (aQ rfl),?_⟩
    simp only [k3,kOf,h0,h1,h2,cond_true,cond_false]
    exact ⟨[0,1,2,3,4,6],.t [],_,_,rfl,(rc (rc (rc (rc (rc (rc .nil)))))),⟨6,aQ rfl,aQ rfl,rfl,rfl,aX.refl _,⟨.inr rfl,⟨.inr rfl,⟨.inr rfl,⟨.inr rfl,⟨rfl,⟨rfl,trivial⟩⟩⟩⟩⟩⟩⟩⟩
   .refine ag (λh3=>?_) (λh3=>?_)
    .refine ⟨fq (m:=0) (q:=1) (i:=2) (j:=4) _ _ (by grind) (by first|exact aX.refl _|exact jK (by repeat' (first|exact aF.nil|refine aF.cons ?_ ?_|exact dI.refl _|exact dI.nil _ _))) rfl (aQ rfl) rfl rfl (aQ rfl),?_⟩
     simp only [k3,kOf,h0,h1,h2,h3,cond_true,cond_false]
     exact ⟨[0,1,2,3,4,6],.t [],_,_,rfl,(rc (rc (rc (rc (rc (rc .nil)))))),⟨6,aQ rfl,aQ rfl,rfl,rfl,aX.refl _,⟨.inr rfl,⟨.inr rfl,⟨.inr rfl,⟨.inr rfl,⟨rfl,⟨rfl,trivial⟩⟩⟩⟩⟩⟩⟩⟩
    .exact aa9 h0 h1 h2 h3
theorem LR (hl:l.n<=maxLen) (hI:ins.n<=900) (hE:aa.n<=900) (hF:0<=fuel/\fuel<=1000) (hP:param<=1000)  : ae 36 4 (Ce l s0 fuel param (k7 l fuel param ⟨p,ins,aa⟩)) (af 36 7) (zB cy cH l p ins aa fuel param ):=by
 refine aG (X:=oA l cy cH) (stop:=fN) (aE6 _ _ cy cH l p ins aa fuel param  ?_)
 refine ⟨e5 l _ _ hl rfl,?_⟩
 refine ⟨gr (m:=0) (q:=1) (i:=2) (j:=3) l _ _ hl,?_⟩
 refine ⟨gr (m:=0) (q:=1) (i:=2) (j:=3) l _ _ hl,?_⟩
 refine ⟨pJ (m:=0) (q:=1) (i:=2) (j:=3) l _ _ _ hl (by grind) (by grind) hF hP rfl rfl rfl rfl rfl,?_⟩
 refine ⟨fq (m:=0) (q:=1) (i:=2) (j:=5) _ _ (by grind) (by first|exact aX.refl _|exact jK (by repeat' (first|exact aF.nil|refine aF.cons ?_ ?_|exact dI.refl _|exact dI.nil _ _))) rfl (aQ rfl) rfl rfl (aQ rfl),?_⟩
 exact ⟨[0,1,2,3,5,6],.t [],_,_,rfl,(rc (rc (rc (rc (rc (rc .nil)))))),⟨6,aQ rfl,aQ rfl,rfl,rfl,aX.refl _,⟨.inr rfl,⟨.inr rfl,⟨.inr rfl,⟨.inr rfl,⟨rfl,⟨rfl,trivial⟩⟩⟩⟩⟩⟩⟩⟩
theorem Yo (hl:l.n<=maxLen) (hI:ins.n<=900) (hE:aa.n<=900) (hF:0<=fuel/\fuel<=1000) (hP:param<=1000)  : ae 36 4 (Ce l s0 fuel param (k11 l fuel param ⟨p,ins,aa⟩)) (af 36 11) (EU cy cH l p ins aa fuel param ):=by
 refine aG (X:=oA l cy cH) (stop:=fN) (ag7 _ _ cy cH l p ins aa fuel param  ?_)
 refine ⟨e5 l _ _ hl rfl,?_⟩
 refine ⟨gr (m:=0) (q:=1) (i:=2) (j:=3) l _ _ hl,?_⟩
 refine ⟨pJ (m:=0) (q:=1) (i:=2) (j:=3) l _ _ _ hl (by grind) (by grind) hF hP rfl rfl rfl rfl rfl,?_⟩
 refine ⟨fq (m:=0) (q:=1) (i:=2) (j:=5) _ _ (by grind) (by first|exact aX.refl _|exact jK (by repeat' (first|exact aF.nil|refine aF.cons ?_ ?_|exact dI.refl _|exact dI.nil _ _))) rfl (aQ rfl) rfl rfl (aQ rfl),?_⟩
 exact ⟨[0,1,2,3,5,6],.t [],_,_,rfl,(rc (rc (rc (rc (rc (rc .nil)))))),⟨6,aQ rfl,aQ rfl,rfl,rfl,aX.refl _,⟨.inr rfl,⟨.inr rfl,⟨.inr rfl,⟨.inr rfl,⟨rfl,⟨rfl,trivial⟩⟩⟩⟩⟩⟩⟩⟩
theorem ae3 (hl:l.n<=maxLen) (hI:ins.n<=900) (hE:aa.n<=900) (hF:0<=fuel/\fuel<=1000) (hP:param<=1000)  : ae 36 4 (Ce l s0 fuel param (k15 l fuel param ⟨p,ins,aa⟩)) (af 36 15) (Ds cy cH l p ins aa fuel param ):=by
 refine aG (X:=oA l cy cH) (stop:=fN) (Ya _ _ cy cH l p ins aa fuel param  ?_)
 refine ⟨e5 l _ _ hl rfl,?_⟩
 refine ae7 ?_
 refine ag (λh0=>?_) (λh0=>?_)
 .refine ⟨gr (m:=0) (q:=1) (i:=2) (j:=3) l _ _ hl,?_⟩
  refine ⟨gr (m:=0) (q:=1) (i:=2) (j:=3) l _ _ hl,?_⟩
  refine ⟨e5 l _ _ hl rfl,?_⟩
  refine ae7 ?_
  refine ag (λh1=>?_) (λh1=>Bool.noConfusion (h0.symm.trans h1))
  refine ⟨gr (m:=0) (q:=1) (i:=2) (j:=3) l _ _ hl,?_⟩
  refine ⟨gr (m:=0) (q:=1) (i:=2) (j:=3) l _ _ hl,?_⟩
  refine ⟨pJ (m:=0) (q:=1) (i:=2) (j:=3) l _ _ _ hl (by grind) (by grind) hF hP rfl rfl rfl rfl rfl,?_⟩
  refine ⟨fq (m:=0) (q:=1) (i:=2) (j:=9) _ _ (by grind) (by first|exact aX.refl _|exact jK (by repeat' (first|exact aF.nil|refine aF.cons ?_ ?_|exact dI.refl _|exact dI.nil _ _))) rfl (aQ rfl) rfl rfl (aQ rfl),?_⟩
  simp only [k15,nOf,h0,cond_true,cond_false]
  exact ae.rename [0,1,2,3,9,10] rfl (ae.lr (yg cy cH l ((lv l (vl l (vl l (nx l p 2).2 ins).2 ins).2 ins fuel param).2) ((cy ins (ew 4 (vl l (nx l p 2).2 ins).1 (vl l (vl l (nx l p 2).2 ins).2 ins).1 0 10 (Int.ofNat aa.1)))) ((cH aa (lv l (vl l (vl l (nx l p 2).2 ins).2 ins).2 ins fuel param).1)) fuel param ((↑ins.1:Int))) (NW s0 l ((lv l (vl l (vl l (nx l p 2).2 ins).2 ins).2 ins fuel param).2) ((cy ins (ew 4 (vl l (nx l p 2).2 ins).1 (vl l (vl l (nx l p 2).2 ins).2 ins).1 0 10 (Int.ofNat aa.1)))) ((cH aa (lv l (vl l (vl l (nx l p 2).2 ins).2 ins).2 ins fuel param).1)) fuel param hl (by first|omega|(simp only [B5]; omega)) (by first|omega|(simp only [B5]; omega)) hF hP ((↑ins.1:Int))))
 .refine ag (λh1=>?_) (λh1=>?_)
  .refine ⟨gr (m:=0) (q:=1) (i:=2) (j:=3) l _ _ hl,?_⟩
   refine ⟨gr (m:=0) (q:=1) (i:=2) (j:=3) l _ _ hl,?_⟩
   refine ⟨e5 l _ _ hl rfl,?_⟩
   refine ae7 ?_
   refine ag (λh2=>Bool.noConfusion (h2.symm.trans h0)) (λh2=>?_)
   refine ag (λh3=>?_) (λh3=>Bool.noConfusion (h1.symm.trans h3))
   refine ⟨gr (m:=0) (q:=1) (i:=2) (j:=3) l _ _ hl,?_⟩
   refine ⟨gr (m:=0) (q:=1) (i:=2) (j:=3) l _ _ hl,?_⟩
   refine ⟨pJ (m:=0) (q:=1) (i:=2) (j:=3) l _ _ _ hl (by grind) (by grind) hF hP rfl rfl rfl rfl rfl,?_⟩
   refine ⟨fq (m:=0) (q:=1) (i:=2) (j:=9) _ _ (by grind) (by first|exact aX.refl _|exact jK (by repeat' (first|exact aF.nil|refine aF.cons ?_ ?_|exact dI.refl _|exact dI.nil _ _))) rfl (aQ rfl) rfl rfl (aQ rfl),?_⟩
   simp only [k15,nOf,h0,h1,cond_true,cond_false]
   exact ae.rename [0,1,2,3,9,10] rfl (ae.lr (yg cy cH l ((lv l (vl l (vl l (nx l p 2).2 ins).2 ins).2 ins fuel param).2) ((cy ins (ew 4 (vl l (nx l p 2).2 ins).1 (vl l (vl l (nx l p 2).2 ins).2 ins).1 0 11 (Int.ofNat aa.1)))) ((cH aa (lv l (vl l (vl l (nx l p 2).2 ins).2 ins).2 ins fuel param).1)) fuel param ((↑ins.1:Int))) (NW s0 l ((lv l (vl l (vl l (nx l p 2).2 ins).2 ins).2 ins fuel param).2) ((cy ins (ew 4 (vl l (nx l p 2).2 ins).1 (vl l (vl l (nx l p 2).2 ins).2 ins).1 0 11 (Int.ofNat aa.1)))) ((cH aa (lv l (vl l (vl l (nx l p 2).2 ins).2 ins).2 ins fuel param).1)) fuel param hl (by first|omega|(simp only [B5]; omega)) (by first|omega|(simp only [B5]; omega)) hF hP ((↑ins.1:Int))))
  .exact YF h0 h1
theorem Ow (hl:l.n<=maxLen) (hI:ins.n<=900) (hE:aa.n<=900) (hF:0<=fuel/\fuel<=1000) (hP:param<=1000)  : ae 36 4 (Ce l s0 fuel param (k23 l fuel param ⟨p,ins,aa⟩)) (af 36 23) (yD cy cH l p ins aa fuel param ):=by
 refine aG (X:=oA l cy cH) (stop:=fN) (aa8 _ _ cy cH l p ins aa fuel param  ?_)
 refine ⟨ap7 (m:=0) (q:=1) (i:=2) (j:=3) l _ _ _ _ _ hl (by grind) (by grind) hF hP rfl rfl rfl rfl rfl,?_⟩
 exact ae.rename [0,1,2,3,4,5] rfl (ae.lr (Es cy cH l ((fJ l p ins fuel param).2) ((cy ins (jW l p ins param aa.1))) ((cH aa (fJ l p ins fuel param).1)) fuel param (((jk l p ins param).1))) (YL s0 l ((fJ l p ins fuel param).2) ((cy ins (jW l p ins param aa.1))) ((cH aa (fJ l p ins fuel param).1)) fuel param hl (by first|omega|(simp only [B5]; omega)) (by first|omega|(simp only [B5]; omega)) hF hP (((jk l p ins param).1))))
theorem XP (hl:l.n<=maxLen) (hI:ins.n<=900) (hE:aa.n<=900) (hF:0<=fuel/\fuel<=1000) (hP:param<=1000)  : ae 36 4 (Ce l s0 fuel param (k26 l fuel param ⟨p,ins,aa⟩)) (af 36 26) (FK cy cH l p ins aa fuel param ):=by
 refine aG (X:=oA l cy cH) (stop:=fN) (ab9 _ _ cy cH l p ins aa fuel param  ?_)
 refine ⟨ap7 (m:=0) (q:=1) (i:=2) (j:=3) l _ _ _ _ _ hl (by grind) (by grind) hF hP rfl rfl rfl rfl rfl,?_⟩
 exact ae.rename [0,1,2,3,4,5] rfl (ae.lr (DB cy cH l ((fJ l p ins fuel param).2) ((cy ins (jW l p ins param aa.1))) ((cH aa (fJ l p ins fuel param).1)) fuel param (((jk l p ins param).1))) (X1 s0 l ((fJ l p ins fuel param).2) ((cy ins (jW l p ins param aa.1))) ((cH aa (fJ l p ins fuel param).1)) fuel param hl (by first|omega|(simp only [B5]; omega)) (by first|omega|(simp only [B5]; omega)) hF hP (((jk l p ins param).1))))
theorem Nh (hl:l.n<=maxLen) (hI:ins.n<=900) (hE:aa.n<=900) (hF:0<=fuel/\fuel<=1000) (hP:param<=1000)  : ae 36 4 (Ce l s0 fuel param (k30 l fuel param ⟨p,ins,aa⟩)) (af 36 30) (ye cy cH l p ins aa fuel param ):=by
 refine aG (X:=oA l cy cH) (stop:=fN) (Zp _ _ cy cH l p ins aa fuel param  ?_)
 refine ⟨pJ (m:=0) (q:=1) (i:=2) (j:=3) l _ _ _ hl (by grind) (by grind) hF hP rfl rfl rfl rfl rfl,?_⟩
 refine ⟨fq (m:=0) (q:=1) (i:=2) (j:=5) _ _ (by grind) (by first|exact aX.refl _|exact jK (by repeat' (first|exact aF.nil|refine aF.cons ?_ ?_|exact dI.refl _|exact dI.nil _ _))) rfl (aQ rfl) rfl rfl (aQ rfl),?_⟩
 exact ae.rename [0,1,2,3,5,6] rfl (ae.lr (DL cy cH l ((lv l p ins fuel param).2) ((cy ins (ew 15 0 0 0 32 (Int.ofNat aa.1)))) ((cH aa (lv l p ins fuel param).1)) fuel param) (Z4 s0 l ((lv l p ins fuel param).2) ((cy ins (ew 15 0 0 0 32 (Int.ofNat aa.1)))) ((cH aa (lv l p ins fuel param).1)) fuel param hl (by first|omega|(simp only [B5]; omega)) (by first|omega|(simp only [B5]; omega)) hF hP))
theorem ad5 (hl:l.n<=maxLen) (hI:ins.n<=900) (hE:aa.n<=900) (hF:0<=fuel/\fuel<=1000) (hP:param<=1000)  : ae 36 4 (Ce l s0 fuel param (k37 l fuel param ⟨p,ins,aa⟩)) (af 36 37) (EX cy cH l p ins aa fuel param ):=by
 refine aG (X:=oA l cy cH) (stop:=fN) (Zq _ _ cy cH l p ins aa fuel param  ?_)
 refine ⟨gr (m:=0) (q:=1) (i:=2) (j:=3) l _ _ hl,?_⟩
 refine ⟨gr (m:=0) (q:=1) (i:=2) (j:=3) l _ _ hl,?_⟩
 refine ⟨pJ (m:=0) (q:=1) (i:=2) (j:=3) l _ _ _ hl (by grind) (by grind) hF hP rfl rfl rfl rfl rfl,?_⟩
 refine ⟨fq (m:=0) (q:=1) (i:=2) (j:=5) _ _ (by grind) (by first|exact aX.refl _|exact jK (by repeat' (first|exact aF.nil|refine aF.cons ?_ ?_|exact dI.refl _|exact dI.nil _ _))) rfl (aQ rfl) rfl rfl (aQ rfl),?_⟩
 exact ae.rename [0,1,2,3,5,6,4] rfl (ae.lf (Ev cy cH l ((lv l (vl l (vl l p ins).2 ins).2 ins fuel param).2) ((cy ins (ew 9 (vl l p ins).1 (vl l (vl l p ins).2 ins).1 0 0 (Int.ofNat aa.1)))) ((cH aa (lv l (vl l (vl l p ins).2 ins).2 ins fuel param).1)) fuel param (ew 9 (vl l p ins).1 (vl l (vl l p ins).2 ins).1 0 0 (Int.ofNat aa.1))) (rc (rc (rc (rc (rc (rc (.cons (aY.box (by repeat' (first|exact aF.nil|refine aF.cons ?_ ?_|exact dI.refl _|exact dI.nil _ _))) .nil))))))) (Yq s0 l ((lv l (vl l (vl l p ins).2 ins).2 ins fuel param).2) ((cy ins (ew 9 (vl l p ins).1 (vl l (vl l p ins).2 ins).1 0 0 (Int.ofNat aa.1)))) ((cH aa (lv l (vl l (vl l p ins).2 ins).2 ins fuel param).1)) fuel param hl (by first|omega|(simp only [B5]; omega)) (by first|omega|(simp only [B5]; omega)) hF hP (ew 9 (vl l p ins).1 (vl l (vl l p ins).2 ins).1 0 0 (Int.ofNat aa.1))))
theorem Yj (hl:l.n<=maxLen) (hI:ins.n<=900) (hE:aa.n<=900) (hF:0<=fuel/\fuel<=1000) (hP:param<=1000)  : ae 36 4 (Ce l s0 fuel param (k44 l fuel param ⟨p,ins,aa⟩)) (af 36 44) (Gq cy cH l p ins aa fuel param ):=by
 refine aG (X:=oA l cy cH) (stop:=fN) (Yn _ _ cy cH l p ins aa fuel param  ?_)
 refine ⟨gr (m:=0) (q:=1) (i:=2) (j:=3) l _ _ hl,?_⟩
 refine ⟨pJ (m:=0) (q:=1) (i:=2) (j:=3) l _ _ _ hl (by grind) (by grind) hF hP rfl rfl rfl rfl rfl,?_⟩
 refine ⟨fq (m:=0) (q:=1) (i:=2) (j:=5) _ _ (by grind) (by first|exact aX.refl _|exact jK (by repeat' (first|exact aF.nil|refine aF.cons ?_ ?_|exact dI.refl _|exact dI.nil _ _))) rfl (aQ rfl) rfl rfl (aQ rfl),?_⟩
 exact ae.rename [0,1,2,3,5,6,4] rfl (ae.lf (DE cy cH l ((lv l (vl l p ins).2 ins fuel param).2) ((cy ins (ew 8 (vl l p ins).1 0 0 0 (Int.ofNat aa.1)))) ((cH aa (lv l (vl l p ins).2 ins fuel param).1)) fuel param (ew 8 (vl l p ins).1 0 0 0 (Int.ofNat aa.1))) (rc (rc (rc (rc (rc (rc (.cons (aY.box (by repeat' (first|exact aF.nil|refine aF.cons ?_ ?_|exact dI.refl _|exact dI.nil _ _))) .nil))))))) (Zj s0 l ((lv l (vl l p ins).2 ins fuel param).2) ((cy ins (ew 8 (vl l p ins).1 0 0 0 (Int.ofNat aa.1)))) ((cH aa (lv l (vl l p ins).2 ins fuel param).1)) fuel param hl (by first|omega|(simp only [B5]; omega)) (by first|omega|(simp only [B5]; omega)) hF hP (ew 8 (vl l p ins).1 0 0 0 (Int.ofNat aa.1))))
theorem ZZ (hl:l.n<=maxLen) (hI:ins.n<=900) (hE:aa.n<=900) (hF:0<=fuel/\fuel<=1000) (hP:param<=1000)  : ae 36 4 (Ce l s0 fuel param (k49 l fuel param ⟨p,ins,aa⟩)) (af 36 49) (Dw cy cH l p ins aa fuel param ):=by
 refine aG (X:=oA l cy cH) (stop:=fN) (ae9 _ _ cy cH l p ins aa fuel param  ?_)
 refine ⟨gr (m:=0) (q:=1) (i:=2) (j:=3) l _ _ hl,?_⟩
 refine ⟨e5 l _ _ hl rfl,?_⟩
 refine ⟨pJ (m:=0) (q:=1) (i:=2) (j:=3) l _ _ _ hl (by grind) (by grind) hF hP rfl rfl rfl rfl rfl,?_⟩
 refine ⟨fq (m:=0) (q:=1) (i:=2) (j:=5) _ _ (by grind) (by first|exact aX.refl _|exact jK (by repeat' (first|exact aF.nil|refine aF.cons ?_ ?_|exact dI.refl _|exact dI.nil _ _))) rfl (aQ rfl) rfl rfl (aQ rfl),?_⟩
 exact ae.rename [0,1,2,3,5,6,4] rfl (ae.lf (D2 cy cH l ((lv l (nx l (vl l p ins).2 4).2 ins fuel param).2) ((cy ins (ew 6 (vl l p ins).1 0 0 (cV (I.v (Value.int IntKind.i64 (IntKind.i64.wrap (1+(nx l (vl l p ins).2 4).1))))) (Int.ofNat aa.1)))) ((cH aa (lv l (nx l (vl l p ins).2 4).2 ins fuel param).1)) fuel param (ew 6 (vl l p ins).1 0 0 (cV (I.v (Value.int IntKind.i64 (IntKind.i64.wrap (1+(nx l (vl l p ins).2 4).1))))) (Int.ofNat aa.1))) (rc (rc (rc (rc (rc (rc (.cons (aY.box (by repeat' (first|exact aF.nil|refine aF.cons ?_ ?_|exact dI.refl _|exact dI.nil _ _))) .nil))))))) (Yp s0 l ((lv l (nx l (vl l p ins).2 4).2 ins fuel param).2) ((cy ins (ew 6 (vl l p ins).1 0 0 (cV (I.v (Value.int IntKind.i64 (IntKind.i64.wrap (1+(nx l (vl l p ins).2 4).1))))) (Int.ofNat aa.1)))) ((cH aa (lv l (nx l (vl l p ins).2 4).2 ins fuel param).1)) fuel param hl (by first|omega|(simp only [B5]; omega)) (by first|omega|(simp only [B5]; omega)) hF hP (ew 6 (vl l p ins).1 0 0 (cV (I.v (Value.int IntKind.i64 (IntKind.i64.wrap (1+(nx l (vl l p ins).2 4).1))))) (Int.ofNat aa.1))))
theorem aN6 (hl:l.n<=maxLen) (hI:ins.n<=900) (hE:aa.n<=900) (hF:0<=fuel/\fuel<=1000) (hP:param<=1000):LC 36 [.c (.rt 1 0 0)] [aL l p,bm 0 2 ins.n 3 aa.n fuel param,aP ins,cl aa] (.t []) [aL l (dP l fuel param ⟨p,ins,aa⟩).p,bm 0 5 (dP l fuel param ⟨p,ins,aa⟩).ins.n 4 (dP l fuel param ⟨p,ins,aa⟩).ex.n fuel param,.dead,.dead,cl (dP l fuel param ⟨p,ins,aa⟩).ex,aP (dP l fuel param ⟨p,ins,aa⟩).ins]:=by
 refine cM by2 (aQ (by kernel_rfl)) ?_
 show ae 36 4 (Ce l ⟨p,ins,aa⟩ fuel param (dP l fuel param ⟨p,ins,aa⟩)) _ _
 refine cY (X:=oA l cy cH) (stop:=fN) (bs7 _ _ cy cH l p ins aa fuel param ?_)
 refine ⟨e5 l _ _ hl rfl,?_⟩
 refine ag (λh0=>?_) (λh0=>?_)
 .rw [show dP l fuel param ⟨p,ins,aa⟩=k3 l ⟨(nx l p 14).2,ins,aa⟩ from by grind [dP]]
  exact ae.Eu 1 4 3 _ _ _ _ _ _ rfl rfl rfl (ae.lr (JM cy cH l ((nx l p 14).2) (ins) (aa) fuel param) (aC1 ⟨p,ins,aa⟩ l ((nx l p 14).2) (ins) (aa) fuel param hl (by grind) (by grind) hF hP))
 .refine ag (λh1=>?_) (λh1=>?_)
  .rw [show dP l fuel param ⟨p,ins,aa⟩=k7 l fuel param ⟨(nx l p 14).2,ins,aa⟩ from by grind [dP]]
   exact ae.lr (zB cy cH l ((nx l p 14).2) (ins) (aa) fuel param) (LR ⟨p,ins,aa⟩ l ((nx l p 14).2) (ins) (aa) fuel param hl (by grind) (by grind) hF hP)
  .refine ag (λh2=>?_) (λh2=>?_)
   .rw [show dP l fuel param ⟨p,ins,aa⟩=k7 l fuel param ⟨(nx l p 14).2,ins,aa⟩ from by grind [dP]]
    exact ae.lr (zB cy cH l ((nx l p 14).2) (ins) (aa) fuel param) (LR ⟨p,ins,aa⟩ l ((nx l p 14).2) (ins) (aa) fuel param hl (by grind) (by grind) hF hP)
   .refine ag (λh3=>?_) (λh3=>?_)
    .rw [show dP l fuel param ⟨p,ins,aa⟩=k7 l fuel param ⟨(nx l p 14).2,ins,aa⟩ from by grind [dP]]
     exact ae.lr (zB cy cH l ((nx l p 14).2) (ins) (aa) fuel param) (LR ⟨p,ins,aa⟩ l ((nx l p 14).2) (ins) (aa) fuel param hl (by grind) (by grind) hF hP)
    .refine ag (λh4=>?_) (λh4=>?_)
     .rw [show dP l fuel param ⟨p,ins,aa⟩=k11 l fuel param ⟨(nx l p 14).2,ins,aa⟩ from by grind [dP]]
      exact ae.lr (EU cy cH l ((nx l p 14).2) (ins) (aa) fuel param) (Yo ⟨p,ins,aa⟩ l ((nx l p 14).2) (ins) (aa) fuel param hl (by grind) (by grind) hF hP)
     .refine ag (λh5=>?_) (λh5=>?_)
      .rw [show dP l fuel param ⟨p,ins,aa⟩=k15 l fuel param ⟨(nx l p 14).2,ins,aa⟩ from by grind [dP]]
       exact ae.lr (Ds cy cH l ((nx l p 14).2) (ins) (aa) fuel param) (ae3 ⟨p,ins,aa⟩ l ((nx l p 14).2) (ins) (aa) fuel param hl (by grind) (by grind) hF hP)
      .refine ag (λh6=>?_) (λh6=>?_)
       .rw [show dP l fuel param ⟨p,ins,aa⟩=k23 l fuel param ⟨(nx l p 14).2,ins,aa⟩ from by grind [dP]]
        exact ae.lr (yD cy cH l ((nx l p 14).2) (ins) (aa) fuel param) (Ow ⟨p,ins,aa⟩ l ((nx l p 14).2) (ins) (aa) fuel param hl (by grind) (by grind) hF hP)
       .refine ag (λh7=>?_) (λh7=>?_)
        .rw [show dP l fuel param ⟨p,ins,aa⟩=k23 l fuel param ⟨(nx l p 14).2,ins,aa⟩ from by grind [dP]]
         exact ae.lr (yD cy cH l ((nx l p 14).2) (ins) (aa) fuel param) (Ow ⟨p,ins,aa⟩ l ((nx l p 14).2) (ins) (aa) fuel param hl (by grind) (by grind) hF hP)
        .refine ag (λh8=>?_) (λh8=>?_)
         .rw [show dP l fuel param ⟨p,ins,aa⟩=k26 l fuel param ⟨(nx l p 14).2,ins,aa⟩ from by grind [dP]]
          exact ae.lr (FK cy cH l ((nx l p 14).2) (ins) (aa) fuel param) (XP ⟨p,ins,aa⟩ l ((nx l p 14).2) (ins) (aa) fuel param hl (by grind) (by grind) hF hP)
         .refine ag (λh9=>?_) (λh9=>?_)
          .rw [show dP l fuel param ⟨p,ins,aa⟩=k30 l fuel param ⟨(nx l p 14).2,ins,aa⟩ from by grind [dP]]
           exact ae.lr (ye cy cH l ((nx l p 14).2) (ins) (aa) fuel param) (Nh ⟨p,ins,aa⟩ l ((nx l p 14).2) (ins) (aa) fuel param hl (by grind) (by grind) hF hP)
          .refine ag (λBH=>?_) (λBH=>?_)
           .rw [show dP l fuel param ⟨p,ins,aa⟩=k30 l fuel param ⟨(nx l p 14).2,ins,aa⟩ from by grind [dP]]
            exact ae.lr (ye cy cH l ((nx l p 14).2) (ins) (aa) fuel param) (Nh ⟨p,ins,aa⟩ l ((nx l p 14).2) (ins) (aa) fuel param hl (by grind) (by grind) hF hP)
           .refine ag (λUL=>?_) (λUL=>?_)
            .rw [show dP l fuel param ⟨p,ins,aa⟩=k37 l fuel param ⟨(nx l p 14).2,ins,aa⟩ from by grind [dP]]
             exact ae.lr (EX cy cH l ((nx l p 14).2) (ins) (aa) fuel param) (ad5 ⟨p,ins,aa⟩ l ((nx l p 14).2) (ins) (aa) fuel param hl (by grind) (by grind) hF hP)
            .refine ag (λW9=>?_) (λW9=>?_)
             .rw [show dP l fuel param ⟨p,ins,aa⟩=k44 l fuel param ⟨(nx l p 14).2,ins,aa⟩ from by grind [dP]]
              exact ae.lr (Gq cy cH l ((nx l p 14).2) (ins) (aa) fuel param) (Yj ⟨p,ins,aa⟩ l ((nx l p 14).2) (ins) (aa) fuel param hl (by grind) (by grind) hF hP)
             .refine ag (λh13=>?_) (λh13=>?_)
              .rw [show dP l fuel param ⟨p,ins,aa⟩=k49 l fuel param ⟨(nx l p 14).2,ins,aa⟩ from by grind [dP]]
               exact ae.lr (Dw cy cH l ((nx l p 14).2) (ins) (aa) fuel param) (ZZ ⟨p,ins,aa⟩ l ((nx l p 14).2) (ins) (aa) fuel param hl (by grind) (by grind) hF hP)
              .exfalso
               obtain ⟨d,hd,eW⟩:=nw (l:=l) (p:=p) (n:=14) (by omega) (by omega)
               grind
theorem aV9 {m q i j:Nat} {RS:List ah} (hl:l.n<=maxLen) (hI:ins.n<=900) (hE:aa.n<=900) (hF:0<=fuel/\fuel<=1000) (hP:param<=1000) (hd:jj [m,q,i,j]=true) (h0:bh RS m=some (aL l p)) (h1:bh RS q=some (bm m i ins.n j aa.n fuel param)) (h2:bh RS i=some (aP ins)) (h3:bh RS j=some (cl aa)) :
  LC 36 [.c (.rt q 0 0)] RS (.t []) (setAt (setAt (setAt (setAt RS m (aL l (dP l fuel param ⟨p,ins,aa⟩).p)) q (bm m (RS.length+1) (dP l fuel param ⟨p,ins,aa⟩).ins.n RS.length (dP l fuel param ⟨p,ins,aa⟩).ex.n fuel param)) i .dead) j .dead++[cl (dP l fuel param ⟨p,ins,aa⟩).ex,aP (dP l fuel param ⟨p,ins,aa⟩).ins]):=
 bt.gQ (aN6 l p ins aa fuel param hl hI hE hF hP) [m,q,i,j] RS hd ⟨h0,fi h0,h1,fi h1,h2,fi h2,h3,fi h3,rfl⟩
end
end
end Go.Proofs.YtgbbdaegmfjahaaGreat
set_option linter.unusedSectionVars false
namespace Go.Proofs.YtgbbdaegmfjahaaGreat
open Go Go.V
noncomputable section
structure zS (e:aq):Prop where
 frames:e.frames.n<=900
 vars:∀ j,j<e.frames.n->(e.frames.get j).vars.n<=900
 az:e.az.n<=900
 names:∀ j,j<e.az.n->(e.az.get j).names.n<=900
 items:∀ j,j<e.az.n->(e.az.get j).items.n<=900
 pos:0<e.frames.n
structure sv (x:au):Prop where
 n:x.n<=9223372036854775807
 args:x.args.n<=900
 names:x.names.n<=900
 str:x.k.s.size<=900
structure dY (s s':mH) (c d:Nat):Prop where
 ins:s'.ins.n<=s.ins.n+c
 ex:s'.ex.n<=s.ex.n+d
 gi:(∀ k,k<s.ins.n->sv (s.ins.get k))->∀ k,k<s'.ins.n->sv (s'.ins.get k)
 ge:(∀ k,k<s.ex.n->zS (s.ex.get k))->∀ k,k<s'.ex.n->zS (s'.ex.get k)
section
variable (s:mH) {a b:mH} (p:Nat) {x:au} {m n m' n':Nat}
theorem dY.refl:dY s s 0 0:=⟨bF _,bF _,λh=>h,λh=>h⟩
theorem dY.trans {c:mH} (h:dY a b m n) (k:dY b c m' n'):dY a c (m+m') (n+n'):=
 ⟨by have:=h.ins; have:=k.ins; omega,by have:=h.ex; have:=k.ex; omega,λq=>k.gi (h.gi q),λq=>k.ge (h.ge q)⟩
theorem dY.le (h:dY a b m n) (h1:m<=m') (h2:n<=n'):dY a b m' n' :=
 ⟨by have:=h.ins; omega,by have:=h.ex; omega,h.gi,h.ge⟩
theorem vM {α:Type} {P:α->Prop} {s:Sq α} {x:α} (h:∀ k,k<s.n->P (s.get k)) (hx:P x):∀ k,k<(eA s ⟨1,λ_=>x⟩).n->P ((eA s ⟨1,λ_=>x⟩).get k):=by
 intro k hk
 show P (Bool.rec x (s.get k) (Nat.blt k s.n))
 cases hb:Nat.blt k s.n with
 | true=>simp_all
 | false=>exact hx
theorem dY.add (hx:sv x):dY s ⟨p,cy s.ins x,s.ex⟩ 1 0:=
 ⟨bF _,bF _,λh=>vM h hx,λh=>h⟩
theorem dY.both {e:aq} (hx:sv x) (he:zS e):dY s ⟨p,cy s.ins x,cH s.ex e⟩ 1 1:=
 ⟨bF _,bF _,λh=>vM h hx,λh=>vM h he⟩
theorem yj (k:Int):IntKind.i64.wrap k<=9223372036854775807:=by
 have e1:(2 ^ IntKind.i64.bits:Int)=18446744073709551616:=by rfl
 have e2:(2 ^ (IntKind.i64.bits-1):Int)=9223372036854775808:=by rfl
 have e4:IntKind.i64.signed=true:=rfl
 grind [IntKind.wrap]
theorem MU {l:Sq Int} {p:Nat} {n:Int} (h2:n<=900):(nx l p n).1<=900:=by
 by_cases h1:1<=n
 .have:=(OH (l:=l) (p:=p) h1 (by omega)).2
  omega
 grind [nx]
theorem gg {op a b c n e:Int} (h:n<=9223372036854775807):sv (ew op a b c n e):=⟨h,bk _,bk _,bk _⟩
theorem sv.exit (h:sv x) (e:Int):sv { x with exit:=e }:=⟨h.n,h.args,h.names,h.str⟩
end
theorem ak4 (l:Sq Int) (ins:Sq au):∀ (m p:Nat) (h:Sq Int),(lvV l ins m p h).1.n=h.n+m
 | 0,p,h=>rfl
 | m+1,p,h=>by
   show (lvV l ins m _ (eA h ⟨1,λ_=>(vl l p ins).1⟩)).1.n=_
   rw [ak4]
   show h.n+1+m=_
   omega
theorem uR (l:Sq Int) (p:Nat) (ins:Sq au) (fuel:Int) (param:Nat) (h:param<=900):zS (lv l p ins fuel param).1:=by
 have hv:(lvV l ins param p (aH 0)).1.n<=900:=by rw [ak4]; show 0+param<=_; omega
 unfold lv lv6 lv7
 generalize ((nx l (nx l (lvV l ins param p (aH 0)).2 (fuel+1)).2 5).1==0)=b
 cases b with
 | false=>
   refine ⟨by simp,λj _=>hv,bk _,λj hj=>absurd hj (Nat.not_lt_zero j),λj hj=>absurd hj (Nat.not_lt_zero j),by grind⟩
 | true=>
   refine ⟨by show 1+1<=900; omega,?_,bk _,λj hj=>absurd hj (Nat.not_lt_zero j),λj hj=>absurd hj (Nat.not_lt_zero j),by first|exact Nat.zero_lt_succ _|simp⟩
   intro j _
   simp only [cond_true]
   show (Bool.rec (fr2 _) (⟨0,0,(lvV l ins param p (aH 0)).1⟩:cK) (Nat.blt j 1):cK).vars.n<=900
   cases Nat.blt j 1 with
   | true=>exact hv
   | false=>show 2<=900; omega
section
variable (l:Sq Int) (fuel:Int) (param:Nat) (hP:param<=900)
include hP
theorem kD {x:au} (hx:sv x) (p:Nat) (s:mH):dY s (kLA l fuel param x p s) 1 1:=
 dY.both s _ (hx.exit _) (uR l p s.ins fuel param hP)
section
variable (c:Int) (x:au) (s:mH)
theorem Iu:dY s (k35 l c s) 1 0:=dY.add s _ (gg (by have:=MU (l:=l) (p:=s.p) (n:=2) (by omega); omega))
theorem Vm:dY s (k34 l param c s) 2 0:=
 (dY.add s _ (gg (by have:=MU (l:=l) (p:=(nx l s.p (param:Int)).2) (n:=2) (by omega); omega))).trans (Iu l param hP c _)
theorem Ru:dY s (k33 l param s) 3 0:=
 (dY.add s s.p (x:={ ew 16 0 0 0 0 (-1) with names:=BU }) ⟨by decide,bk _,by decide,bk _⟩).trans (Vm l param hP _ _)
theorem U6:dY s (k27 l c s) 1 0:=dY.add s _ (gg (by have:=MU (l:=l) (p:=(vl l s.p s.ins).2) (n:=2) (by omega); omega))
theorem QS:dY s (k40 l x s) 1 0:=by
 grind [k40,dY.add,gg]
theorem Up:dY s (k47 x s) 1 0:=dY.add s _ (gg (by omega))
theorem V5:dY s (k52 l x s) 1 0:=dY.add s _ ⟨by show (0:Int)<=_; omega,bk _,bk _,bk _⟩
theorem QP:dY s (k18 l fuel param c s) 1 1:=kD l fuel param hP (gg (by have:=MU (l:=l) (p:=s.p) (n:=2) (by omega); omega)) _ s
theorem ad0:dY s (k3 l s) 1 0:=dY.add s _ ⟨by show (0:Int)<=_; omega,bk _,bk _,by
 show (kOf _ _).s.size<=900
 unfold kOf
 generalize Nat.beq _ 0=a
 generalize Nat.beq _ 1=b
 generalize Nat.beq _ 2=c
 cases a<;>cases b<;>cases c<;>first|exact bk _|(show 1<=900; omega)⟩
theorem FD:dY s (k7 l fuel param s) 1 1:=kD l fuel param hP (gg (yj _)) _ s
theorem RQ:dY s (k11 l fuel param s) 1 1:=kD l fuel param hP (gg (yj _)) _ s
theorem aB1 (d:Nat):nOf d<=9223372036854775807:=by unfold nOf; grind
theorem V9:dY s (k15 l fuel param s) 2 2:=(kD l fuel param hP (gg (aB1 param hP _)) _ s).trans (QP l fuel param hP _ _)
theorem HS:dY s (ksh l fuel param s) 1 1:=dY.both s _ ⟨by show (0:Int)<=_; omega,bk _,by show 2<=900; omega,bk _⟩ (uR l _ s.ins fuel param hP)
theorem ID:dY s (k23 l fuel param s) 2 1:=(HS l fuel param hP s).trans (Iu l param hP _ _)
theorem UM:dY s (k26 l fuel param s) 2 1:=(HS l fuel param hP s).trans (U6 l param hP _ _)
theorem IH:dY s (k30 l fuel param s) 4 1:=(kD l fuel param hP (gg (by omega)) s.p s).trans (Ru l param hP _)
theorem Rv:dY s (k37 l fuel param s) 2 1:=(kD l fuel param hP (gg (by omega)) _ s).trans (QS l param hP _ _)
theorem Wc:dY s (k44 l fuel param s) 2 1:=(kD l fuel param hP (gg (by omega)) _ s).trans (Up param hP _ _)
theorem T3:dY s (k49 l fuel param s) 2 1:=(kD l fuel param hP (gg (yj _)) _ s).trans (V5 l param hP _ _)
theorem jD {s s':mH} {p:Nat} {c d:Nat} (h:dY ⟨p,s.ins,s.ex⟩ s' c d) (h1:c<=4) (h2:d<=2):dY s s' 4 2:=by
 have:=h.ins; have:=h.ex
 refine ⟨?_,?_,h.gi,h.ge⟩
 all_goals grind
theorem Hq:dY s (dP l fuel param s) 4 2:=by
 unfold dP
 generalize (nx l s.p 14).1=t
 have G:∀ {b:Bool} {x y:mH},dY s x 4 2->dY s y 4 2->dY s (bif b then x else y) 4 2:=λ{b x y} h1 h2=>by cases b<;>assumption
 refine G (jD param hP (ad0 l param hP _) (by omega) (by omega)) (G (jD param hP (FD l fuel param hP _) (by omega) (by omega)) (G (jD param hP (FD l fuel param hP _) (by omega) (by omega)) (G (jD param hP (FD l fuel param hP _) (by omega) (by omega)) (G (jD param hP (RQ l fuel param hP _) (by omega) (by omega)) (G (jD param hP (V9 l fuel param hP _) (by omega) (by omega)) (G (jD param hP (ID l fuel param hP _) (by omega) (by omega)) (G (jD param hP (ID l fuel param hP _) (by omega) (by omega)) (G (jD param hP (UM l fuel param hP _) (by omega) (by omega)) (G (jD param hP (IH l fuel param hP _) (by omega) (by omega)) (G (jD param hP (IH l fuel param hP _) (by omega) (by omega)) (G (jD param hP (Rv l fuel param hP _) (by omega) (by omega)) (G (jD param hP (Wc l fuel param hP _) (by omega) (by omega)) (jD param hP (T3 l fuel param hP _) (by omega) (by omega))))))))))))))
end
end
open Go Go.V
section
variable (l:Sq Int) (sn:Sq au->au->Sq au) (sx:Sq aq->aq->Sq aq)
def bp3 (ds:List D) (rs:List ah):Out:=match ds with
 | [.c (.rt q _ _)]=>match bh rs q with
   | some (.box [.rt m a b,c,d,.sa i n,.sa j ne,.im (.v (.int .i64 fu)),.im (.v (.int .i64 pa))])=>match bh rs m,bh rs i,bh rs j with
     | some (.box [y,.im (.v (.int .i64 p))]),some (.arr _ _ k get),some (.arr _ _ ke ge)=>
       (.t [],[(m,.box [y,.im (iI (dP l fu pa.toNat ⟨p.toNat,⟨k,λt=>kL (get t)⟩,⟨ke,λt=>qx (ge t)⟩⟩).p)]),(q,.box [.rt m a b,c,d,.sa (rs.length+1) (dP l fu pa.toNat ⟨p.toNat,⟨k,λt=>kL (get t)⟩,⟨ke,λt=>qx (ge t)⟩⟩).ins.n,.sa rs.length (dP l fu pa.toNat ⟨p.toNat,⟨k,λt=>kL (get t)⟩,⟨ke,λt=>qx (ge t)⟩⟩).ex.n,.im (iI fu),.im (iI pa)]),(i,.dead),(j,.dead)],
        [cl (dP l fu pa.toNat ⟨p.toNat,⟨k,λt=>kL (get t)⟩,⟨ke,λt=>qx (ge t)⟩⟩).ex,aP (dP l fu pa.toNat ⟨p.toNat,⟨k,λt=>kL (get t)⟩,⟨ke,λt=>qx (ge t)⟩⟩).ins])
     | _,_,_=>vR
   | _=>vR
 | _=>vR
def bz9 (f:FuncId) (ds:List D) (rs:List ah):Out:=match f with
 | 36=>bp3 l ds rs
 | f=>F67 l sn sx f ds rs
def I0:eU:={ F:=bz9 l sn sx,W:=W67 l,S:=qy }
end
def Pg:ah:=.box [.im (iI 0),.im (iI 0),.im (.v (.slice .none 0 0)),.im (.v (.slice .none 0 0))]
def Ai:Sq aq:=aH ⟨aH ⟨0,0,aH 0⟩,aH zV,0⟩
def pk:Sq au:=aH zI
section
def pI (k:Nat):au:={ ew 1 0 0 0 0 (-1) with k:=⟨3,(k:Int),⟨⟨[]⟩⟩⟩ }
def Wu:Nat->Nat->Sq au->Sq au
 | 0,_,s=>s
 | m+1,k,s=>Wu m (k+1) (cy s (pI k))
def Jx (l:Sq Int) (ins:Sq au):Nat->Nat->Nat->Sq Int->Sq Int
 | 0,_,_,h=>h
 | m+1,k,p,h=>bif (nx l p 2).1==0 then Jx l ins m (k+1) (nx l p 2).2 (eA h ⟨1,λ_=>(k:Int)⟩) else Jx l ins m (k+1) (vl l (nx l p 2).2 ins).2 (eA h ⟨1,λ_=>(vl l (nx l p 2).2 ins).1⟩)
def au7 (s:mH) (h:Sq Int):ak:=⟨⟨0,0⟩,cy s.ins { ew 20 0 0 0 0 (-1) with args:=h },s.ex⟩
section
variable (l:Sq Int) (fuel:Int) (param p:Nat) (ins:Sq au) (ex:Sq aq)
def xI (s:mH):ak:=bif (nx l s.p 6).1==0 then ⟨⟨0,0⟩,cy s.ins (ew 21 0 0 0 0 (s.ex.n:Int)),cH s.ex (lv l (nx l s.p 6).2 s.ins fuel param).1⟩ else au7 s (Jx l s.ins param 0 (nx l s.p 6).2 (aH 0))
def itS (l:Sq Int) (fuel:Int) (param:Nat):Nat->mH->mH
 | 0,s=>s
 | m+1,s=>itS l fuel param m (dP l fuel param s)
def md8:mH:=⟨(nx l (lv l p ins 0 param).2 14).2,cy ins (ew 18 0 0 0 fuel (ex.n:Int)),cH ex (lv l p ins 0 param).1⟩
def Xi:ak:=
 xI l (1+(nx l p 4).1) param (itS l (1+(nx l p 4).1) param (nx l (lv l (nx l p 4).2 ins 0 param).2 14).1.toNat (md8 l (1+(nx l p 4).1) param (nx l p 4).2 ins ex))
def made:ak:=Xi l (1+(nx l 0 4).1.toNat) (nx l 0 4).2 (Wu (1+(nx l 0 4).1.toNat) 0 pk) Ai
end
end
def qw:Nat->Bool:=λi=>Nat.beq i 4||Nat.beq i 7||Nat.beq i 16||Nat.beq i 19||Nat.beq i 26||Nat.beq i 31
section
variable (L:LP) (aj:Sq Int) (QD:D->Prop) (ax:Nat) (sn:Sq au->au->Sq au) (aJ:Sq au) (sx:Sq aq->aq->Sq aq) (l:Sq Int) (aZ:Sq aq) (p:Nat) (ins:Sq au) (aa:Sq aq) (fuel:Int) (param:Nat) (x:au)
theorem bC8:Fn 11:={}
abbrev ch:ah:=.box [(ci 0),(ci 0),bS,bS]
theorem bw5 (h:(WC 33 [(.c (.rt 1 0 0)),(int 4)] [ch,(.box [(.im (.sl 1 l.1 (λi=>bn (l.2 i)))),(ci 0)]),(.box [(.rt 1 0 0),(ci 0),(ci 0),bS,bS,(ci 0),(ci 0)])] (int ((nx l 0 4).1)) 1 (aL l ((nx l 0 4).2))/\L (af 11 4) ⟨[b4,cX,vD],[ch,(aL l ((nx l 0 4).2)),(.box [(.rt 1 0 0),(ci 0),(ci 0),bS,bS,(ci 0),(ci (IntKind.i64.wrap (1+(nx l 0 4).1)))])],[]⟩)):ep (I0 l sn sx) 11 qw L (bf QD) [fM 1 bn l] []:=km h
abbrev gV:eQ:=(3,.c (.rt 2 0 0),[])
def Gd (sn:Sq au->au->Sq au) (sx:Sq aq->aq->Sq aq) (l:Sq Int) (p:Nat) (ins:Sq au) (aa:Sq aq) (param k:Nat):VS:=⟨[gm,gV,(4,int k,[])],[Pg,aL l p,bm 1 3 ins.n 4 aa.n 0 param,aP ins,cl aa],[]⟩
abbrev Md (bR:Nat):List ah:=[ch,(aL aj ax),(bm 1 3 aJ.1 4 aZ.1 0 (↑bR:Int)),(aP aJ),(cl aZ)]
abbrev ao6 (aJ:Sq au->au->Sq au) (aZ:Sq au) (bR:Nat) (cW:Sq aq) (de:Nat):List ah:=[ch,(aL aj ax),(bm 1 5 ((aJ aZ { op:=Int.ofNat 1,a:=Int.ofNat 0,b:=Int.ofNat 0,c:=Int.ofNat 0,n:=Int.ofNat 0,args:={ n:=0,get:=λx=>Int.ofNat 0 },k:={ kind:=Int.ofNat 3,n:=Int.ofNat bR,s:={ data:={ toList:=[] } } },names:={ n:=0,get:=λx=>{ data:={ toList:=[] } } },place:={ fn:=Int.ofNat 0,line:=Int.ofNat 0 },exit:=Int.negSucc 0,once:=false }).1) 4 cW.1 0 (↑de:Int)),.dead,(cl cW),(aP (aJ aZ { op:=Int.ofNat 1,a:=Int.ofNat 0,b:=Int.ofNat 0,c:=Int.ofNat 0,n:=Int.ofNat 0,args:={ n:=0,get:=λx=>Int.ofNat 0 },k:={ kind:=Int.ofNat 3,n:=Int.ofNat bR,s:={ data:={ toList:=[] } } },names:={ n:=0,get:=λx=>{ data:={ toList:=[] } } },place:={ fn:=Int.ofNat 0,line:=Int.ofNat 0 },exit:=Int.negSucc 0,once:=false }))]
theorem QH (k:Nat) (h:br (decide ((↑k:Int)<(↑param:Int))) ((LC 34 [(.c (.rt 2 0 0)),(.a [(ci 1),(ci 0),(ci 0),(ci 0),(ci 0),bS,(ci 3),(ci (↑k:Int)),dH,bS,(ci 0),(ci 0),(ci (-1)),ea])] (Md l p ins aa param) (dL ins) (ao6 l p sn ins k aa param)/\L (af 11 4) ⟨[b4,cX,(4,((int (IntKind.i64.wrap ((↑k:Int)+1))),[]))],(ao6 l p sn ins k aa param),[]⟩)) (L (af 11 7) ⟨[b4,cX,(4,((int (↑k:Int)),[])),(29,((bool false),[]))],(Md l p ins aa param),[]⟩)):b5 (I0 l sn sx) 11 qw L (bf QD) 4 (Gd sn sx l p ins aa param k):=km h
def Mo (sn:Sq au->au->Sq au) (sx:Sq aq->aq->Sq aq) (l:Sq Int) (p:Nat) (ins:Sq au) (aa:Sq aq) (param:Nat):VS:=⟨[gm,gV],[Pg,aL l p,bm 1 3 ins.n 4 aa.n 0 param,aP ins,cl aa],[]⟩
abbrev yZ:List D:=[(.c (.rt 2 0 0))]
abbrev nl:eQ:=(5,((.c (.rt 5 0 0)),[]))
theorem az6 (h:(WC 33 [(.c (.rt 1 0 0)),(int 4)] (Md l p ins aa param) (int ((nx l p 4).1)) 1 (aL l ((nx l p 4).2))/\(LC 35 yZ [ch,(aL l ((nx l p 4).2)),(bm 1 3 ins.1 4 aa.1 0 (↑param:Int)),(aP ins),(cl aa),(.box (fO 18 0 0 0 (cV (I.v (Value.int IntKind.i64 (IntKind.i64.wrap (1+(nx l p 4).1))))) 0))] (kP aa) [ch,(aL l ((lv l (nx l p 4).2 ins 0 param).2)),(bm 1 3 ins.1 6 ((sx aa (lv l (nx l p 4).2 ins 0 param).1).1) 0 (↑param:Int)),(aP ins),.dead,(.box (fO 18 0 0 0 (cV (I.v (Value.int IntKind.i64 (IntKind.i64.wrap (1+(nx l p 4).1))))) 0)),(cl (sx aa (lv l (nx l p 4).2 ins 0 param).1))]/\(LC 34 [(.c (.rt 2 0 0)),(.a (fO 18 0 0 0 (cV (I.v (Value.int IntKind.i64 (IntKind.i64.wrap (1+(nx l p 4).1))))) (Int.ofNat aa.1)))] [ch,(aL l ((lv l (nx l p 4).2 ins 0 param).2)),(bm 1 3 ins.1 6 ((sx aa (lv l (nx l p 4).2 ins 0 param).1).1) (IntKind.i64.wrap (1+(nx l p 4).1)) (↑param:Int)),(aP ins),.dead,(.box (fO 18 0 0 0 (cV (I.v (Value.int IntKind.i64 (IntKind.i64.wrap (1+(nx l p 4).1))))) (Int.ofNat aa.1))),(cl (sx aa (lv l (nx l p 4).2 ins 0 param).1))] (dL ins) [ch,(aL l ((lv l (nx l p 4).2 ins 0 param).2)),(bm 1 7 ((sn ins (ew 18 0 0 0 (cV (I.v (Value.int IntKind.i64 (IntKind.i64.wrap (1+(nx l p 4).1))))) (Int.ofNat aa.1))).1) 6 ((sx aa (lv l (nx l p 4).2 ins 0 param).1).1) (IntKind.i64.wrap (1+(nx l p 4).1)) (↑param:Int)),.dead,.dead,(.box (fO 18 0 0 0 (cV (I.v (Value.int IntKind.i64 (IntKind.i64.wrap (1+(nx l p 4).1))))) (Int.ofNat aa.1))),(cl (sx aa (lv l (nx l p 4).2 ins 0 param).1)),(aP (sn ins (ew 18 0 0 0 (cV (I.v (Value.int IntKind.i64 (IntKind.i64.wrap (1+(nx l p 4).1))))) (Int.ofNat aa.1))))]/\(WC 33 [(.c (.rt 1 0 0)),(int 14)] [ch,(aL l ((lv l (nx l p 4).2 ins 0 param).2)),(bm 1 7 ((sn ins (ew 18 0 0 0 (cV (I.v (Value.int IntKind.i64 (IntKind.i64.wrap (1+(nx l p 4).1))))) (Int.ofNat aa.1))).1) 6 ((sx aa (lv l (nx l p 4).2 ins 0 param).1).1) (IntKind.i64.wrap (1+(nx l p 4).1)) (↑param:Int)),.dead,.dead,(.box (fO 18 0 0 0 (cV (I.v (Value.int IntKind.i64 (IntKind.i64.wrap (1+(nx l p 4).1))))) (Int.ofNat aa.1))),(cl (sx aa (lv l (nx l p 4).2 ins 0 param).1)),(aP (sn ins (ew 18 0 0 0 (cV (I.v (Value.int IntKind.i64 (IntKind.i64.wrap (1+(nx l p 4).1))))) (Int.ofNat aa.1))))] (int ((nx l (lv l (nx l p 4).2 ins 0 param).2 14).1)) 1 (aL l ((nx l (lv l (nx l p 4).2 ins 0 param).2 14).2))/\L (af 11 16) ⟨[b4,cX,nl,(7,((int ((nx l (lv l (nx l p 4).2 ins 0 param).2 14).1)),[])),wj],[ch,(aL l ((nx l (lv l (nx l p 4).2 ins 0 param).2 14).2)),(bm 1 7 ((sn ins (ew 18 0 0 0 (cV (I.v (Value.int IntKind.i64 (IntKind.i64.wrap (1+(nx l p 4).1))))) (Int.ofNat aa.1))).1) 6 ((sx aa (lv l (nx l p 4).2 ins 0 param).1).1) (IntKind.i64.wrap (1+(nx l p 4).1)) (↑param:Int)),.dead,.dead,(.box (fO 18 0 0 0 (cV (I.v (Value.int IntKind.i64 (IntKind.i64.wrap (1+(nx l p 4).1))))) (Int.ofNat aa.1))),(cl (sx aa (lv l (nx l p 4).2 ins 0 param).1)),(aP (sn ins (ew 18 0 0 0 (cV (I.v (Value.int IntKind.i64 (IntKind.i64.wrap (1+(nx l p 4).1))))) (Int.ofNat aa.1))))],[]⟩))))):b5 (I0 l sn sx) 11 qw L (bf QD) 7 (Mo sn sx l p ins aa param):=km h
abbrev DF:eQ:=(5,.c (.rt 5 0 0),[])
def yf (sn:Sq au->au->Sq au) (sx:Sq aq->aq->Sq aq) (l:Sq Int) (p:Nat) (ins:Sq au) (aa:Sq aq) (fuel:Int) (param:Nat) (x:au) (steps k:Nat):VS:=⟨[gm,gV,DF,(7,int steps,[]),(8,int k,[])],[Pg,aL l p,bm 1 3 ins.n 4 aa.n fuel param,aP ins,cl aa,.box (lift (bW x))],[]⟩
abbrev pB (aj:Sq au) (ax:Sq aq) (aJ:Int) (aZ:Nat):ah:=bm 1 3 aj.1 4 ax.1 aJ (↑aZ:Int)
abbrev EI (bR:Int) (cW:Nat) (de:au):List ah:=[ch,(aL aj ax),(pB aJ aZ bR cW),(aP aJ),(cl aZ),(cG de)]
abbrev WO (ax:Int) (aJ aZ:Nat) (bR:Sq au) (cW:Sq aq) (de:au):List ah:=[ch,(aL aj ((dP aj ax aJ { p:=aZ,ins:=bR,ex:=cW }).p)),(bm 1 7 ((dP aj ax aJ { p:=aZ,ins:=bR,ex:=cW }).ins.1) 6 ((dP aj ax aJ { p:=aZ,ins:=bR,ex:=cW }).ex.1) ax (↑aJ:Int)),.dead,.dead,(cG de),(cl ((dP aj ax aJ { p:=aZ,ins:=bR,ex:=cW }).ex)),(aP ((dP aj ax aJ { p:=aZ,ins:=bR,ex:=cW }).ins))]
theorem Nn (steps k:Nat) (h:br (decide ((↑k:Int)<(↑steps:Int))) ((LC 36 yZ (EI l p ins aa fuel param x) (.t []) (WO l fuel param p ins aa x)/\L (af 11 16) ⟨[b4,cX,nl,(7,((fp steps),[])),(8,((int (IntKind.i64.wrap ((↑k:Int)+1))),[]))],(WO l fuel param p ins aa x),[]⟩)) (L (af 11 19) ⟨[b4,cX,nl,(7,((fp steps),[])),(8,((int (↑k:Int)),[])),(75,((bool false),[]))],(EI l p ins aa fuel param x),[]⟩)):b5 (I0 l sn sx) 11 qw L (bf QD) 16 (yf sn sx l p ins aa fuel param x steps k):=km h
def Dk (sn:Sq au->au->Sq au) (sx:Sq aq->aq->Sq aq) (l:Sq Int) (p:Nat) (ins:Sq au) (aa:Sq aq) (fuel:Int) (param:Nat) (x:au):VS:=⟨[gm,gV,DF],[Pg,aL l p,bm 1 3 ins.n 4 aa.n fuel param,aP ins,cl aa,.box (lift (bW x))],[]⟩
theorem ZJ (h:(WC 33 [(.c (.rt 1 0 0)),(int 6)] (EI l p ins aa fuel param x) (int ((nx l p 6).1)) 1 (aL l ((nx l p 6).2))/\br ((nx l p 6).1==0) ((LC 35 yZ [ch,(aL l ((nx l p 6).2)),(pB ins aa fuel param),(aP ins),(cl aa),(.box (fO 21 0 0 0 0 0))] (kP aa) [ch,(aL l ((lv l (nx l p 6).2 ins fuel param).2)),(bm 1 3 ins.1 6 ((sx aa (lv l (nx l p 6).2 ins fuel param).1).1) fuel (↑param:Int)),(aP ins),.dead,(.box (fO 21 0 0 0 0 0)),(cl (sx aa (lv l (nx l p 6).2 ins fuel param).1))]/\(LC 34 [(.c (.rt 2 0 0)),(.a (fO 21 0 0 0 0 (Int.ofNat aa.1)))] [ch,(aL l ((lv l (nx l p 6).2 ins fuel param).2)),(bm 1 3 ins.1 6 ((sx aa (lv l (nx l p 6).2 ins fuel param).1).1) fuel (↑param:Int)),(aP ins),.dead,(.box (fO 21 0 0 0 0 (Int.ofNat aa.1))),(cl (sx aa (lv l (nx l p 6).2 ins fuel param).1))] (dL ins) [ch,(aL l ((lv l (nx l p 6).2 ins fuel param).2)),(bm 1 7 ((sn ins (ew 21 0 0 0 0 (Int.ofNat aa.1))).1) 6 ((sx aa (lv l (nx l p 6).2 ins fuel param).1).1) fuel (↑param:Int)),.dead,.dead,(.box (fO 21 0 0 0 0 (Int.ofNat aa.1))),(cl (sx aa (lv l (nx l p 6).2 ins fuel param).1)),(aP (sn ins (ew 21 0 0 0 0 (Int.ofNat aa.1))))]/\QD (.a (lift (aT ({ place:={ fn:=Int.ofNat 0,line:=Int.ofNat 0 },ins:=sn ins (ew 21 0 0 0 0 (Int.ofNat aa.1)),aa:=sx aa (lv l (nx l p 6).2 ins fuel param).1 }))))))) (L (af 11 26) ⟨[b4,cX,nl,(9,((int 0),[]))],[ch,(aL l ((nx l p 6).2)),(pB ins aa fuel param),(aP ins),(cl aa),(.box (fO 20 0 0 0 0 (-1)))],[]⟩))):b5 (I0 l sn sx) 11 qw L (bf QD) 19 (Dk sn sx l p ins aa fuel param x):=km h
def uE (sn:Sq au->au->Sq au) (sx:Sq aq->aq->Sq aq) (l:Sq Int) (p:Nat) (ins:Sq au) (aa:Sq aq) (fuel:Int) (param:Nat) (hq:Sq Int) (k:Nat):VS:=⟨[gm,gV,DF,(9,int k,[])],[Pg,aL l p,bm 1 3 ins.n 4 aa.n fuel param,aP ins,cl aa,.box [.im (iI 20),.im (iI 0),.im (iI 0),.im (iI 0),.im (iI 0),.sa 6 hq.n,.im (iI 0),.im (iI 0),.im (iS ⟨⟨[]⟩⟩),.im (.v (.slice none 0 0)),.im (iI 0),.im (iI 0),.im (iI (-1)),.im (iB false)],.arr 3 1 hq.n (λi=>bn (hq.get i))],[]⟩
abbrev ED:ah:=.box [(ci 20),(ci 0),(ci 0),(ci 0),(ci 0),(.sa 6 aj.1),(ci 0),(ci 0),dH,bS,(ci 0),(ci 0),(ci (-1)),ea]
theorem Nx (hq:Sq Int) (k:Nat) (h:br (decide ((↑k:Int)<(↑param:Int))) ((WC 33 [(.c (.rt 1 0 0)),(int 2)] [ch,(aL l p),(pB ins aa fuel param),(aP ins),(cl aa),(ED hq),(eJ hq)] (qu l p) 1 (aL l ((nx l p 2).2))/\br ((nx l p 2).1==0) (nd (cw (hq.1+1) 8) (nd (hq.1.beq hq.1) (L (af 11 26) ⟨[b4,cX,nl,(9,((int (IntKind.i64.wrap ((↑k:Int)+1))),[]))],[ch,(iw l p),(pB ins aa fuel param),(aP ins),(cl aa),(.box [(ci 20),(ci 0),(ci 0),(ci 0),(ci 0),(.sa 8 (.succ hq.1)),(ci 0),(ci 0),dH,bS,(ci 0),(ci 0),(ci (-1)),ea]),.dead,(.row 3 1 1 [(ci (↑k:Int))]),(Rt hq k)],[]⟩))) ((WC 37 yZ [ch,(iw l p),(pB ins aa fuel param),(aP ins),(cl aa),(ED hq),(eJ hq),.dead,.dead,.dead] (qR l p ins) 1 (aL l ((vl l (nx l p 2).2 ins).2))/\nd (cw (hq.1+1) 8) (nd (hq.1.beq hq.1) ((WC 37 yZ [ch,(iw l p),(pB ins aa fuel param),(aP ins),(cl aa),(ED hq),(eJ hq),.dead,.dead,.dead] (qR l p ins) 1 (aL l ((vl l (nx l p 2).2 ins).2))/\nd (cw (hq.1+1) 8) (nd (hq.1.beq hq.1) (L (af 11 26) ⟨[b4,cX,nl,(9,((int (IntKind.i64.wrap ((↑k:Int)+1))),[]))],[ch,(qv l p ins),(pB ins aa fuel param),(aP ins),(cl aa),(.box [(ci 20),(ci 0),(ci 0),(ci 0),(ci 0),(.sa 9 (.succ hq.1)),(ci 0),(ci 0),dH,bS,(ci 0),(ci 0),(ci (-1)),ea]),.dead,.dead,(.row 3 1 1 [(ci ((vl l (nx l p 2).2 ins).1))]),(.arr 3 1 (hq.1+1) (fZ hq.1 (λi=>bn (hq.2 i)) (1,flat 1 [I.v (Value.int IntKind.i64 (vl l (nx l p 2).2 ins).1)]).snd))],[]⟩))))))))) (L (af 11 31) ⟨[b4,cX,nl,(oO k),(103,((bool false),[]))],[ch,(aL l p),(pB ins aa fuel param),(aP ins),(cl aa),(ED hq),(eJ hq)],[]⟩)):b5 (I0 l sn sx) 11 qw L (bf QD) 26 (uE sn sx l p ins aa fuel param hq k):=km h
def DI (sn:Sq au->au->Sq au) (sx:Sq aq->aq->Sq aq) (l:Sq Int) (p:Nat) (ins:Sq au) (aa:Sq aq) (fuel:Int) (param:Nat) (x:au):VS:=⟨[gm,gV,DF],[Pg,aL l p,bm 1 3 ins.n 4 aa.n fuel param,aP ins,cl aa,.box (lift (bW x))],[]⟩
theorem XQ (h:(LC 34 [(.c (.rt 2 0 0)),(wi x)] (EI l p ins aa fuel param x) (dL ins) [ch,(aL l p),(bm 1 6 ((sn ins x).1) 4 aa.1 fuel (↑param:Int)),.dead,(cl aa),(cG x),(aP (sn ins x))]/\QD (.a (lift (aT ({ place:={ fn:=Int.ofNat 0,line:=Int.ofNat 0 },ins:=sn ins x,aa:=aa })))))):b5 (I0 l sn sx) 11 qw L (bf QD) 31 (DI sn sx l p ins aa fuel param x):=km h
theorem Zo (hI:ins.n<=1000):ae 11 0 (a7 (aO (⟨⟨0,0⟩,cy ins x,aa⟩))) (af 11 31) (DI cy cH l p ins aa fuel param x):=by
 refine aK (X:=I0 l cy cH) (stop:=qw) (XQ _ _ cy cH l p ins aa fuel param x ⟨fq (m:=1) (q:=2) (i:=3) (j:=4) _ _ hI (aX.refl _) rfl (aQ rfl) rfl rfl (aQ rfl),?_⟩)
 exact aX.refl _
end
section
variable (l:Sq Int) (p:Nat) (ins:Sq au) (aa:Sq aq) (fuel:Int) (param:Nat) (x:au)
theorem YI (hl:l.n<=maxLen) (hI:ins.n<=1000) (hP:param<=900) (o:Sq Int):∀ k,k<=param->∀ (p:Nat) (hq:Sq Int),hq.n<=k->Jx l ins (param-k) k p hq=o->ae 11 0 (a7 (aO (au7 ⟨0,ins,aa⟩ o))) (af 11 26) (uE cy cH l p ins aa fuel param hq k):=by
 refine aN (λk hk ih p hq hh ho=>?_) (λp hq hh ho=>?_)
 .have q:param-k=(param-(k+1))+1:=by omega
  rw [q] at ho
  refine aK (X:=I0 l cy cH) (stop:=qw) (Nx _ _ cy cH l p ins aa fuel param hq k ?_)
  rw [b6 hk (cT hP (by decide))]
  refine ag (λh3=>?_) (λh3=>(dec_lt h3 hk).elim)
  refine ⟨e5 l _ _ hl rfl,ag (λh4=>?_) (λh4=>?_)⟩
  .have e:Jx l ins (param-(k+1)+1) k p hq=Jx l ins (param-(k+1)) (k+1) (nx l p 2).2 (eA hq ⟨1,λ_=>(k:Int)⟩):=by
    grind [Jx]
   rw [e] at ho
   refine ai (bO (by omega) (by omega)) (ai (dv _) ?_)
   exact ae.rename [0,1,2,3,4,5,8] rfl (ae.lf (uE cy cH l (nx l p 2).2 ins aa fuel param (eA hq ⟨1,λ_=>(k:Int)⟩) (k+1)) (rc (rc (rc (rc (rc (rc (.cons (DS hq _) .nil))))))) (ih _ _ (by show hq.n+1<=_; omega) ho))
  .have e:Jx l ins (param-(k+1)+1) k p hq=Jx l ins (param-(k+1)) (k+1) (vl l (nx l p 2).2 ins).2 (eA hq ⟨1,λ_=>(vl l (nx l p 2).2 ins).1⟩):=by
    grind [Jx]
   rw [e] at ho
   refine ⟨gr (m:=1) (q:=2) (i:=3) (j:=4) l _ _ hl,ai (bO (by omega) (by omega)) (ai (dv _) ⟨gr (m:=1) (q:=2) (i:=3) (j:=4) l _ _ hl,ai (bO (by omega) (by omega)) (ai (dv _) ?_)⟩)⟩
   exact ae.rename [0,1,2,3,4,5,9] rfl (ae.lf (uE cy cH l (vl l (nx l p 2).2 ins).2 ins aa fuel param (eA hq ⟨1,λ_=>(vl l (nx l p 2).2 ins).1⟩) (k+1)) (rc (rc (rc (rc (rc (rc (.cons (DS hq _) .nil))))))) (ih _ _ (by show hq.n+1<=_; omega) ho))
 .rw [Nat.sub_self] at ho
  refine aK (X:=I0 l cy cH) (stop:=qw) (Nx _ _ cy cH l p ins aa fuel param hq _ ?_)
  refine ag (λh3=>bq h3) (λh3=>?_)
  have ho:hq=o:=ho
  subst ho
  exact ae.freeze 6 rfl (ae.rename [0,1,2,3,4,5] rfl (ae.lf (DI cy cH l p ins aa fuel param { ew 20 0 0 0 0 (-1) with args:=hq }) (rc (rc (rc (rc (rc (.cons (aY.box (by repeat' (first|exact aF.nil|refine aF.cons ?_ ?_|exact dI.refl _|exact dI.nil _ _))) .nil)))))) (Zo l p ins aa fuel param _ hI)))
theorem ZY (hl:l.n<=maxLen) (hI:ins.n<=900) (hE:aa.n<=900) (hF:0<=fuel/\fuel<=1000) (hP:param<=900):ae 11 0 (a7 (aO (xI l fuel param ⟨p,ins,aa⟩))) (af 11 19) (Dk cy cH l p ins aa fuel param x):=by
 refine aK (X:=I0 l cy cH) (stop:=qw) (ZJ _ _ cy cH l p ins aa fuel param x ⟨e5 l _ _ hl rfl,ag (λh=>?_) (λh=>?_)⟩)
 .rw [show xI l fuel param ⟨p,ins,aa⟩=⟨⟨0,0⟩,cy ins (ew 21 0 0 0 0 (aa.n:Int)),cH aa (lv l (nx l p 6).2 ins fuel param).1⟩ from by grind [xI]]
  exact ⟨pJ (m:=1) (q:=2) (i:=3) (j:=4) l _ _ _ hl,fq (m:=1) (q:=2) (i:=3) (j:=6) _ _,aX.refl _⟩
 .rw [show xI l fuel param ⟨p,ins,aa⟩=au7 ⟨0,ins,aa⟩ (Jx l ins param 0 (nx l p 6).2 (aH 0)) from by unfold xI; rw [show ((nx l p 6).1==0)=false from h]; rfl]
  exact ae.iQ 5 5 3 1 _ rfl rfl (ae.lf (uE cy cH l (nx l p 6).2 ins aa fuel param (aH 0) 0) (rc (rc (rc (rc (rc (rc (.cons (qp 3 1 _ _) .nil))))))) (YI l ins aa fuel param hl (by omega) hP _ 0 (bk _) _ (aH 0) (bk _) rfl))
theorem XD (steps:Nat) (hl:l.n<=maxLen) (hF:0<=fuel/\fuel<=1000) (hP:param<=900) (hS:steps<=1000) (o:ak):∀ k,k<=steps->∀ (p:Nat) (ins:Sq au) (aa:Sq aq),ins.n+4*(steps-k)<=900->aa.n+2*(steps-k)<=900->xI l fuel param (itS l fuel param (steps-k) ⟨p,ins,aa⟩)=o->ae 11 0 (a7 (aO (o))) (af 11 16) (yf cy cH l p ins aa fuel param x steps k):=by
 refine aN (λk hk ih p ins aa hI hE ho=>?_) (λp ins aa hI hE ho=>?_)
 .have q:steps-k=(steps-(k+1))+1:=by omega
  rw [q] at ho hI hE
  refine aK (X:=I0 l cy cH) (stop:=qw) (Nn _ _ cy cH l p ins aa fuel param x steps k ?_)
  rw [b6 hk (cT hS (by decide))]
  refine ag (λh3=>?_) (λh3=>(dec_lt h3 hk).elim)
  refine ⟨aV9 (m:=1) (q:=2) (i:=3) (j:=4) l p ins aa fuel param hl (by omega) (by omega) hF (by omega) rfl rfl rfl rfl rfl,?_⟩
  have g:=Hq l fuel param hP ⟨p,ins,aa⟩
  have g1:=g.ins
  have g2:=g.ex
  exact ae.rename [0,1,2,7,6,5] rfl (ae.lr (yf cy cH l (dP l fuel param ⟨p,ins,aa⟩).p (dP l fuel param ⟨p,ins,aa⟩).ins (dP l fuel param ⟨p,ins,aa⟩).ex fuel param x steps (k+1)) (ih _ _ _ (by grind) (by grind) ho))
 .rw [Nat.sub_self] at ho hI hE
  refine aK (X:=I0 l cy cH) (stop:=qw) (Nn _ _ cy cH l p ins aa fuel param x steps _ ?_)
  refine ag (λh3=>bq h3) (λh3=>?_)
  have ho:xI l fuel param ⟨p,ins,aa⟩=o:=ho
  subst ho
  exact ae.lr (Dk cy cH l p ins aa fuel param x) (ZY l p ins aa fuel param x hl (by omega) (by omega) hF hP)
theorem aI6 (hl:l.n<=maxLen) (hI:ins.n<=800) (hE:aa.n<=800) (hP:param<=900):ae 11 0 (a7 (aO (Xi l param p ins aa))) (af 11 7) (Mo cy cH l p ins aa param):=by
 obtain ⟨d,hd,eW⟩:=nw (l:=l) (p:=(lv l (nx l p 4).2 ins 0 param).2) (n:=14) (by omega) (by omega)
 have hf:=OH (l:=l) (p:=p) (n:=4) (by omega) (by omega)
 have hF:(0:Int)<=0/\(0:Int)<=1000:=by omega
 refine aK (X:=I0 l cy cH) (stop:=qw) (az6 _ _ cy cH l p ins aa param ?_)
 rw [iT (k:=1+(nx l p 4).1) (by omega) (by omega)]
 refine ⟨e5 l _ _ hl rfl,pJ (m:=1) (q:=2) (i:=3) (j:=4) l _ _ _ hl,fq (m:=1) (q:=2) (i:=3) (j:=6) _ _,e5 l _ _ hl rfl,?_⟩
 rw [show Xi l param p ins aa=xI l (1+(nx l p 4).1) param (itS l (1+(nx l p 4).1) param d (md8 l (1+(nx l p 4).1) param (nx l p 4).2 ins aa)) from by unfold Xi; rw [hd]; rfl]
 refine ae.rename [0,1,2,7,6,5] rfl (ae.le (yf cy cH l (md8 l (1+(nx l p 4).1) param (nx l p 4).2 ins aa).p (md8 l (1+(nx l p 4).1) param (nx l p 4).2 ins aa).ins (md8 l (1+(nx l p 4).1) param (nx l p 4).2 ins aa).ex (1+(nx l p 4).1) param (ew 18 0 0 0 (1+(nx l p 4).1) (aa.n:Int)) d 0) ⟨⟨rfl,_,rfl,aX.refl _⟩,⟨rfl,_,rfl,aX.refl _⟩,⟨rfl,_,rfl,aX.refl _⟩,⟨rfl,_,rfl,by rw [hd]; exact aX.refl _⟩,⟨rfl,_,rfl,aX.refl _⟩,trivial⟩ (rc (rc (rc (rc (rc (.cons (aY.box (by repeat' (first|exact aF.nil|refine aF.cons ?_ ?_|exact dI.refl _|exact dI.nil _ _))) .nil)))))) rfl (XD l _ param _ d hl (by omega) hP (by omega) _ 0 (bk _) _ _ _ (by show ins.n+1+4*(d-0)<=900; omega) (by show aa.n+1+2*(d-0)<=900; omega) rfl))
theorem au4 (hl:l.n<=maxLen) (hE:aa.n<=800) (hP:param<=500) (o:ak):∀ k,k<=param->∀ (ins:Sq au),ins.n<=k->Xi l param p (Wu (param-k) k ins) aa=o->ae 11 0 (a7 (aO (o))) (af 11 4) (Gd cy cH l p ins aa param k):=by
 refine aN (λk hk ih ins hI ho=>?_) (λins hI ho=>?_)
 .have q:param-k=(param-(k+1))+1:=by omega
  rw [q] at ho
  refine aK (X:=I0 l cy cH) (stop:=qw) (QH _ _ cy cH l p ins aa param k ?_)
  rw [b6 hk (cT hP (by decide))]
  refine ag (λh3=>?_) (λh3=>(dec_lt h3 hk).elim)
  refine ⟨fq (m:=1) (q:=2) (i:=3) (j:=4) _ (pI k) (by omega) (by first|exact aX.refl _|exact jK (by repeat' (first|exact aF.nil|refine aF.cons ?_ ?_|exact dI.refl _|exact dI.nil _ _))) rfl (aQ rfl) rfl rfl (aQ rfl),?_⟩
  exact ae.rename [0,1,2,5,4] rfl (ae.lr (Gd cy cH l p (cy ins (pI k)) aa param (k+1)) (ih _ (by show ins.n+1<=_; omega) ho))
 .rw [Nat.sub_self] at ho
  refine aK (X:=I0 l cy cH) (stop:=qw) (QH _ _ cy cH l p ins aa param _ ?_)
  refine ag (λh3=>bq h3) (λh3=>?_)
  have ho:Xi l param p ins aa=o:=ho
  subst ho
  exact ae.lr (Mo cy cH l p ins aa param) (aI6 l p ins aa param hl (by omega) hE (by omega))
theorem bi7 (hl:l.n<=maxLen):LC 11 [fM 1 bn l] [] (aO (made l)) []:=by
 obtain ⟨d,hd,eW⟩:=nw (l:=l) (p:=0) (n:=4) (by omega) (by omega)
 refine pv (X:=I0 l cy cH) (stop:=qw) bC8 (bw5 _ _ cy cH l ⟨e5 l 0 _ hl rfl,?_⟩)
 rw [hd,show IntKind.i64.wrap (1+(d:Int))=((1+d:Nat):Int) from by rw [show 1+(d:Int)=((1+d:Nat):Int) by omega,nG (by omega)]]
 rw [show made l=Xi l (1+d) (nx l 0 4).2 (Wu (1+d) 0 pk) Ai from by unfold made; rw [hd]; rfl]
 exact ae.iQ 2 3 52 14 _ rfl rfl (ae.iQ 2 4 57 3 _ rfl rfl (ae.lf (Gd cy cH l (nx l 0 4).2 pk Ai (1+d) 0) (rc (rc (rc (.cons (qp 52 14 _ _) (.cons (qp 57 3 _ _) .nil))))) (au4 l _ Ai (1+d) hl (bk _) (by omega) _ 0 (bk _) pk (bk _) rfl)))
end
end
end Go.Proofs.YtgbbdaegmfjahaaGreat
namespace Go.V
noncomputable section
def Xj (l:List O):Nat->O:=List.rec (λ_=>.im (.v (.bool false))) (λx _ ih k=>Nat.rec x (λm _=>ih m) k) l
def sU (s:Sq Int):O:=.ar 3 1 s.n λi=>bn (s.get i)
section
variable (s:Sq ByteArray) (x:au)
def O3:O:=.ar 9 1 s.n λi=>cA (s.get i)
def bq9:List O:=[.im (iI x.op),.im (iI x.a),.im (iI x.b),.im (iI x.c),.im (iI x.n),sU x.args,.im (iI x.k.kind),.im (iI x.k.n),.im (iS x.k.s),O3 x.names,.im (iI x.place.fn),.im (iI x.place.line),.im (iI x.exit),.im (iB x.once)]
def cn:Nat->O:=Xj (bq9 x)
def dA (x:cK):Nat->O:=Xj [.im (iI x.fn),.im (iI x.line),sU x.vars]
def jH (x:cZ):Nat->O:=Xj [.im (iI x.value),.im (iI x.cls),O3 x.names,sU x.items]
def xR (s:Sq cK):O:=.ns 92 3 s.n λi=>dA (s.get i)
def GP (s:Sq cZ):O:=.ns 59 4 s.n λi=>jH (s.get i)
def cL (x:aq):Nat->O:=Xj [xR x.frames,GP x.az,.im (iI x.back)]
def tR (s:Sq cK):ah:=.bo 92 3 s.n (λi=>dA (s.get i)) none
def YS (s:Sq cZ):ah:=.bo 59 4 s.n (λi=>jH (s.get i)) none
def cm (s:Sq au):ah:=.bo 52 14 s.n (λi=>cn (s.get i)) none
def eV (s:Sq aq):ah:=.bo 57 3 s.n (λi=>cL (s.get i)) none
def hZ (s:Sq Int):ah:=.arr 3 1 s.n (λi=>bn (s.get i))
def P0:ah:=.arr 9 1 s.n (λi=>cA (s.get i))
def Hz (f:Nat->O):List Fc->Nat->Prop
 | [],_=>True
 | c::l,j=>aR c (.o (f j))/\Hz f l (j+1)
end
end
section
variable (x:O) {e el sz n k:Nat} {get get':Nat->Nat->O} {l:List Fc}
def nV (y:O):Prop:=∀ (av:Nat->Prop) (base:Nat) (w:World) (K:Nat->Prop) (v:Value),fx av base w x K v->fx av base w y K v
theorem nV.refl:nV x x:=λ_ _ _ _ _ h=>h
theorem nV.im {x y:I} (h:cD x y):nV (.im x) (.im y):=λav _ w _ v q=>h av w v q
theorem nV.ar {g g':Nat->Nat->I} (h:∀ i,i<n->∀ j,j<sz->cD (g i j) (g' i j)):nV (.ar e sz n g) (.ar e sz n g'):=by
 rintro av base w K v ⟨h0,xs,h1,h2⟩
 refine ⟨h0,xs,h1,λi hi j hj=>?_⟩
 obtain ⟨x,q1,q2⟩:=h2 i hi j hj
 exact ⟨x,q1,h i hi j hj _ _ _ q2⟩
theorem nV.ns {g g':Nat->Nat->O} (h:∀ i,i<n->∀ j,j<sz->nV (g i j) (g' i j)):nV (.ns e sz n g) (.ns e sz n g'):=by
 rintro av base w K v ⟨h0,xs,h1,Ks,hp,h2⟩
 refine ⟨h0,xs,h1,Ks,hp,λi hi j hj=>?_⟩
 obtain ⟨x,q1,q2⟩:=h2 i hi j hj
 exact ⟨x,q1,h i hi j hj _ _ _ _ _ q2⟩
theorem aR.o {x y:O} (h:nV x y):aR (.o x) (.o y):=λ_ av base w K v q=>h av base w K v q
theorem aR.trans {x y z:Fc} (h:aR x y) (k:aR y z):aR x z:=λE av base w K v q=>k _ _ _ _ _ _ (h _ _ _ _ _ _ q)
theorem OC {f:Nat->O}:∀ {l:List Fc} {j0:Nat},Hz f l j0->∀ (j:Nat) (c:Fc),l[j]?=some c->aR c (.o (f (j0+j)))
 | [],_,_,j,c,h=>by simp at h
 | x::l,j0,hf,0,c,h=>by
   simp only [List.getElem?_cons_zero,aw] at h
   subst h
   exact hf.1
 | x::l,j0,hf,j+1,c,h=>by
   have:=OC hf.2 j c (by simpa using h)
   grind
theorem aY.bo (h:∀ i,i<n->∀ j,j<sz->nV (get i j) (get' i j)):aY (.bo el sz n get none) (.bo el sz n get' none):=
 ⟨λ_=>trivial,λbase E w e av q=>Dj (λx hx=>by cases hx) (λi hi j hj c hc=>by
  grind [gy,aR.o]) q⟩
theorem aY.vG {get:Nat->Nat->I} (h:∀ i,i<n->∀ j,j<sz->get' i j=.im (get i j)):aY (.arr el sz n get) (.bo el sz n get' none):=
 ⟨λ_=>trivial,λbase E w e av q=>N5 h q⟩
theorem aY.unf (h:Hz (get' k) l 0) (h2:∀ i,i<n->i≠k->∀ j,j<sz->nV (get i j) (get' i j)):aY (.bo el sz n get (some (k,l))) (.bo el sz n get' none):=
 ⟨λ_=>trivial,λbase E w e av q=>Dj (λx hx=>by cases hx) (λi hi j hj c hc=>by
  grind [gy,Nat.eq_of_beq_eq_true,bz,OC,aR.o,Nat.beq_refl]) q⟩
theorem aY.J9 (h:Hz (get k) l 0):aY (.bo el sz n get (some (k,l))) (.bo el sz n get none):=aY.unf h λ_ _ _ _ _=>nV.refl _
theorem aY.own {L L':List O} (h:aF nV L L'):aY (.own L) (.own L'):=⟨λ_=>trivial,by
 rintro base E w e av ⟨p1,p2,vs,p3,p4,Ks,p5,p6,p7⟩
 refine ⟨p1,λq=>?_,vs,p3,by rw [p4,h.length],Ks,p5,p6,λi o ho=>?_⟩
 .subst q
  cases h
  exact p2 rfl
 .have hi:i<L.length:=by rw [h.length]; grind
  have hx:=ib hi
  obtain ⟨v,g1,g2⟩:=p7 i _ hx
  exact ⟨v,g1,h.get hx ho _ _ _ _ _ g2⟩⟩
end
end Go.V
namespace Go.Proofs.YtgbbdaegmfjahaaGreat
open Go Go.V
section
variable {f:FuncId} {n0:Nat} {Q:D->List ah->Prop} {todo:List Item} {s:VS}
theorem ae.focus (r k:Nat) {el sz n:Nat} {get:Nat->Nat->O} (hr:bh s.rs r=some (.bo el sz n get none)) (hk:k<n)
  (g:ae f n0 Q todo ⟨s.sl,setAt s.rs r (.bo el sz n get (some (k,gu (get k) sz 0))),s.df⟩):ae f n0 Q todo s:=
 λb cs hb=>Goal.focus hr hk (g b cs hb)
theorem ae.open (r j:Nat) {k el sz n:Nat} {get:Nat->Nat->O} {l:List Fc} {x:O} (hr:bh s.rs r=some (.bo el sz n get (some (k,l)))) (hj:bh l j=some (.o x)) (hx:(iq x).live)
  (g:ae f n0 Q todo ⟨s.sl,setAt s.rs r (.bo el sz n get (some (k,setAt l j (.c (.sa s.rs.length (ml x))))))++[iq x],s.df⟩):ae f n0 Q todo s:=
 λb cs hb=>Goal.open hr hj hx (g b cs hb)
theorem ae.close (r j q:Nat) {m k el sz n:Nat} {get:Nat->Nat->O} {l:List Fc} {x:ah} {o:O} (hr:bh s.rs r=some (.bo el sz n get (some (k,l)))) (hj:bh l j=some (.c (.sa q m))) (hq:bh s.rs q=some x) (ho:PO x=some o) (hm:m=ml o) (hrq:Nat.beq r q=false)
  (g:ae f n0 Q todo ⟨s.sl,setAt (setAt s.rs q .dead) r (.bo el sz n get (some (k,setAt l j (.o o)))),s.df⟩):ae f n0 Q todo s:=
 λb cs hb=>Goal.close hr hj hq ho hm (λe=>by simp_all) (g b cs hb)
theorem ae.split (r q:Nat) {k el sz n:Nat} {get:Nat->Nat->O} {l:List Fc} {L:List O} (hr:bh s.rs r=some (.bo el sz n get (some (k,l)))) (hq:bh s.rs q=some (.own L)) (hL:∀ o∈L,(iq o).live)
  (g:ae f n0 Q todo ⟨s.sl,setAt (setAt s.rs q .dead++L.map iq) r (.bo el sz n get (some (k,l.map (UY q s.rs.length L)))),s.df⟩):ae f n0 Q todo s:=
 λb cs hb=>Goal.split hr hq hL (g b cs hb)
theorem ae.ak0 (r p q:Nat) {o o':O} {x x':ah} (hp:bh s.rs p=some x) (ho:PO x=some o) (hq:bh s.rs q=some x') (WT:PO x'=some o') (hpq:Nat.beq p q=false) (hrp:Nat.beq r p=false) (hrq:Nat.beq r q=false) {l l':List C} (hr:bh s.rs r=some (.box l)) (hl:aF (af9 s.rs.length [p,q] [o,o']) l l')
  (g:ae f n0 Q todo ⟨s.sl,setAt (setAt (setAt s.rs p .dead) q .dead++[.own [o,o']]) r (.box l'),s.df⟩):ae f n0 Q todo s:=
 λb cs hb=>by
  have npq:p≠q:=λe=>by simp_all
  have nrp:r≠p:=λe=>by simp_all
  have nrq:r≠q:=λe=>by simp_all
  rw [cj] at hp hq hr
  have JA:=(List.getElem?_eq_some_iff.1 hp).1
  have hql:=(List.getElem?_eq_some_iff.1 hq).1
  refine Goal.pack (ps:=[p,q]) (L:=[o,o']) (by simp) (.cons ⟨x,hp,ho⟩ (.cons ⟨x',hq,WT⟩ .nil)) ?_ (fB:=setAt (setAt s.rs p .dead) q .dead) (by simp [bg]) ?_ (r:=r) (l:=l) ?_ hl (g b cs hb)
  .grind
  .intro i y h1 h2
   rw [bg,bg,jv,jv] at h1
   split at h1
   .split at h1
    .simp only [aw] at h1; subst h1; exact h2.elim
    .simp at h1
   .rename_i hiq
    split at h1
    .first
     | (simp only [aw] at h1; subst h1; exact h2.elim)
     | (split at h1
        .simp only [aw] at h1; subst h1; exact h2.elim
        .simp at h1)
    grind
  grind [bg]
end
theorem j4 (n:Nat) (ps:List Nat) (L:List O) (c:C):af9 n ps L c c:=.inl rfl
theorem DJ {n:Nat} {ps:List Nat} {L:List O} (i p m:Nat) {o:O} (h1:ps[i]?=some p) (h2:L[i]?=some o) (hm:m=ml o):af9 n ps L (.sa p m) (.ow n i):=.inr ⟨i,p,o,by rw [hm],h1,h2,rfl⟩
end Go.Proofs.YtgbbdaegmfjahaaGreat
