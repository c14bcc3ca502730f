/- The trace that numbers determine is right, also without one of its stores; what stays, stays. -/
import Derived.Test.YtapefhcmohbmaaaP7
import Derived.Test.YtapefhcmohbmaaaP5
import Derived.Test.YtapefhcmohbmaaaP4
import Derived.Test.YtapefhcmohbmaaaP6
set_option linter.unusedVariables false
set_option linter.unusedSimpArgs false
namespace Go.Proofs.Ytapefhcmohbmaaa
open Go Go.V
theorem Mz:∀ (m k:Nat) (s:Sq ak),s.n=k->(∀ i,i<k->s.get i=pI i)->(sD m k s).n=k+m/\∀ i,i<k+m->(sD m k s).get i=pI i
 | 0,k,s,hn,h=>⟨hn,h⟩
 | m+1,k,s,hn,h=>by
   obtain ⟨h1,h2⟩:=Mz m (k+1) (bD s (pI k)) (by show s.n+1=_; omega) (λi hi=>by
    by_cases hq:i<k
    .rw [show (bD s (pI k)).get i=s.get i from nL (by omega)]; exact h i hq
    .rw [show i=s.n by omega,show (bD s (pI k)).get s.n=pI k from mE,hn])
   exact ⟨by show (sD m (k+1) (bD s (pI k))).n=_; omega,λi hi=>h2 i (by omega)⟩
theorem W1 {k:Nat} (hk:k<4):aY (pI k)=true:=by
 refine e8 (by show (0:Int)<=_; omega) (e9 (a:=0) (b:=0) (by show (0:Int)<=1/\(1:Int)<=21; decide) rfl ⟨by show (0:Int)<=0; omega,by show (0:Int)<=0; omega⟩) ?_
 have e:mn (pI k)=true:=by
  unfold mn
  rw [show decide ((pI k).k.n<0)=false from decide_eq_false (by show ¬ (k:Int)<0; omega),show decide ((pI k).k.n≥24)=false from decide_eq_false (by show ¬ (k:Int)≥24; omega),show ((pI k).k.s.toList==(ByteArray.mk #[]).toList)=true from beq_self_eq_true _]
  rfl
 rw [e]
 rfl
theorem au4 {P:Nat} (h1:1<=P) (h4:P<=4) (p:Nat):dC P P ⟨p,sD P 0 gb,o8⟩:=by
 obtain ⟨hn,hg⟩:=Mz P 0 gb rfl (λi hi=>absurd hi (Nat.not_lt_zero i))
 have hn:(sD P 0 gb).n=P:=by omega
 have hg:∀ i,i<P->(sD P 0 gb).get i=pI i:=λi hi=>hg i (by omega)
 refine ⟨h1,h4,by show P<=(sD P 0 gb).n; omega,by show (sD P 0 gb).n<=P; omega,bn _,λk hk=>?_,λk hk=>?_,λk hk=>?_⟩
 all_goals
  have hk:k<P:=by
   have hk:k<(sD P 0 gb).n:=hk
   omega
 .show XT (sD P 0 gb) o8 P k
  refine ⟨λ_=>?_,λq=>absurd hk (by omega),?_,λj hj=>?_,?_,.inl ?_,by rw [hg k hk]; exact lT rfl rfl⟩
  .rw [hg k hk]; exact ⟨rfl,rfl⟩
  .rw [hg k hk]; exact W1 (by omega)
  .rw [hg k hk] at hj; exact absurd hj (Nat.not_lt_zero j)
  .rw [hg k hk]; rfl
  .rw [hg k hk]; exact ⟨rfl,(by decide:eX (1:Int)≠2)⟩
 .show (((sD P 0 gb).get k).op==17)=false/\ib ((sD P 0 gb).get k)=false
  rw [hg k hk]; exact ⟨rfl,rfl⟩
 .show ((sD P 0 gb).get k).exit<(0:Nat)
  rw [hg k hk]; exact (by decide:(-1:Int)<(0:Nat))
theorem H2 (l:Sq Int) (ins:Sq ak) (P:Nat) (hP:∀ i:Nat,i<P->fN ins (i:Int) ins.n) (hv:∀ p,fN ins (vl l p ins).1 ins.n):∀ (m k p:Nat) (h:Sq Int),k+m<=P->(∀ i,i<h.n->fN ins (h.get i) ins.n)->∀ i,i<(yk l ins m k p h).n->fN ins ((yk l ins m k p h).get i) ins.n
 | 0,k,p,h,_,hh=>hh
 | m+1,k,p,h,hk,hh=>by
   unfold yk
   cases (nx l p 2).1==0 with
   | true=>exact H2 l ins P hP hv m _ _ _ (by omega) (jb (P:=λv=>fN ins v ins.n) hh (hP k (by omega)))
   | false=>exact H2 l ins P hP hv m _ _ _ (by omega) (jb (P:=λv=>fN ins v ins.n) hh (hv _))
theorem dC.fin {P c:Nat} {s:jL} (h:dC P c s) (hc:c<=59) {x:ak} {ex:Sq ai} (x0:ib x=true) (x1:x.op≠1) (x2:aY x=true) (x3:∀ j,j<(aV x).n->fN s.ins ((aV x).get j) s.ins.n) (x4:x.once=false) (x6:RD x) (x5:x.op=20->x.args.n=P) (Rz:s.ex.n<=ex.n) (hex:ex.n<=60) (VB:∀ e,e<s.ex.n->ex.get e=s.ex.get e) (he:(x.exit = -1/\eX x.op≠2)∨∃ e:Nat,x.exit=(e:Int)/\e<ex.n/\eX x.op≠0/\Mm s.ins (ex.get e) s.ins.n/\∀ j,j<s.ins.n->(s.ins.get j).exit≠(e:Int)):bO ⟨⟨0,0⟩,bD s.ins x,ex⟩ P:=by
 have hni:=h.ni
 have lt:∀ {i:Nat},i<s.ins.n->(bD s.ins x).get i=s.ins.get i:=λhi=>nL hi
 have zr:(bD s.ins x).get s.ins.n=x:=mE
 refine ⟨by show s.ins.n+1<=200; omega,hex,Nat.succ_pos _,Int.le_refl _,Int.le_refl _,Nat.le_succ_of_le h.pn,h.iok x1 x2 x3 x4 x6 Rz VB he,λk hk=>?_,λk hk=>?_⟩
 .have hk:k<s.ins.n+1:=hk
  show ib ((bD s.ins x).get k)=decide (k+1=s.ins.n+1)
  by_cases hq:k<s.ins.n
  .rw [lt hq,(h.YB k hq).2,decide_eq_false (by omega)]
  .rw [show k=s.ins.n by omega,zr,x0,decide_eq_true rfl]
 .have hk:k<s.ins.n+1:=hk
  show ((bD s.ins x).get k).op=20->((bD s.ins x).get k).args.n=P
  by_cases hq:k<s.ins.n
  .rw [lt hq]
   intro q
   have:=(h.YB k hq).2
   unfold ib at this
   rw [q] at this
   cases this
  .rw [show k=s.ins.n by omega,zr]; exact x5
theorem HA (l:Sq Int):∃ P,bO (made l) P:=by
 obtain ⟨d,hd,eG⟩:=iu (l:=l) (p:=0) (n:=4) (by omega) (by omega)
 unfold made
 rw [hd]
 show ∃ P,bO (Qd l (1+d) (nx l 0 4).2 (sD (1+d) 0 gb) o8) P
 refine ⟨1+d,?_⟩
 generalize (nx l 0 4).2=p
 have h0:=au4 (P:=1+d) (by omega) (by omega) p
 unfold Qd
 have hf:=xv (l:=l) (p:=p) (n:=4) (by omega) (by omega)
 obtain ⟨e,he,hle⟩:=iu (l:=l) (p:=(lv l (nx l p 4).2 (sD (1+d) 0 gb) 0 (1+d)).2) (n:=14) (by omega) (by omega)
 rw [he]
 generalize hF:1+(nx l p 4).1=fuel
 have h1:dC (1+d) (1+d+1) (QO l fuel (1+d) (nx l p 4).2 (sD (1+d) 0 gb) o8):=
  h0.both _ (X9 (by omega)) rfl (by decide:eX (18:Int)≠0) (h0.lvE (by omega) l _ 0 (by omega))
 have h2:=dC.ae7 (l:=l) (fuel:=fuel) (by omega) e _ _ h1 (by omega)
 show bO (tM l fuel (1+d) (QX l fuel (1+d) e _)) (1+d)
 generalize QX l fuel (1+d) e (QO l fuel (1+d) (nx l p 4).2 (sD (1+d) 0 gb) o8)=s at h2 ⊢
 have h2:=h2.le (c':=57) (by omega)
 unfold tM
 cases (nx l s.p 6).1==0 with
 | true=>
   have Rz:=h2.ne
   refine h2.fin (by omega) rfl (by show (21:Int)≠1; decide) (e8 (by show (0:Int)<=_; omega) (e9 (a:=0) (b:=0) (by show (0:Int)<=21/\(21:Int)<=21; decide) rfl ⟨by show (0:Int)<=0; omega,by show (0:Int)<=0; omega⟩) rfl) (λj hj=>absurd hj (Nat.not_lt_zero j)) rfl (lT rfl rfl) (λq=>absurd q (by show (21:Int)≠20; decide)) (Nat.le_succ _) (by show s.ex.n+1<=60; omega) (λe he=>nL he) (.inr ⟨s.ex.n,rfl,Nat.lt_succ_self _,(by decide:eX (21:Int)≠0),?_,λj hj=>by have:=h2.ext j hj; omega⟩)
   rw [show (cf s.ex (lv l (nx l s.p 6).2 s.ins fuel (1+d)).1).get s.ex.n=_ from mE]
   exact h2.lvE (by omega) l _ fuel (by omega)
 | false=>
   have Rz:=h2.ne
   have hA:=H2 l s.ins (1+d) (λi hi=>h2.par hi) (h2.CN (by omega) l) (1+d) 0 (nx l s.p 6).2 (aK 0) (by omega) (λi hi=>absurd hi (Nat.not_lt_zero i))
   have hn:=Jm l s.ins (1+d) 0 (nx l s.p 6).2 (aK 0)
   have hn:(yk l s.ins (1+d) 0 (nx l s.p 6).2 (aK 0)).n=0+(1+d):=hn
   show bO ⟨⟨0,0⟩,bD s.ins { cr 20 0 0 0 0 (-1) with args:=yk l s.ins (1+d) 0 (nx l s.p 6).2 (aK 0) },s.ex⟩ (1+d)
   generalize yk l s.ins (1+d) 0 (nx l s.p 6).2 (aK 0)=g at hA hn
   exact h2.fin (by omega) rfl (by show (20:Int)≠1; decide) (e8 (by show (0:Int)<=_; omega) (e9 (a:=0) (b:=0) (by show (0:Int)<=20/\(20:Int)<=21; decide) rfl ⟨by show (0:Int)<=0; omega,by show (0:Int)<=0; omega⟩) rfl) hA rfl (lT rfl rfl) (λ_=>by show g.n=1+d; omega) (bl _) (by omega) (λ_ _=>rfl) (.inl ⟨rfl,(by decide:eX (20:Int)≠2)⟩)
end Go.Proofs.Ytapefhcmohbmaaa
namespace Go.V
noncomputable section
def ixO (l:List O):Nat->O:=List.rec (λ_=>.im (.v (.bool false))) (λx _ ih k=>Nat.rec x (λm _=>ih m) k) l
def VF (s:Sq Int):O:=.ar 3 1 s.n λi=>bF (s.get i)
def fx (x:cA):Nat->O:=ixO [.im (iI x.fn),.im (iI x.line),VF x.vars]
def ap6 (s:Sq cA):O:=.ns 64 3 s.n λi=>fx (s.get i)
def DH (s:Sq cA):ae:=.bL 64 3 s.n (λi=>fx (s.get i)) none
def pc (s:Sq Int):ae:=.arr 3 1 s.n (λi=>bF (s.get i))
def WO (f:Nat->O):List Fc->Nat->Prop
 | [],_=>True
 | c::l,j=>du c (.o (f j))/\WO f l (j+1)
end
def Ag (x y:O):Prop:=∀ (av:Nat->Prop) (base:Nat) (w:World) (K:Nat->Prop) (v:Value),fO av base w x K v->fO av base w y K v
theorem Ag.refl (x:O):Ag x x:=λ_ _ _ _ _ h=>h
theorem Ag.im {x y:I} (h:dK x y):Ag (.im x) (.im y):=λav _ w _ v q=>h av w v q
theorem Ag.ar {e sz n:Nat} {g g':Nat->Nat->I} (h:∀ i,i<n->∀ j,j<sz->dK (g i j) (g' i j)):Ag (.ar e sz n g) (.ar e sz n g'):=by
 rintro av base w K v ⟨h0,xs,h1,h2⟩
 refine ⟨h0,xs,h1,λi hi j hj=>?_⟩
 obtain ⟨x,q1,q2⟩:=h2 i hi j hj
 exact ⟨x,q1,h i hi j hj _ _ _ q2⟩
theorem Ag.ns {e sz n:Nat} {g g':Nat->Nat->O} (h:∀ i,i<n->∀ j,j<sz->Ag (g i j) (g' i j)):Ag (.ns e sz n g) (.ns e sz n g'):=by
 rintro av base w K v ⟨h0,xs,h1,Ks,hp,h2⟩
 refine ⟨h0,xs,h1,Ks,hp,λi hi j hj=>?_⟩
 obtain ⟨x,q1,q2⟩:=h2 i hi j hj
 exact ⟨x,q1,h i hi j hj _ _ _ _ _ q2⟩
theorem du.o {x y:O} (h:Ag x y):du (.o x) (.o y):=λ_ av base w K v q=>h av base w K v q
theorem du.trans {x y z:Fc} (h:du x y) (k:du y z):du x z:=λE av base w K v q=>k _ _ _ _ _ _ (h _ _ _ _ _ _ q)
theorem Jx {f:Nat->O}:∀ {l:List Fc} {j0:Nat},WO f l j0->∀ (j:Nat) (c:Fc),l[j]?=some c->du c (.o (f (j0+j)))
 | [],_,_,j,c,h=>by simp at h
 | x::l,j0,hf,0,c,h=>by
   simp only [List.getElem?_cons_zero,au] at h
   subst h
   exact hf.1
 | x::l,j0,hf,j+1,c,h=>by
   have:=Jx hf.2 j c (by simpa using h)
   grind
theorem bZ.bL {el sz n:Nat} {get get':Nat->Nat->O} (h:∀ i,i<n->∀ j,j<sz->Ag (get i j) (get' i j)):bZ (.bL el sz n get none) (.bL el sz n get' none):=
 ⟨λ_=>trivial,λbase E w e av q=>Hz (λx hx=>by cases hx) (λi hi j hj c hc=>by
  grind [fR,du.o]) q⟩
theorem bZ.QI {el sz n:Nat} {get:Nat->Nat->I} {get':Nat->Nat->O} (h:∀ i,i<n->∀ j,j<sz->get' i j=.im (get i j)):bZ (.arr el sz n get) (.bL el sz n get' none):=
 ⟨λ_=>trivial,λbase E w e av q=>IK h q⟩
theorem bZ.unf {el sz n k:Nat} {get get':Nat->Nat->O} {l:List Fc} (h:WO (get' k) l 0) (h2:∀ i,i<n->i≠k->∀ j,j<sz->Ag (get i j) (get' i j)):bZ (.bL el sz n get (some (k,l))) (.bL el sz n get' none):=
 ⟨λ_=>trivial,λbase E w e av q=>Hz (λx hx=>by cases hx) (λi hi j hj c hc=>by
  grind [fR,Nat.eq_of_beq_eq_true,bg,Jx,du.o,Nat.beq_refl]) q⟩
theorem bZ.own {L L':List O} (h:az Ag L L'):bZ (.own L) (.own L'):=⟨λ_=>trivial,by
 rintro base E w e av ⟨p1,p2,vs,p3,p4,Ks,p5,p6,p7⟩
 refine ⟨p1,λq=>?_,vs,p3,by rw [p4,h.length],Ks,p5,p6,λi o ho=>?_⟩
 .subst q
  cases h
  exact p2 rfl
 .have hi:i<L.length:=by rw [h.length]; grind
  have hx:=ka hi
  obtain ⟨v,g1,g2⟩:=p7 i _ hx
  exact ⟨v,g1,h.get hx ho _ _ _ _ _ g2⟩⟩
end Go.V
namespace Go.Proofs.Ytapefhcmohbmaaa
open Go Go.V
section
variable {f:FuncId} {n0:Nat} {Q:D->List ae->Prop} {todo:List Item} {s:VS}
theorem ag.focus (r k:Nat) {el sz n:Nat} {get:Nat->Nat->O} (hr:aR s.rs r=some (.bL el sz n get none)) (hk:k<n)
  (g:ag f n0 Q todo ⟨s.sl,setAt s.rs r (.bL el sz n get (some (k,kI (get k) sz 0))),s.df⟩):ag f n0 Q todo s:=
 λb cs hb=>Goal.focus hr hk (g b cs hb)
theorem ag.open (r j:Nat) {k el sz n:Nat} {get:Nat->Nat->O} {l:List Fc} {x:O} (hr:aR s.rs r=some (.bL el sz n get (some (k,l)))) (hj:aR l j=some (.o x)) (hx:(nk x).live)
  (g:ag f n0 Q todo ⟨s.sl,setAt s.rs r (.bL el sz n get (some (k,setAt l j (.c (.sa s.rs.length (wz x))))))++[nk x],s.df⟩):ag f n0 Q todo s:=
 λb cs hb=>Goal.open hr hj hx (g b cs hb)
theorem ag.close (r j q:Nat) {m k el sz n:Nat} {get:Nat->Nat->O} {l:List Fc} {x:ae} {o:O} (hr:aR s.rs r=some (.bL el sz n get (some (k,l)))) (hj:aR l j=some (.c (.sa q m))) (hq:aR s.rs q=some x) (ho:WU x=some o) (hm:m=wz o) (Yv:Nat.beq r q=false)
  (g:ag f n0 Q todo ⟨s.sl,setAt (setAt s.rs q .dead) r (.bL el sz n get (some (k,setAt l j (.o o)))),s.df⟩):ag f n0 Q todo s:=
 λb cs hb=>Goal.close hr hj hq ho hm (λe=>by simp_all) (g b cs hb)
end
end Go.Proofs.Ytapefhcmohbmaaa
set_option maxRecDepth 1000000
namespace Go.Proofs.Ytapefhcmohbmaaa
open Go Go.V
noncomputable section
section
def XC:gr:={ F:=yg }
end
def pD:Nat->Bool:=λi=>Nat.beq i 1||Nat.beq i 3
theorem ZU:Fn 37:={}
theorem aa6 (L:LP) (QE:D->List ae->Prop) (x:Sq Int) (h:L (ah 37 1) ⟨[(0,((.c (pO x)),[]))],[],[]⟩):fG XC 37 pD L QE [iR 1 bF x] []:=km h
def C2 (n:Nat) (g:Nat->Int)  : VS:=⟨[(0,(.c (.im (.sl 1 n.succ (λi=>bF (g i))))),[])],[],[]⟩
abbrev qL:gn:=(4,((bool false),[]))
theorem Pp (L:LP) (QE:D->List ae->Prop) (n:Nat) (g:Nat->Int)  (h:L (ah 37 3) ⟨[(0,((.c (.im (.sl 1 n.succ (λi=>bF (g i))))),[])),qL],[],[]⟩):cW XC 37 pD L QE 1 (C2 n g ):=km h
abbrev tR (aj:Nat):VS:=⟨[(0,(.c (.im (.v (.slice .none 0 aj)))),[])],[],[]⟩
def Df (cap:Nat)  : VS:=(tR cap)
theorem NR (L:LP) (QE:D->List ae->Prop) (cap:Nat)  (h:QE (.c (.im (.v (.slice .none 0 0)))) []):cW XC 37 pD L QE 1 (Df cap ):=km h
abbrev sN (aj:Addr) (aA:Nat):VS:=⟨[(0,(.c (.im (.v (.slice (.some aj) 0 aA)))),[])],[],[]⟩
def CX (a:Addr) (cap:Nat)  : VS:=(sN a cap)
abbrev zE (aj:Addr) (aA:Nat):VS:=⟨[(0,((.c (.im (.v (.slice (.some aj) 0 aA)))),[])),qL],[],[]⟩
theorem LJ (L:LP) (QE:D->List ae->Prop) (a:Addr) (cap:Nat)  (h:L (ah 37 3) (zE a cap)):cW XC 37 pD L QE 1 (CX a cap ):=km h
def rX (n:Nat) (g:Nat->Nat->Go.V.I)  : VS:=⟨[(0,.c (.im (.sl 1 n g)),[])],[],[]⟩
theorem Nv (L:LP) (QE:D->List ae->Prop) (n:Nat) (g:Nat->Nat->Go.V.I)  (h:nd (dU (0+n) 8) (QE (.c (.sa 1 (0+n))) [.dead,(.arr 3 1 (0+n) (kB 0 mv g))])):cW XC 37 pD L QE 3 (rX n g ):=km h
theorem qW {x y:Go.V.I} (h:dK x y):bf (.c (.im x)) (.c (.im y)):=λE av w v q=>h av w v q
theorem ag.vf {f:FuncId} {n0:Nat} {Q:D->List ae->Prop} {todo:List Item} {s:VS} {t:Tmp} {sz:Nat} {get:Nat->Nat->Go.V.I} (ht:dW s.sl t=some (.c (.im (.sl sz 0 get)))) (g:∀ (ad:Option Addr) (cap:Nat),ag f n0 Q todo ⟨(t,.c (.im (.v (.slice ad 0 cap))),[])::s.sl,s.rs,s.df⟩):ag f n0 Q todo s:=
 λb cs hb=>Goal.vf ht λad cap=>g ad cap b cs hb
theorem lJ {f:FuncId} (hf:Fn f) {ds:List D} {rs:List ae} {d:D} {aG:List ae} (hl:ds.length<=(va f).ntmps) (h:ag f rs.length (Go.V.lX rs d aG) [.code (nt f)] ⟨cP 0 ds,rs,[]⟩):LC f ds rs d aG:=by
 obtain ⟨h1,h2⟩:=zA f _ hf.lE
 exact LH pB h1 h2 hf.body hl h
theorem Jr (n:Nat) (g:Nat->Int) (hx:n<=1000):ag 37 0 (lX [] (.c (.sa 0 (n))) [.arr 3 1 (n) (λi=>bF (g i))]) (ah 37 3) (rX n λi=>bF (g i)):=by
 refine aF (X:=XC) (stop:=pD) (Nv _ _ n _ ?_)
 refine ay (eE (by omega) (by omega)) ?_
 refine .inl ?_
 rw [Nat.zero_add]
 exact ⟨[1],.c (.sa 0 n),_,_,rfl,(.cons (bZ.arr λi _ j _=>dK.refl _) .nil),⟨1,aH rfl,aH rfl,rfl,rfl,bf.refl _,⟨rfl,trivial⟩⟩⟩
theorem Sp (n:Nat) (g:Nat->Int) (hx:n<=1000):ag 37 0 (lX [] (.c (.sa 0 (n))) [.arr 3 1 (n) (λi=>bF (g i))]) (ah 37 1) ⟨[(0,iR 1 bF ⟨n,g⟩,[])],[],[]⟩:=by
 cases n with
 | zero=>
   refine ag.vf (t:=0) rfl λad cap=>?_
   cases ad with
   | none=>
     refine ag.lr (Df cap) ((aF (X:=XC) (stop:=pD) (NR _ _ cap ?_)))
     exact .inr ⟨rfl,rfl,rfl,_,_,_,rfl⟩
   | some a=>
     refine ag.lr (CX a cap) (aF (X:=XC) (stop:=pD) (LJ _ _ a cap ?_))
     exact ag.le (rX 0 λi=>bF (g i)) ⟨⟨rfl,_,rfl,qW kx⟩,trivial⟩ .nil rfl (Jr 0 g (by omega))
 | succ n=>
   refine ag.lr (C2 n g) (aF (X:=XC) (stop:=pD) (Pp _ _ n g ?_))
   exact ag.lr (rX (n+1) λi=>bF (g i)) (Jr (n+1) g hx)
theorem wD (x:Sq Int) (hx:x.n<=1000):LC 37 [iR 1 bF x] [] (.c (.sa 0 x.n)) [.arr 3 1 x.n (λi=>bF (x.get i))]:=
 lJ ZU (aH (by kernel_rfl)) (cU (X:=XC) (stop:=pD) (aa6 _ _ x (Sp x.n x.get hx)))
def pH:Nat->Bool:=λi=>Nat.beq i 1||Nat.beq i 3
theorem ZX:Fn 38:={}
theorem YI (L:LP) (QD:D->Prop) (x:Sq ByteArray) (h:L (ah 38 1) ⟨[(qG x)],[],[]⟩):fG XC 38 pH L (cy QD) [iR 1 dF x] []:=km h
def Da (n:Nat) (g:Nat->ByteArray)  : VS:=⟨[(0,(.c (.im (.sl 1 n.succ (λi=>dF (g i))))),[])],[],[]⟩
theorem MO (L:LP) (QD:D->Prop) (n:Nat) (g:Nat->ByteArray)  (h:L (ah 38 3) ⟨[(0,((.c (.im (.sl 1 n.succ (λi=>dF (g i))))),[])),qL],[],[]⟩):cW XC 38 pH L (cy QD) 1 (Da n g ):=km h
def DS (cap:Nat)  : VS:=(tR cap)
theorem OG (L:LP) (QD:D->Prop) (cap:Nat)  (h:QD (.c dO)):cW XC 38 pH L (cy QD) 1 (DS cap ):=km h
def Eh (a:Addr) (cap:Nat)  : VS:=(sN a cap)
theorem PS (L:LP) (QD:D->Prop) (a:Addr) (cap:Nat)  (h:L (ah 38 3) (zE a cap)):cW XC 38 pH L (cy QD) 1 (Eh a cap ):=km h
def sj (n:Nat) (g:Nat->Nat->Go.V.I)  : VS:=⟨[(0,.c (.im (.sl 1 n g)),[])],[],[]⟩
theorem Nj (L:LP) (QD:D->Prop) (n:Nat) (g:Nat->Nat->Go.V.I)  (h:nd (dU (0+n) 16) (QD (.c (.im (.sl 1 (0+n) (kB 0 mv g)))))):cW XC 38 pH L (cy QD) 3 (sj n g ):=km h
theorem Jt (n:Nat) (g:Nat->ByteArray) (hx:n<=1000):ag 38 0 (cw (iR 1 dF ⟨n,g⟩)) (ah 38 3) (sj n λi=>dF (g i)):=by
 refine bt (X:=XC) (stop:=pH) (Nj _ _ n _ ?_)
 refine ay (eE (by omega) (by omega)) ?_
 rw [Nat.zero_add]
 exact qW (dK.sl λi _ j _=>dK.refl _)
theorem R5 (n:Nat) (g:Nat->ByteArray) (hx:n<=1000):ag 38 0 (cw (iR 1 dF ⟨n,g⟩)) (ah 38 1) ⟨[(0,iR 1 dF ⟨n,g⟩,[])],[],[]⟩:=by
 cases n with
 | zero=>
   refine ag.vf (t:=0) rfl λad cap=>?_
   cases ad with
   | none=>
     refine ag.lr (DS cap) ((bt (X:=XC) (stop:=pH) (OG _ _ cap ?_)))
     exact λE av w v q=>dT.nil 1 _ E av w v q
   | some a=>
     refine ag.lr (Eh a cap) (bt (X:=XC) (stop:=pH) (PS _ _ a cap ?_))
     exact ag.le (sj 0 λi=>dF (g i)) ⟨⟨rfl,_,rfl,qW kx⟩,trivial⟩ .nil rfl (Jt 0 g (by omega))
 | succ n=>
   refine ag.lr (Da n g) (bt (X:=XC) (stop:=pH) (MO _ _ n g ?_))
   exact ag.lr (sj (n+1) λi=>dF (g i)) (Jt (n+1) g hx)
theorem Bu (x:Sq ByteArray) (hx:x.n<=1000):LC 38 [iR 1 dF x] [] (iR 1 dF x) []:=
 pv (X:=XC) (stop:=pH) ZX (YI _ _ x (R5 x.n x.get hx))
def pE:Nat->Bool:=λi=>Nat.beq i 1||Nat.beq i 3
theorem ad1:Fn 35:={}
theorem ad7 (L:LP) (QE:D->List ae->Prop) (x:Sq ak) (h:L (ah 35 1) ⟨[(0,((Ap x),[]))],[],[]⟩):fG XC 35 pE L QE [iR 14 bQ x] []:=km h
def CV (n:Nat) (g:Nat->ak)  : VS:=⟨[(0,(.c (.im (.sl 14 n.succ (λi=>bQ (g i))))),[])],[],[]⟩
theorem P0 (L:LP) (QE:D->List ae->Prop) (n:Nat) (g:Nat->ak)  (h:L (ah 35 3) ⟨[(0,((.c (.im (.sl 14 n.succ (λi=>bQ (g i))))),[])),qL],[],[]⟩):cW XC 35 pE L QE 1 (CV n g ):=km h
def DA (cap:Nat)  : VS:=(tR cap)
theorem Oc (L:LP) (QE:D->List ae->Prop) (cap:Nat)  (h:QE (.c (.im (.v (.slice .none 0 0)))) []):cW XC 35 pE L QE 1 (DA cap ):=km h
def D5 (a:Addr) (cap:Nat)  : VS:=(sN a cap)
theorem Qo (L:LP) (QE:D->List ae->Prop) (a:Addr) (cap:Nat)  (h:L (ah 35 3) (zE a cap)):cW XC 35 pE L QE 1 (D5 a cap ):=km h
def ra (n:Nat) (g:Nat->Nat->Go.V.I)  : VS:=⟨[(0,.c (.im (.sl 14 n g)),[])],[],[]⟩
theorem P1 (L:LP) (QE:D->List ae->Prop) (n:Nat) (g:Nat->Nat->Go.V.I)  (h:nd (dU (0+n) 152) (QE (.c (.sa 1 (0+n))) [.dead,(.arr 40 14 (0+n) (kB 0 mv g))])):cW XC 35 pE L QE 3 (ra n g ):=km h
theorem Jn (n:Nat) (g:Nat->ak) (hx:n<=1000):ag 35 0 (lX [] (.c (.sa 0 (n))) [.arr 40 14 (n) (λi=>bQ (g i))]) (ah 35 3) (ra n λi=>bQ (g i)):=by
 refine aF (X:=XC) (stop:=pE) (P1 _ _ n _ ?_)
 refine ay (eE (by omega) (by omega)) ?_
 refine .inl ?_
 rw [Nat.zero_add]
 exact ⟨[1],.c (.sa 0 n),_,_,rfl,(.cons (bZ.arr λi _ j _=>dK.refl _) .nil),⟨1,aH rfl,aH rfl,rfl,rfl,bf.refl _,⟨rfl,trivial⟩⟩⟩
theorem TZ (n:Nat) (g:Nat->ak) (hx:n<=1000):ag 35 0 (lX [] (.c (.sa 0 (n))) [.arr 40 14 (n) (λi=>bQ (g i))]) (ah 35 1) ⟨[(0,iR 14 bQ ⟨n,g⟩,[])],[],[]⟩:=by
 cases n with
 | zero=>
   refine ag.vf (t:=0) rfl λad cap=>?_
   cases ad with
   | none=>
     refine ag.lr (DA cap) ((aF (X:=XC) (stop:=pE) (Oc _ _ cap ?_)))
     exact .inr ⟨rfl,rfl,rfl,_,_,_,rfl⟩
   | some a=>
     refine ag.lr (D5 a cap) (aF (X:=XC) (stop:=pE) (Qo _ _ a cap ?_))
     exact ag.le (ra 0 λi=>bQ (g i)) ⟨⟨rfl,_,rfl,qW kx⟩,trivial⟩ .nil rfl (Jn 0 g (by omega))
 | succ n=>
   refine ag.lr (CV n g) (aF (X:=XC) (stop:=pE) (P0 _ _ n g ?_))
   exact ag.lr (ra (n+1) λi=>bQ (g i)) (Jn (n+1) g hx)
theorem PO (x:Sq ak) (hx:x.n<=1000):LC 35 [iR 14 bQ x] [] (.c (.sa 0 x.n)) [.arr 40 14 x.n (λi=>bQ (x.get i))]:=
 lJ ad1 (aH (by kernel_rfl)) (cU (X:=XC) (stop:=pE) (ad7 _ _ x (TZ x.n x.get hx)))
def pL:Nat->Bool:=λi=>Nat.beq i 1||Nat.beq i 3
theorem ae4:Fn 36:={}
theorem ad5 (L:LP) (QE:D->List ae->Prop) (x:Sq ai) (h:L (ah 36 1) ⟨[(0,((.c (.im (.sl 3 x.1 (λi=>bG (x.2 i))))),[]))],[],[]⟩):fG XC 36 pL L QE [iR 3 bG x] []:=km h
def DQ (n:Nat) (g:Nat->ai)  : VS:=⟨[(0,(.c (.im (.sl 3 n.succ (λi=>bG (g i))))),[])],[],[]⟩
theorem O2 (L:LP) (QE:D->List ae->Prop) (n:Nat) (g:Nat->ai)  (h:L (ah 36 3) ⟨[(0,((.c (.im (.sl 3 n.succ (λi=>bG (g i))))),[])),qL],[],[]⟩):cW XC 36 pL L QE 1 (DQ n g ):=km h
def DJ (cap:Nat)  : VS:=(tR cap)
theorem Oq (L:LP) (QE:D->List ae->Prop) (cap:Nat)  (h:QE (.c (.im (.v (.slice .none 0 0)))) []):cW XC 36 pL L QE 1 (DJ cap ):=km h
def Ev (a:Addr) (cap:Nat)  : VS:=(sN a cap)
theorem PR (L:LP) (QE:D->List ae->Prop) (a:Addr) (cap:Nat)  (h:L (ah 36 3) (zE a cap)):cW XC 36 pL L QE 1 (Ev a cap ):=km h
def ri (n:Nat) (g:Nat->Nat->Go.V.I)  : VS:=⟨[(0,.c (.im (.sl 3 n g)),[])],[],[]⟩
theorem Pc (L:LP) (QE:D->List ae->Prop) (n:Nat) (g:Nat->Nat->Go.V.I)  (h:nd (dU (0+n) 56) (QE (.c (.sa 1 (0+n))) [.dead,(.arr 68 3 (0+n) (kB 0 mv g))])):cW XC 36 pL L QE 3 (ri n g ):=km h
theorem I3 (n:Nat) (g:Nat->ai) (hx:n<=1000):ag 36 0 (lX [] (.c (.sa 0 (n))) [.arr 68 3 (n) (λi=>bG (g i))]) (ah 36 3) (ri n λi=>bG (g i)):=by
 refine aF (X:=XC) (stop:=pL) (Pc _ _ n _ ?_)
 refine ay (eE (by omega) (by omega)) ?_
 refine .inl ?_
 rw [Nat.zero_add]
 exact ⟨[1],.c (.sa 0 n),_,_,rfl,(.cons (bZ.arr λi _ j _=>dK.refl _) .nil),⟨1,aH rfl,aH rfl,rfl,rfl,bf.refl _,⟨rfl,trivial⟩⟩⟩
theorem Sd (n:Nat) (g:Nat->ai) (hx:n<=1000):ag 36 0 (lX [] (.c (.sa 0 (n))) [.arr 68 3 (n) (λi=>bG (g i))]) (ah 36 1) ⟨[(0,iR 3 bG ⟨n,g⟩,[])],[],[]⟩:=by
 cases n with
 | zero=>
   refine ag.vf (t:=0) rfl λad cap=>?_
   cases ad with
   | none=>
     refine ag.lr (DJ cap) ((aF (X:=XC) (stop:=pL) (Oq _ _ cap ?_)))
     exact .inr ⟨rfl,rfl,rfl,_,_,_,rfl⟩
   | some a=>
     refine ag.lr (Ev a cap) (aF (X:=XC) (stop:=pL) (PR _ _ a cap ?_))
     exact ag.le (ri 0 λi=>bG (g i)) ⟨⟨rfl,_,rfl,qW kx⟩,trivial⟩ .nil rfl (I3 0 g (by omega))
 | succ n=>
   refine ag.lr (DQ n g) (aF (X:=XC) (stop:=pL) (O2 _ _ n g ?_))
   exact ag.lr (ri (n+1) λi=>bG (g i)) (I3 (n+1) g hx)
theorem LR (x:Sq ai) (hx:x.n<=1000):LC 36 [iR 3 bG x] [] (.c (.sa 0 x.n)) [.arr 68 3 x.n (λi=>bG (x.get i))]:=
 lJ ae4 (aH (by kernel_rfl)) (cU (X:=XC) (stop:=pL) (ad5 _ _ x (Sd x.n x.get hx)))
def po:Nat->Bool:=λi=>Nat.beq i 1||Nat.beq i 3
theorem ZE:Fn 39:={}
theorem ai1 (L:LP) (QE:D->List ae->Prop) (x:Sq cA) (h:L (ah 39 1) ⟨[(0,((.c (.im (.sl 3 x.1 (λi=>cK (x.2 i))))),[]))],[],[]⟩):fG XC 39 po L QE [iR 3 cK x] []:=km h
def Dw (n:Nat) (g:Nat->cA)  : VS:=⟨[(0,(.c (.im (.sl 3 n.succ (λi=>cK (g i))))),[])],[],[]⟩
theorem L7 (L:LP) (QE:D->List ae->Prop) (n:Nat) (g:Nat->cA)  (h:L (ah 39 3) ⟨[(0,((.c (.im (.sl 3 n.succ (λi=>cK (g i))))),[])),qL],[],[]⟩):cW XC 39 po L QE 1 (Dw n g ):=km h
def D4 (cap:Nat)  : VS:=(tR cap)
theorem LU (L:LP) (QE:D->List ae->Prop) (cap:Nat)  (h:QE (.c (.im (.v (.slice .none 0 0)))) []):cW XC 39 po L QE 1 (D4 cap ):=km h
def De (a:Addr) (cap:Nat)  : VS:=(sN a cap)
theorem N0 (L:LP) (QE:D->List ae->Prop) (a:Addr) (cap:Nat)  (h:L (ah 39 3) (zE a cap)):cW XC 39 po L QE 1 (De a cap ):=km h
def rB (n:Nat) (g:Nat->Nat->Go.V.I)  : VS:=⟨[(0,.c (.im (.sl 3 n g)),[])],[],[]⟩
theorem Np (L:LP) (QE:D->List ae->Prop) (n:Nat) (g:Nat->Nat->Go.V.I)  (h:nd (dU (0+n) 40) (QE (.c (.sa 1 (0+n))) [.dead,(.arr 64 3 (0+n) (kB 0 mv g))])):cW XC 39 po L QE 3 (rB n g ):=km h
theorem Ia (n:Nat) (g:Nat->cA) (hx:n<=1000):ag 39 0 (lX [] (.c (.sa 0 (n))) [.arr 64 3 (n) (λi=>cK (g i))]) (ah 39 3) (rB n λi=>cK (g i)):=by
 refine aF (X:=XC) (stop:=po) (Np _ _ n _ ?_)
 refine ay (eE (by omega) (by omega)) ?_
 refine .inl ?_
 rw [Nat.zero_add]
 exact ⟨[1],.c (.sa 0 n),_,_,rfl,(.cons (bZ.arr λi _ j _=>dK.refl _) .nil),⟨1,aH rfl,aH rfl,rfl,rfl,bf.refl _,⟨rfl,trivial⟩⟩⟩
theorem Sa (n:Nat) (g:Nat->cA) (hx:n<=1000):ag 39 0 (lX [] (.c (.sa 0 (n))) [.arr 64 3 (n) (λi=>cK (g i))]) (ah 39 1) ⟨[(0,iR 3 cK ⟨n,g⟩,[])],[],[]⟩:=by
 cases n with
 | zero=>
   refine ag.vf (t:=0) rfl λad cap=>?_
   cases ad with
   | none=>
     refine ag.lr (D4 cap) ((aF (X:=XC) (stop:=po) (LU _ _ cap ?_)))
     exact .inr ⟨rfl,rfl,rfl,_,_,_,rfl⟩
   | some a=>
     refine ag.lr (De a cap) (aF (X:=XC) (stop:=po) (N0 _ _ a cap ?_))
     exact ag.le (rB 0 λi=>cK (g i)) ⟨⟨rfl,_,rfl,qW kx⟩,trivial⟩ .nil rfl (Ia 0 g (by omega))
 | succ n=>
   refine ag.lr (Dw n g) (aF (X:=XC) (stop:=po) (L7 _ _ n g ?_))
   exact ag.lr (rB (n+1) λi=>cK (g i)) (Ia (n+1) g hx)
theorem L0 (x:Sq cA) (hx:x.n<=1000):LC 39 [iR 3 cK x] [] (.c (.sa 0 x.n)) [.arr 64 3 x.n (λi=>cK (x.get i))]:=
 lJ ZE (aH (by kernel_rfl)) (cU (X:=XC) (stop:=po) (ai1 _ _ x (Sa x.n x.get hx)))
def pJ:Nat->Bool:=λi=>Nat.beq i 1||Nat.beq i 3
theorem Y7:Fn 40:={}
theorem ae0 (L:LP) (QE:D->List ae->Prop) (x:Sq dh) (h:L (ah 40 1) ⟨[(0,((.c (.im (.sl 4 x.1 (λi=>eM (x.2 i))))),[]))],[],[]⟩):fG XC 40 pJ L QE [iR 4 eM x] []:=km h
def ET (n:Nat) (g:Nat->dh)  : VS:=⟨[(0,(.c (.im (.sl 4 n.succ (λi=>eM (g i))))),[])],[],[]⟩
theorem L6 (L:LP) (QE:D->List ae->Prop) (n:Nat) (g:Nat->dh)  (h:L (ah 40 3) ⟨[(0,((.c (.im (.sl 4 n.succ (λi=>eM (g i))))),[])),qL],[],[]⟩):cW XC 40 pJ L QE 1 (ET n g ):=km h
def E4 (cap:Nat)  : VS:=(tR cap)
theorem P8 (L:LP) (QE:D->List ae->Prop) (cap:Nat)  (h:QE (.c (.im (.v (.slice .none 0 0)))) []):cW XC 40 pJ L QE 1 (E4 cap ):=km h
def Dt (a:Addr) (cap:Nat)  : VS:=(sN a cap)
theorem Qu (L:LP) (QE:D->List ae->Prop) (a:Addr) (cap:Nat)  (h:L (ah 40 3) (zE a cap)):cW XC 40 pJ L QE 1 (Dt a cap ):=km h
def qY (n:Nat) (g:Nat->Nat->Go.V.I)  : VS:=⟨[(0,.c (.im (.sl 4 n g)),[])],[],[]⟩
theorem NX (L:LP) (QE:D->List ae->Prop) (n:Nat) (g:Nat->Nat->Go.V.I)  (h:nd (dU (0+n) 64) (QE (.c (.sa 1 (0+n))) [.dead,(.arr 93 4 (0+n) (kB 0 mv g))])):cW XC 40 pJ L QE 3 (qY n g ):=km h
theorem Ik (n:Nat) (g:Nat->dh) (hx:n<=1000):ag 40 0 (lX [] (.c (.sa 0 (n))) [.arr 93 4 (n) (λi=>eM (g i))]) (ah 40 3) (qY n λi=>eM (g i)):=by
 refine aF (X:=XC) (stop:=pJ) (NX _ _ n _ ?_)
 refine ay (eE (by omega) (by omega)) ?_
 refine .inl ?_
 rw [Nat.zero_add]
 exact ⟨[1],.c (.sa 0 n),_,_,rfl,(.cons (bZ.arr λi _ j _=>dK.refl _) .nil),⟨1,aH rfl,aH rfl,rfl,rfl,bf.refl _,⟨rfl,trivial⟩⟩⟩
theorem TK (n:Nat) (g:Nat->dh) (hx:n<=1000):ag 40 0 (lX [] (.c (.sa 0 (n))) [.arr 93 4 (n) (λi=>eM (g i))]) (ah 40 1) ⟨[(0,iR 4 eM ⟨n,g⟩,[])],[],[]⟩:=by
 cases n with
 | zero=>
   refine ag.vf (t:=0) rfl λad cap=>?_
   cases ad with
   | none=>
     refine ag.lr (E4 cap) ((aF (X:=XC) (stop:=pJ) (P8 _ _ cap ?_)))
     exact .inr ⟨rfl,rfl,rfl,_,_,_,rfl⟩
   | some a=>
     refine ag.lr (Dt a cap) (aF (X:=XC) (stop:=pJ) (Qu _ _ a cap ?_))
     exact ag.le (qY 0 λi=>eM (g i)) ⟨⟨rfl,_,rfl,qW kx⟩,trivial⟩ .nil rfl (Ik 0 g (by omega))
 | succ n=>
   refine ag.lr (ET n g) (aF (X:=XC) (stop:=pJ) (L6 _ _ n g ?_))
   exact ag.lr (qY (n+1) λi=>eM (g i)) (Ik (n+1) g hx)
theorem Mw (x:Sq dh) (hx:x.n<=1000):LC 40 [iR 4 eM x] [] (.c (.sa 0 x.n)) [.arr 93 4 x.n (λi=>eM (x.get i))]:=
 lJ Y7 (aH (by kernel_rfl)) (cU (X:=XC) (stop:=pJ) (ae0 _ _ x (TK x.n x.get hx)))
open Go Go.V
section
end
open Go Go.V
section
def Si:C:=.im (.v (.slice none 0 0))
end
open Go Go.V
section
def kH (t:af) (p q:Nat):List C:=[.im (iI t.place.fn),.im (iI t.place.line),.sa p t.ins.n,.sa q t.aa.n]
end
set_option maxHeartbeats 4000000
open Go Go.V
section
def M5 (el sz:Nat) (ds:List D):Out:=match ds with
 | [.c (.im (.sl _ n get))]=>(.c (.sa 0 n),[],[.arr el sz n get])
 | _=>tn
def F75:FuncId->List D->List ae->Out:=ext yg [(37,λds _=>M5 3 1 ds),(38,λds _=>(aD ds 0,[],[])),(35,λds _=>M5 40 14 ds),(36,λds _=>M5 68 3 ds),(39,λds _=>M5 64 3 ds),(40,λds _=>M5 93 4 ds)]
def sE:gr:={ F:=F75 }
def aa9 (x:ak):List O:=[.im (iI x.op),.im (iI x.a),.im (iI x.b),.im (iI x.c),.im (iI x.n),VF x.args,.im (iI x.k.kind),.im (iI x.k.n),.im (iS x.k.s),.im (yr 1 dF x.names),.im (iI x.place.fn),.im (iI x.place.line),.im (iI x.exit),.im (iB x.once)]
def bo (x:ak):Nat->O:=ixO (aa9 x)
def fo (x:dh):Nat->O:=ixO [.im (iI x.value),.im (iI x.cls),.im (yr 1 dF x.names),VF x.items]
def aa1 (s:Sq dh):O:=.ns 93 4 s.n λi=>fo (s.get i)
def bj (x:ai):Nat->O:=ixO [ap6 x.frames,aa1 x.aC,.im (iI x.back)]
def bA (s:Sq ak):ae:=.bL 40 14 s.n (λi=>bo (s.get i)) none
def ew (s:Sq ai):ae:=.bL 68 3 s.n (λi=>bj (s.get i)) none
def NL (s:Sq dh):ae:=.bL 93 4 s.n (λi=>fo (s.get i)) none
def uB {α:Type} (s:Sq α) (k:Nat) (f:α->Nat->O) (e:α->Nat->Go.V.I) (i:Nat):Nat->O:=bif Nat.blt i k then f (s.get i) else λj=>.im (e (s.get i) j)
def gN {α:Type} (el sz:Nat) (f:α->Nat->O) (e:α->Nat->Go.V.I) (s:Sq α) (k:Nat):ae:=.bL el sz s.n (uB s k f e) none
def gF {α:Type} (el sz:Nat) (f:α->Nat->O) (e:α->Nat->Go.V.I) (s:Sq α) (k:Nat):ae:=.bL el sz s.n (uB s k f e) (some (k,kI (λj=>.im (e (s.get k) j)) sz 0))
def PT (t:af):ae:=.box [.im (iI t.place.fn),.im (iI t.place.line),.sa 2 t.ins.n,.sa 3 t.aa.n]
end
def iM:Nat->Bool:=λi=>Nat.beq i 2||Nat.beq i 3||Nat.beq i 4||Nat.beq i 8||Nat.beq i 9||Nat.beq i 11||Nat.beq i 12||Nat.beq i 13||Nat.beq i 17||Nat.beq i 18||Nat.beq i 21
theorem au6:Fn 20:={}
abbrev FJ (aj:af):ae:=.arr 40 14 aj.2.1 (λi=>bQ (aj.2.2 i))
abbrev qa (aj:af):ae:=.arr 68 3 aj.3.1 (λi=>bG (aj.3.2 i))
abbrev kC:gn:=(2,((.c (.rt 1 0 0)),[]))
abbrev kL (aj:af):ae:=.box [(ci aj.1.1),(ci aj.1.2),(.sa 2 aj.2.1),(.sa 3 aj.3.1)]
theorem au7 (L:LP) (QE:D->List ae->Prop) (t:af) (h:(LC 35 [(.c (.im (.sl 14 t.2.1 (λi=>bQ (t.2.2 i)))))] [] (.c (.sa 0 t.2.1)) [(FJ t)]/\nd (Nat.beq t.2.1 t.2.1) ((LC 36 [(.c (.im (.sl 3 t.3.1 (λi=>bG (t.3.2 i)))))] [] (.c (.sa 0 t.3.1)) [(qa t)]/\nd (Nat.beq t.3.1 t.3.1) ((LC 35 [(.c (.im (.sl 14 t.2.1 (λi=>bQ (t.2.2 i)))))] [] (.c (.sa 0 t.2.1)) [(FJ t)]/\nd (Nat.beq t.2.1 t.2.1) ((LC 36 [(.c (.im (.sl 3 t.3.1 (λi=>bG (t.3.2 i)))))] [] (.c (.sa 0 t.3.1)) [(qa t)]/\nd (Nat.beq t.3.1 t.3.1) (L (ah 20 2) ⟨[eH,kC],[(kL t),eK,(FJ t),(qa t)],[]⟩))))))))):fG sE 20 iM L QE [bH t] []:=km h
abbrev lz:gn:=(1,.c (.rt 0 0 0),[])
abbrev oq:gn:=(2,.c (.rt 1 0 0),[])
def FZ (t:af)  : VS:=⟨[lz,oq],[PT t,.box [.im (iI 0),.im (iI 0),.im (.v (.slice none 0 0)),.im (.v (.slice none 0 0))],gN 40 14 bo bQ t.ins 0,.arr 68 3 t.aa.n (λi=>bG (t.aa.get i))],[]⟩
theorem VK (L:LP) (QE:D->List ae->Prop) (t:af)  (h:L (ah 20 3) ⟨[eH,kC,(22,((.c (.sa 2 t.2.1)),[])),(23,((gX t),[])),(24,((int 0),[]))],[(kL t),eK,(.bL 40 14 t.2.1 (uB t.2 0 bo bQ) .none),(qa t)],[]⟩):cW sE 20 iM L QE 2 (FZ t ):=km h
def vJ (t:af) (k:Nat):VS:=⟨[lz,oq,(22,.c (.sa 2 t.ins.n),[]),(23,int t.ins.n,[]),(24,int k,[])],[PT t,.box [.im (iI 0),.im (iI 0),.im (.v (.slice none 0 0)),.im (.v (.slice none 0 0))],gN 40 14 bo bQ t.ins k,.arr 68 3 t.aa.n (λi=>bG (t.aa.get i))],[]⟩
abbrev kr (aj:af):gn:=(47,((.c (.sa 3 aj.3.1)),[]))
abbrev PN (aj:af):D:=int (↑aj.3.1:Int)
abbrev j7 (aj:af):gn:=(48,((PN aj),[]))
theorem Nn (L:LP) (QE:D->List ae->Prop) (t:af) (k:Nat) (h:br (decide ((↑k:Int)<(↑t.2.1:Int))) (L (ah 20 4) ⟨[eH,kC,(22,((.c (.sa 2 t.2.1)),[])),(23,((gX t),[])),(24,((int (↑k:Int)),[])),(25,((bool true),[]))],[(kL t),eK,(.bL 40 14 t.2.1 (uB t.2 k bo bQ) .none),(qa t)],[]⟩) (L (ah 20 8) ⟨[eH,kC,(kr t),(j7 t),(49,((int 0),[]))],[(kL t),eK,(.bL 40 14 t.2.1 (uB t.2 k bo bQ) .none),(qa t)],[]⟩)):cW sE 20 iM L QE 3 (vJ t k):=km h
def FH (t:af) (k:Nat):VS:=⟨[lz,oq,(22,.c (.sa 2 t.ins.n),[]),(23,int t.ins.n,[]),(24,int k,[])],[PT t,.box [.im (iI 0),.im (iI 0),.im (.v (.slice none 0 0)),.im (.v (.slice none 0 0))],gF 40 14 bo bQ t.ins k,.arr 68 3 t.aa.n (λi=>bG (t.aa.get i))],[]⟩
abbrev Hc (aj:af) (aA:Nat):ae:=.arr 3 1 ((aj.2.2 aA).6.1) (λi=>bF ((aj.2.2 aA).6.2 i))
abbrev xG (aj:af) (aA:Nat):C:=.im (.sl 1 ((aj.2.2 aA).8.1) (λi=>dF ((aj.2.2 aA).8.2 i)))
abbrev ju (aj:af) (aA:Nat):ae:=.box (lift (b8 (aj.2.2 aA)))
theorem Wr (L:LP) (QE:D->List ae->Prop) (t:af) (k:Nat) (h:nd (dm (↑k:Int) t.2.1) (nd (k.blt t.2.1) (nd (k.beq k) ((LC 37 [(.c (.im (.sl 1 ((t.2.2 k).6.1) (λi=>bF ((t.2.2 k).6.2 i)))))] [] (.c (.sa 0 ((t.2.2 k).6.1))) [(Hc t k)]/\nd (Nat.beq (t.2.2 k).6.1 (t.2.2 k).6.1) ((LC 38 [(.c (xG t k))] [] (.c (xG t k)) []/\nd (dm (↑k:Int) t.2.1) (nd (k.beq k) (nd (dm (↑k:Int) t.2.1) (nd (k.beq k) ((LC 37 [(.c (.im (.sl 1 ((t.2.2 k).6.1) (λi=>bF ((t.2.2 k).6.2 i)))))] [] (.c (.sa 0 ((t.2.2 k).6.1))) [(Hc t k)]/\nd (Nat.beq (t.2.2 k).6.1 (t.2.2 k).6.1) ((LC 38 [(.c (xG t k))] [] (.c (xG t k)) []/\nd (dm (↑k:Int) t.2.1) (nd (k.beq k) (nd (dm (↑k:Int) t.2.1) (nd (k.beq k) (L (ah 20 3) ⟨[eH,kC,(22,((.c (.sa 2 t.2.1)),[])),(23,((gX t),[])),(24,((int (IntKind.i64.wrap ((↑k:Int)+1))),[]))],[(kL t),eK,(.bL 40 14 t.2.1 (uB t.2 k bo bQ) (.some (k,[(.c (ci ((t.2.2 k).1))),(.c (ci ((t.2.2 k).2))),(.c (ci ((t.2.2 k).3))),(.c (ci ((t.2.2 k).4))),(.c (ci ((t.2.2 k).5))),(.c (.sa 5 ((t.2.2 k).6.1))),(.c (ci ((t.2.2 k).7.1))),(.c (ci ((t.2.2 k).7.2))),(.c (.im (.v (.string ((t.2.2 k).7.3))))),(.c (xG t k)),(.c (ci ((t.2.2 k).9.1))),(.c (ci ((t.2.2 k).9.2))),(.c (ci ((t.2.2 k).10))),(.c (.im (.v (.bool ((t.2.2 k).11)))))]))),(qa t),(ju t k),(Hc t k),.dead],[]⟩)))))))))))))))))):cW sE 20 iM L QE 4 (FH t k):=km h
abbrev w8 (aj:af):gn:=(47,.c (.sa 3 aj.aa.n),[])
abbrev wv (aj:af):gn:=(48,int aj.aa.n,[])
def mT (t:af) (k:Nat):VS:=⟨[lz,oq,(w8 t),(wv t),(49,int k,[])],[PT t,.box [.im (iI 0),.im (iI 0),.im (.v (.slice none 0 0)),.im (.v (.slice none 0 0))],bA t.ins,gN 68 3 bj bG t.aa k],[]⟩
abbrev mX (aj:Nat):gn:=(49,((gS aj),[]))
abbrev ma (aj:af):ae:=.bL 40 14 aj.2.1 (λi=>bo (aj.2.2 i)) .none
theorem L4 (L:LP) (QE:D->List ae->Prop) (t:af) (k:Nat) (h:br (decide ((↑k:Int)<(↑t.3.1:Int))) (L (ah 20 9) ⟨[eH,kC,(kr t),(j7 t),(mX k),(50,((bool true),[]))],[(kL t),eK,(ma t),(.bL 68 3 t.3.1 (uB t.3 k bj bG) .none)],[]⟩) (QE (.a [(ci t.1.1),(ci t.1.2),(.sa 2 t.2.1),(.sa 3 t.3.1)]) [(.box [(ci t.1.1),(ci t.1.2),(.sa 2 t.2.1),(.sa 3 t.3.1)]),(.box [(ci t.1.1),(ci t.1.2),(.sa 2 t.2.1),(.sa 3 t.3.1)]),(.bL 40 14 t.2.1 (λi=>bo (t.2.2 i)) .none),(.bL 68 3 t.3.1 (uB t.3 k bj bG) .none)])):cW sE 20 iM L QE 8 (mT t k):=km h
def Hg (t:af) (k:Nat):VS:=⟨[lz,oq,(w8 t),(wv t),(49,int k,[])],[PT t,.box [.im (iI 0),.im (iI 0),.im (.v (.slice none 0 0)),.im (.v (.slice none 0 0))],bA t.ins,gF 68 3 bj bG t.aa k],[]⟩
abbrev GK (aj:af) (aA:Nat):C:=.im (.sl 3 ((aj.3.2 aA).1.1) (λi=>cK ((aj.3.2 aA).1.2 i)))
abbrev HP (aj:af) (aA:Nat):ae:=.arr 64 3 ((aj.3.2 aA).1.1) (λi=>cK ((aj.3.2 aA).1.2 i))
abbrev Fu (aj:af) (aA:Nat):C:=.im (.sl 4 ((aj.3.2 aA).2.1) (λi=>eM ((aj.3.2 aA).2.2 i)))
abbrev Fi (aj:af) (aA:Nat):ae:=.arr 93 4 ((aj.3.2 aA).2.1) (λi=>eM ((aj.3.2 aA).2.2 i))
abbrev ou (aj:Nat):gn:=(5,((gS aj),[]))
abbrev zS (aj:af) (aA:Nat):ae:=.bL 68 3 aj.3.1 (uB aj.3 aA bj bG) (.some (aA,[(.c (GK aj aA)),(.c (Fu aj aA)),(.c (ci ((aj.3.2 aA).3)))]))
theorem Wk (L:LP) (QE:D->List ae->Prop) (t:af) (k:Nat) (h:nd (dm (↑k:Int) t.3.1) (nd (k.blt t.3.1) (nd (k.beq k) ((LC 39 [(.c (GK t k))] [] (.c (.sa 0 ((t.3.2 k).1.1))) [(HP t k)]/\nd (Nat.beq (t.3.2 k).1.1 (t.3.2 k).1.1) ((LC 40 [(.c (Fu t k))] [] (.c (.sa 0 ((t.3.2 k).2.1))) [(Fi t k)]/\nd (Nat.beq (t.3.2 k).2.1 (t.3.2 k).2.1) ((LC 39 [(.c (GK t k))] [] (.c (.sa 0 ((t.3.2 k).1.1))) [(HP t k)]/\nd (Nat.beq (t.3.2 k).1.1 (t.3.2 k).1.1) ((LC 40 [(.c (Fu t k))] [] (.c (.sa 0 ((t.3.2 k).2.1))) [(Fi t k)]/\nd (Nat.beq (t.3.2 k).2.1 (t.3.2 k).2.1) (L (ah 20 11) ⟨[eH,kC,(ou k),(7,((.c (.sa 5 ((t.3.2 k).1.1))),[])),(8,((.c (.sa 6 ((t.3.2 k).2.1))),[])),(kr t),(j7 t),(mX k)],[(kL t),eK,(ma t),(zS t k),(.box (lift (bz (t.3.2 k)))),(HP t k),(Fi t k)],[]⟩)))))))))))):cW sE 20 iM L QE 9 (Hg t k):=km h
abbrev N8 (aj:af) (aA:Nat):aL:=[lz,oq,(w8 aj),(wv aj),(49,int aA,[]),(5,int aA,[]),(7,.c (.sa 4 (aj.aa.get aA).frames.n),[]),(8,.c (.sa 5 (aj.aa.get aA).aC.n),[])]
def A1 (t:af) (k:Nat):VS:=⟨(N8 t k),[PT t,.box [.im (iI 0),.im (iI 0),.im (.v (.slice none 0 0)),.im (.v (.slice none 0 0))],bA t.ins,gF 68 3 bj bG t.aa k,gN 64 3 fx cK (t.aa.get k).frames 0,gN 93 4 fo eM (t.aa.get k).aC 0],[]⟩
abbrev pV (aj:af) (aA:Nat):gn:=(7,((.c (.sa 4 ((aj.3.2 aA).1.1))),[]))
abbrev wI (aj:af) (aA:Nat):D:=.c (.sa 5 ((aj.3.2 aA).2.1))
abbrev pZ (aj:af) (aA:Nat):gn:=(8,((wI aj aA),[]))
abbrev GI (aj:af) (aA:Nat):ae:=.bL 93 4 ((aj.3.2 aA).2.1) (uB (aj.3.2 aA).2 0 fo eM) .none
theorem RA (L:LP) (QE:D->List ae->Prop) (t:af) (k:Nat) (h:L (ah 20 12) ⟨[eH,kC,(ou k),(pV t k),(pZ t k),(kr t),(j7 t),(mX k),(60,((.c (.sa 4 ((t.3.2 k).1.1))),[])),(61,((int ((↑(t.3.2 k).1.1:Int))),[])),(62,((int 0),[]))],[(kL t),eK,(ma t),(zS t k),(.bL 64 3 ((t.3.2 k).1.1) (uB (t.3.2 k).1 0 fx cK) .none),(GI t k)],[]⟩):cW sE 20 iM L QE 11 (A1 t k):=km h
abbrev Uk (aj:af) (aA aB:Nat):aL:=[lz,oq,(w8 aj),(wv aj),(49,int aA,[]),(5,int aA,[]),(7,.c (.sa 4 (aj.aa.get aA).frames.n),[]),(8,.c (.sa 5 (aj.aa.get aA).aC.n),[]),(60,.c (.sa 4 (aj.aa.get aA).frames.n),[]),(61,int (aj.aa.get aA).frames.n,[]),(62,int aB,[])]
def rM (t:af) (k j:Nat):VS:=⟨(Uk t k j),[PT t,.box [.im (iI 0),.im (iI 0),.im (.v (.slice none 0 0)),.im (.v (.slice none 0 0))],bA t.ins,gF 68 3 bj bG t.aa k,gN 64 3 fx cK (t.aa.get k).frames j,gN 93 4 fo eM (t.aa.get k).aC 0],[]⟩
abbrev LK (aj:af) (aA aB:Nat):List ae:=[(kL aj),eK,(ma aj),(zS aj aA),(.bL 64 3 ((aj.3.2 aA).1.1) (uB (aj.3.2 aA).1 aB fx cK) .none),(GI aj aA)]
abbrev BS (aj:af) (aA:Nat):gn:=(76,((int ((↑(aj.3.2 aA).2.1:Int))),[]))
theorem Ij (L:LP) (QE:D->List ae->Prop) (t:af) (k j:Nat) (h:br (decide ((↑j:Int)<(↑(t.3.2 k).1.1:Int))) (L (ah 20 13) ⟨[eH,kC,(ou k),(pV t k),(pZ t k),(kr t),(j7 t),(mX k),(60,((.c (.sa 4 ((t.3.2 k).1.1))),[])),(61,((int ((↑(t.3.2 k).1.1:Int))),[])),(62,((int (↑j:Int)),[])),(63,((bool true),[]))],(LK t k j),[]⟩) (L (ah 20 17) ⟨[eH,kC,(ou k),(pV t k),(pZ t k),(kr t),(j7 t),(mX k),(75,((wI t k),[])),(BS t k),(77,((int 0),[]))],(LK t k j),[]⟩)):cW sE 20 iM L QE 12 (rM t k j):=km h
def Bn (t:af) (k j:Nat):VS:=⟨(Uk t k j),[PT t,.box [.im (iI 0),.im (iI 0),.im (.v (.slice none 0 0)),.im (.v (.slice none 0 0))],bA t.ins,gF 68 3 bj bG t.aa k,gF 64 3 fx cK (t.aa.get k).frames j,gN 93 4 fo eM (t.aa.get k).aC 0],[]⟩
theorem Sv (L:LP) (QE:D->List ae->Prop) (t:af) (k j:Nat) (h:nd (dm (↑j:Int) (t.3.2 k).1.1) (nd (j.blt (t.3.2 k).1.1) (nd (j.beq j) ((LC 37 [(.c (.im (.sl 1 (((t.3.2 k).1.2 j).3.1) (λi=>bF (((t.3.2 k).1.2 j).3.2 i)))))] [] (.c (.sa 0 (((t.3.2 k).1.2 j).3.1))) [(.arr 3 1 (((t.3.2 k).1.2 j).3.1) (λi=>bF (((t.3.2 k).1.2 j).3.2 i)))]/\nd (Nat.beq ((t.3.2 k).1.2 j).3.1 ((t.3.2 k).1.2 j).3.1) (nd (dm (↑j:Int) (t.3.2 k).1.1) (nd (j.beq j) (L (ah 20 12) ⟨[eH,kC,(ou k),(pV t k),(pZ t k),(kr t),(j7 t),(mX k),(60,((.c (.sa 4 ((t.3.2 k).1.1))),[])),(61,((int ((↑(t.3.2 k).1.1:Int))),[])),(62,((int (IntKind.i64.wrap ((↑j:Int)+1))),[]))],[(kL t),eK,(ma t),(zS t k),(.bL 64 3 ((t.3.2 k).1.1) (uB (t.3.2 k).1 j fx cK) (.some (j,[(.c (ci (((t.3.2 k).1.2 j).1))),(.c (ci (((t.3.2 k).1.2 j).2))),(.c (.sa 7 (((t.3.2 k).1.2 j).3.1)))]))),(GI t k),(.box (lift (la ((t.3.2 k).1.2 j)))),(.arr 3 1 (((t.3.2 k).1.2 j).3.1) (λi=>bF (((t.3.2 k).1.2 j).3.2 i)))],[]⟩)))))))):cW sE 20 iM L QE 13 (Bn t k j):=km h
abbrev UG (aj:af) (aA aB:Nat):aL:=[lz,oq,(w8 aj),(wv aj),(49,int aA,[]),(5,int aA,[]),(7,.c (.sa 4 (aj.aa.get aA).frames.n),[]),(8,.c (.sa 5 (aj.aa.get aA).aC.n),[]),(75,.c (.sa 5 (aj.aa.get aA).aC.n),[]),(76,int (aj.aa.get aA).aC.n,[]),(77,int aB,[])]
def rH (t:af) (k j:Nat):VS:=⟨(UG t k j),[PT t,.box [.im (iI 0),.im (iI 0),.im (.v (.slice none 0 0)),.im (.v (.slice none 0 0))],bA t.ins,gF 68 3 bj bG t.aa k,DH (t.aa.get k).frames,gN 93 4 fo eM (t.aa.get k).aC j],[]⟩
abbrev Fs (aj:af) (aA:Nat):ae:=.bL 64 3 ((aj.3.2 aA).1.1) (λi=>fx ((aj.3.2 aA).1.2 i)) .none
abbrev NI (aj:af) (aA aB:Nat):List ae:=[(kL aj),eK,(ma aj),(zS aj aA),(Fs aj aA),(.bL 93 4 ((aj.3.2 aA).2.1) (uB (aj.3.2 aA).2 aB fo eM) .none)]
theorem JK (L:LP) (QE:D->List ae->Prop) (t:af) (k j:Nat) (h:br (decide ((↑j:Int)<(↑(t.3.2 k).2.1:Int))) (L (ah 20 18) ⟨[eH,kC,(ou k),(pV t k),(pZ t k),(kr t),(j7 t),(mX k),(75,((wI t k),[])),(BS t k),(77,((int (↑j:Int)),[])),(78,((bool true),[]))],(NI t k j),[]⟩) (L (ah 20 21) ⟨[eH,kC,(ou k),(pV t k),(pZ t k),(kr t),(j7 t),(mX k),(75,((wI t k),[])),(BS t k),(77,((int (↑j:Int)),[])),(78,((bool false),[]))],(NI t k j),[]⟩)):cW sE 20 iM L QE 17 (rH t k j):=km h
def BX (t:af) (k j:Nat):VS:=⟨(UG t k j),[PT t,.box [.im (iI 0),.im (iI 0),.im (.v (.slice none 0 0)),.im (.v (.slice none 0 0))],bA t.ins,gF 68 3 bj bG t.aa k,DH (t.aa.get k).frames,gF 93 4 fo eM (t.aa.get k).aC j],[]⟩
abbrev wY (aj:af) (aA aB:Nat):C:=.im (.sl 1 (((aj.3.2 aA).2.2 aB).3.1) (λi=>dF (((aj.3.2 aA).2.2 aB).3.2 i)))
abbrev Fz (aj:af) (aA aB:Nat):ae:=.arr 3 1 (((aj.3.2 aA).2.2 aB).4.1) (λi=>bF (((aj.3.2 aA).2.2 aB).4.2 i))
theorem Tk (L:LP) (QE:D->List ae->Prop) (t:af) (k j:Nat) (h:nd (dm (↑j:Int) (t.3.2 k).2.1) (nd (j.blt (t.3.2 k).2.1) (nd (j.beq j) ((LC 38 [(.c (wY t k j))] [] (.c (wY t k j)) []/\(LC 37 [(.c (.im (.sl 1 (((t.3.2 k).2.2 j).4.1) (λi=>bF (((t.3.2 k).2.2 j).4.2 i)))))] [] (.c (.sa 0 (((t.3.2 k).2.2 j).4.1))) [(Fz t k j)]/\nd (Nat.beq ((t.3.2 k).2.2 j).4.1 ((t.3.2 k).2.2 j).4.1) (nd (dm (↑j:Int) (t.3.2 k).2.1) (nd (j.beq j) (nd (dm (↑j:Int) (t.3.2 k).2.1) (nd (j.beq j) ((LC 38 [(.c (wY t k j))] [] (.c (wY t k j)) []/\(LC 37 [(.c (.im (.sl 1 (((t.3.2 k).2.2 j).4.1) (λi=>bF (((t.3.2 k).2.2 j).4.2 i)))))] [] (.c (.sa 0 (((t.3.2 k).2.2 j).4.1))) [(Fz t k j)]/\nd (Nat.beq ((t.3.2 k).2.2 j).4.1 ((t.3.2 k).2.2 j).4.1) (nd (dm (↑j:Int) (t.3.2 k).2.1) (nd (j.beq j) (nd (dm (↑j:Int) (t.3.2 k).2.1) (nd (j.beq j) (L (ah 20 17) ⟨[eH,kC,(ou k),(pV t k),(pZ t k),(kr t),(j7 t),(mX k),(75,((wI t k),[])),(BS t k),(77,((int (IntKind.i64.wrap ((↑j:Int)+1))),[]))],[(kL t),eK,(ma t),(zS t k),(Fs t k),(.bL 93 4 ((t.3.2 k).2.1) (uB (t.3.2 k).2 j fo eM) (.some (j,[(.c (ci (((t.3.2 k).2.2 j).1))),(.c (ci (((t.3.2 k).2.2 j).2))),(.c (wY t k j)),(.c (.sa 8 (((t.3.2 k).2.2 j).4.1)))]))),(.box (lift (tT ((t.3.2 k).2.2 j)))),.dead,(Fz t k j)],[]⟩)))))))))))))))))):cW sE 20 iM L QE 18 (BX t k j):=km h
def Bd (t:af) (k:Nat):VS:=⟨(N8 t k),[PT t,.box [.im (iI 0),.im (iI 0),.im (.v (.slice none 0 0)),.im (.v (.slice none 0 0))],bA t.ins,gF 68 3 bj bG t.aa k,DH (t.aa.get k).frames,NL (t.aa.get k).aC],[]⟩
theorem Sc (L:LP) (QE:D->List ae->Prop) (t:af) (k:Nat) (h:nd (dm (↑k:Int) t.3.1) (nd (k.beq k) (nd (dm (↑k:Int) t.3.1) (nd (k.beq k) (nd (dm (↑k:Int) t.3.1) (nd (k.beq k) (nd (dm (↑k:Int) t.3.1) (nd (k.beq k) (L (ah 20 8) ⟨[eH,kC,(kr t),(j7 t),(49,((int (IntKind.i64.wrap ((↑k:Int)+1))),[]))],[(kL t),eK,(ma t),(.bL 68 3 t.3.1 (uB t.3 k bj bG) (.some (k,[(.c (.sa 4 ((t.3.2 k).1.1))),(.c (.sa 5 ((t.3.2 k).2.1))),(.c (ci ((t.3.2 k).3)))]))),(Fs t k),(.bL 93 4 ((t.3.2 k).2.1) (λi=>fo ((t.3.2 k).2.2 i)) .none)],[]⟩))))))))):cW sE 20 iM L QE 21 (Bd t k):=km h
section
variable {α:Type} {s:Sq α} {f:α->Nat->O} {e:α->Nat->Go.V.I}
theorem WN {k:Nat}:uB s k f e k=λj=>.im (e (s.get k) j):=by
 unfold uB
 cases hb:Nat.blt k k with
 | false=>rfl
 | true=>simp at hb
theorem Qg {i k:Nat} (h:i<k):uB s k f e i=f (s.get i):=by
 unfold uB
 rw [da h]; rfl
theorem Xc {i k:Nat} (h:i≠k):uB s (k+1) f e i=uB s k f e i:=by
 grind [uB,Nat.blt_eq]
theorem BG {el sz k:Nat} {l:List Fc} (h:WO (f (s.get k)) l 0):bZ (.bL el sz s.n (uB s k f e) (some (k,l))) (gN el sz f e s (k+1)):=
 bZ.unf (by rw [Qg (Nat.lt_succ_self k)]; exact h) λi hi wc j hj=>by rw [Xc wc]; exact Ag.refl _
theorem B3 {el sz:Nat}:bZ (gN el sz f e s s.n) (.bL el sz s.n (λi=>f (s.get i)) none):=bZ.bL λi hi j hj=>by rw [Qg hi]; exact Ag.refl _
theorem Tv {el sz:Nat}:bZ (.arr el sz s.n (λi=>e (s.get i))) (gN el sz f e s 0):=bZ.QI λi hi j hj=>rfl
theorem H6 {el sz k:Nat}:bZ (.bL el sz s.n (uB s k f e) (some (k,kI (uB s k f e k) sz 0))) (gF el sz f e s k):=by
 unfold gF
 rw [WN]
 exact bZ.refl _
end
theorem X5 (t:af) (hS:bk t) (k:Nat) (hk:k<t.ins.n) (ih:ag 20 0 (Go.V.cd [] (.a (kH t 0 1)) [bA t.ins,ew t.aa]) (ah 20 3) (vJ t (k+1))):ag 20 0 (Go.V.cd [] (.a (kH t 0 1)) [bA t.ins,ew t.aa]) (ah 20 4) (FH t k):=by
 have hN:=hS.ins
 refine aF (X:=sE) (stop:=iM) (Wr _ _ t k ?_)
 have hW:=dy hk (by unfold maxLen; omega:_<=maxLen)
 refine ay (by grind [aP]) ?_
 refine ay (by simp_all) ?_
 refine ay (by simp_all) ?_
 refine ⟨wD (t.ins.get k).args (hS.args k hk),?_⟩
 refine ay (by simp_all) ?_
 refine ⟨Bu (t.ins.get k).names (hS.names k hk),?_⟩
 refine ay (by grind [aP]) ?_
 refine ay (by simp_all) ?_
 refine ay (by grind [aP]) ?_
 refine ay (by simp_all) ?_
 refine ⟨wD (t.ins.get k).args (hS.args k hk),?_⟩
 refine ay (by simp_all) ?_
 refine ⟨Bu (t.ins.get k).names (hS.names k hk),?_⟩
 refine ay (by grind [aP]) ?_
 refine ay (by simp_all) ?_
 refine ay (by grind [aP]) ?_
 refine ay (by simp_all) ?_
 rw [hW]
 exact ag.close 2 5 5 rfl rfl rfl rfl rfl rfl (ag.rename [0,1,2,3] rfl (ag.lf (vJ t (k+1)) (rc (rc (.cons (BG ⟨du.cB _,du.cB _,du.cB _,du.cB _,du.cB _,du.refl _,du.cB _,du.cB _,du.cB _,du.cB _,du.cB _,du.cB _,du.cB _,du.cB _,trivial⟩) (rc .nil)))) ih))
theorem RF (t:af) (hS:bk t) (k:Nat) (hk:k<t.aa.n) (ih:ag 20 0 (Go.V.cd [] (.a (kH t 0 1)) [bA t.ins,ew t.aa]) (ah 20 8) (mT t (k+1))):ag 20 0 (Go.V.cd [] (.a (kH t 0 1)) [bA t.ins,ew t.aa]) (ah 20 21) (Bd t k):=by
 have hN:=hS.aa
 refine aF (X:=sE) (stop:=iM) (Sc _ _ t k ?_)
 have hW:=dy hk (by unfold maxLen; omega:_<=maxLen)
 refine ay (by grind [aP]) ?_
 refine ay (by simp_all) ?_
 refine ay (by grind [aP]) ?_
 refine ay (by simp_all) ?_
 refine ay (by grind [aP]) ?_
 refine ay (by simp_all) ?_
 refine ay (by grind [aP]) ?_
 refine ay (by simp_all) ?_
 rw [hW]
 exact ag.close 3 0 4 rfl rfl rfl rfl rfl rfl (ag.close 3 1 5 rfl rfl rfl rfl rfl rfl (ag.rename [0,1,2,3] rfl (ag.lf (mT t (k+1)) (rc (rc (rc (.cons (BG ⟨du.refl _,du.refl _,du.cB _,trivial⟩) .nil)))) ih)))
theorem RH (t:af) (hS:bk t) (k:Nat) (hk:k<t.aa.n) (j:Nat) (hj:j<(t.aa.get k).aC.n) (ih:ag 20 0 (Go.V.cd [] (.a (kH t 0 1)) [bA t.ins,ew t.aa]) (ah 20 17) (rH t k (j+1))):ag 20 0 (Go.V.cd [] (.a (kH t 0 1)) [bA t.ins,ew t.aa]) (ah 20 18) (BX t k j):=by
 have hN:=(hS.ex k hk).aC
 refine aF (X:=sE) (stop:=iM) (Tk _ _ t k j ?_)
 have hW:=dy hj (by unfold maxLen; omega:_<=maxLen)
 refine ay (by grind [aP]) ?_
 refine ay (by simp_all) ?_
 refine ay (by simp_all) ?_
 refine ⟨Bu ((t.aa.get k).aC.get j).names ((hS.ex k hk).names j hj),?_⟩
 refine ⟨wD ((t.aa.get k).aC.get j).items ((hS.ex k hk).items j hj),?_⟩
 refine ay (by simp_all) ?_
 refine ay (by grind [aP]) ?_
 refine ay (by simp_all) ?_
 refine ay (by grind [aP]) ?_
 refine ay (by simp_all) ?_
 refine ⟨Bu ((t.aa.get k).aC.get j).names ((hS.ex k hk).names j hj),?_⟩
 refine ⟨wD ((t.aa.get k).aC.get j).items ((hS.ex k hk).items j hj),?_⟩
 refine ay (by simp_all) ?_
 refine ay (by grind [aP]) ?_
 refine ay (by simp_all) ?_
 refine ay (by grind [aP]) ?_
 refine ay (by simp_all) ?_
 rw [hW]
 exact ag.close 5 3 8 rfl rfl rfl rfl rfl rfl (ag.rename [0,1,2,3,4,5] rfl (ag.lf (rH t k (j+1)) (rc (rc (rc (rc (rc (.cons (BG ⟨du.cB _,du.cB _,du.cB _,du.refl _,trivial⟩) .nil)))))) ih))
theorem SF (t:af) (hS:bk t) (k:Nat) (hk:k<t.aa.n) (j:Nat) (hj:j<(t.aa.get k).frames.n) (ih:ag 20 0 (Go.V.cd [] (.a (kH t 0 1)) [bA t.ins,ew t.aa]) (ah 20 12) (rM t k (j+1))):ag 20 0 (Go.V.cd [] (.a (kH t 0 1)) [bA t.ins,ew t.aa]) (ah 20 13) (Bn t k j):=by
 have hN:=(hS.ex k hk).frames
 refine aF (X:=sE) (stop:=iM) (Sv _ _ t k j ?_)
 have hW:=dy hj (by unfold maxLen; omega:_<=maxLen)
 refine ay (by grind [aP]) ?_
 refine ay (by simp_all) ?_
 refine ay (by simp_all) ?_
 refine ⟨wD ((t.aa.get k).frames.get j).vars ((hS.ex k hk).vars j hj),?_⟩
 refine ay (by simp_all) ?_
 refine ay (by grind [aP]) ?_
 refine ay (by simp_all) ?_
 rw [hW]
 exact ag.close 4 2 7 rfl rfl rfl rfl rfl rfl (ag.rename [0,1,2,3,4,5] rfl (ag.lf (rM t k (j+1)) (rc (rc (rc (rc (.cons (BG ⟨du.cB _,du.cB _,du.refl _,trivial⟩) (rc .nil)))))) ih))
theorem S1 (t:af) (hS:bk t) (k:Nat) (hk:k<t.aa.n) (ih:ag 20 0 (Go.V.cd [] (.a (kH t 0 1)) [bA t.ins,ew t.aa]) (ah 20 8) (mT t (k+1))):∀ j,j<=(t.aa.get k).aC.n->ag 20 0 (Go.V.cd [] (.a (kH t 0 1)) [bA t.ins,ew t.aa]) (ah 20 17) (rH t k j):=by
 have hB:(t.aa.get k).aC.n<=1000:=(hS.ex k hk).aC
 refine bc (λj hj zG=>?_) ?_
 .refine aF (X:=sE) (stop:=iM) (JK _ _ t k j ?_)
  refine aq (λh0=>?_) (λh=>(dec_lt h hj).elim)
  exact ag.focus 5 j rfl hj (ag.lf (BX t k j) (rc (rc (rc (rc (rc (.cons (H6) .nil)))))) (RH t hS k hk j hj zG))
 .refine aF (X:=sE) (stop:=iM) (JK _ _ t k _ ?_)
  refine aq (λh=>cj h) (λh=>?_)
  exact ag.lf (Bd t k) (rc (rc (rc (rc (rc (.cons (B3) .nil)))))) (RF t hS k hk ih)
theorem Sw (t:af) (hS:bk t) (k:Nat) (hk:k<t.aa.n) (ih:ag 20 0 (Go.V.cd [] (.a (kH t 0 1)) [bA t.ins,ew t.aa]) (ah 20 8) (mT t (k+1))):∀ j,j<=(t.aa.get k).frames.n->ag 20 0 (Go.V.cd [] (.a (kH t 0 1)) [bA t.ins,ew t.aa]) (ah 20 12) (rM t k j):=by
 have hB:(t.aa.get k).frames.n<=1000:=(hS.ex k hk).frames
 refine bc (λj hj zG=>?_) ?_
 .refine aF (X:=sE) (stop:=iM) (Ij _ _ t k j ?_)
  refine aq (λh0=>?_) (λh=>(dec_lt h hj).elim)
  exact ag.focus 4 j rfl hj (ag.lf (Bn t k j) (rc (rc (rc (rc (.cons (H6) (rc .nil)))))) (SF t hS k hk j hj zG))
 .refine aF (X:=sE) (stop:=iM) (Ij _ _ t k _ ?_)
  refine aq (λh=>cj h) (λh=>?_)
  exact ag.lf (rH t k 0) (rc (rc (rc (rc (.cons (B3) (rc .nil)))))) (S1 t hS k hk ih 0 (bn _))
theorem SV (t:af) (hS:bk t) (k:Nat) (hk:k<t.aa.n) (ih:ag 20 0 (Go.V.cd [] (.a (kH t 0 1)) [bA t.ins,ew t.aa]) (ah 20 8) (mT t (k+1))):ag 20 0 (Go.V.cd [] (.a (kH t 0 1)) [bA t.ins,ew t.aa]) (ah 20 11) (A1 t k):=by
 refine aF (X:=sE) (stop:=iM) (RA _ _ t k ?_)
 exact ag.lr (rM t k 0) (Sw t hS k hk ih 0 (bn _))
theorem XZ (t:af) (hS:bk t) (k:Nat) (hk:k<t.aa.n) (ih:ag 20 0 (Go.V.cd [] (.a (kH t 0 1)) [bA t.ins,ew t.aa]) (ah 20 8) (mT t (k+1))):ag 20 0 (Go.V.cd [] (.a (kH t 0 1)) [bA t.ins,ew t.aa]) (ah 20 9) (Hg t k):=by
 refine aF (X:=sE) (stop:=iM) (Wk _ _ t k ?_)
 refine ay (by grind [aP]) ?_
 refine ay (by simp_all) ?_
 refine ay (by simp_all) ?_
 refine ⟨L0 (t.aa.get k).frames (hS.ex k hk).frames,?_⟩
 refine ay (by simp_all) ?_
 refine ⟨Mw (t.aa.get k).aC (hS.ex k hk).aC,?_⟩
 refine ay (by simp_all) ?_
 refine ⟨L0 (t.aa.get k).frames (hS.ex k hk).frames,?_⟩
 refine ay (by simp_all) ?_
 refine ⟨Mw (t.aa.get k).aC (hS.ex k hk).aC,?_⟩
 refine ay (by simp_all) ?_
 exact ag.rename [0,1,2,3,5,6] rfl (ag.lf (A1 t k) (rc (rc (rc (rc (.cons (Tv) (.cons (Tv) .nil)))))) (SV t hS k hk ih))
theorem XH (t:af) (hS:bk t)   : ∀ k,k<=t.aa.n->ag 20 0 (Go.V.cd [] (.a (kH t 0 1)) [bA t.ins,ew t.aa]) (ah 20 8) (mT t  k):=by
 have hB:t.aa.n<=1000:=hS.aa
 refine bc (λk hk zG=>?_) ?_
 .refine aF (X:=sE) (stop:=iM) (L4 _ _ t  k ?_)
  refine aq (λh0=>?_) (λh=>(dec_lt h hk).elim)
  exact ag.focus 3 k rfl hk (ag.lf (Hg t k) (rc (rc (rc (.cons (H6) .nil)))) (XZ t hS k hk zG))
 .refine aF (X:=sE) (stop:=iM) (L4 _ _ t  _ ?_)
  refine aq (λh=>cj h) (λh=>?_)
  exact ⟨[2,3],.a (kH t 0 1),_,_,rfl,(rc (.cons (B3) .nil)),⟨2,aH rfl,aH rfl,rfl,rfl,bf.refl _,⟨rfl,⟨rfl,trivial⟩⟩⟩⟩
theorem Wm (t:af) (hS:bk t)   : ∀ k,k<=t.ins.n->ag 20 0 (Go.V.cd [] (.a (kH t 0 1)) [bA t.ins,ew t.aa]) (ah 20 3) (vJ t  k):=by
 have hB:t.ins.n<=1000:=hS.ins
 refine bc (λk hk zG=>?_) ?_
 .refine aF (X:=sE) (stop:=iM) (Nn _ _ t  k ?_)
  refine aq (λh0=>?_) (λh=>(dec_lt h hk).elim)
  exact ag.focus 2 k rfl hk (ag.lf (FH t k) (rc (rc (.cons (H6) (rc .nil)))) (X5 t hS k hk zG))
 .refine aF (X:=sE) (stop:=iM) (Nn _ _ t  _ ?_)
  refine aq (λh=>cj h) (λh=>?_)
  exact ag.lf (mT t 0) (rc (rc (.cons (B3) (.cons (Tv) .nil)))) (XH t hS 0 (bn _))
theorem WG (t:af) (hS:bk t):ag 20 0 (Go.V.cd [] (.a (kH t 0 1)) [bA t.ins,ew t.aa]) (ah 20 2) (FZ t):=by
 refine aF (X:=sE) (stop:=iM) (VK _ _ t ?_)
 exact ag.lr (vJ t 0) (Wm t hS 0 (bn _))
theorem Uj (t:af) (hS:bk t):LC 20 [bH t] [] (.a (kH t 0 1)) [bA t.ins,ew t.aa]:=by
 refine cY au6 (aH (by kernel_rfl)) (cU (X:=sE) (stop:=iM) (au7 _ _ t ?_))
 refine ⟨PO t.ins hS.ins,?_⟩
 refine ay (by exact gu _) ?_
 refine ⟨LR t.aa hS.aa,?_⟩
 refine ay (by exact gu _) ?_
 refine ⟨PO t.ins hS.ins,?_⟩
 refine ay (by exact gu _) ?_
 refine ⟨LR t.aa hS.aa,?_⟩
 refine ay (by exact gu _) ?_
 exact ag.lf (FZ t) (rc (rc (.cons (Tv) (rc .nil)))) (WG t hS)
open Go Go.V
section
def XR:gr:={ F:=yg }
def sw (a b v:Int):Int:=bif v==a then b else v
def nz (m:Nat) (a b:Int) (x:ak):ak:={ x with a:=bif Nat.ble 1 m then sw a b x.a else x.a,b:=bif Nat.ble 2 m then sw a b x.b else x.b,c:=bif Nat.ble 3 m then sw a b x.c else x.c }
def F0 (s:Sq Int) (j:Nat) (v:Int):Sq Int:=⟨s.n,λi=>bif Nat.beq i j then v else s.get i⟩
def nc (a b:Int) (s:Sq Int) (k:Nat):Sq Int:=⟨s.n,λi=>bif Nat.blt i k then sw a b (s.get i) else s.get i⟩
def MV (s1:Sq Int):gr:={ F:=ext yg [(67,λ_ _=>(.t [],[(0,pc s1)],[]))],S:=yH }
def bx (v:Int):ae:=.box [.im (iI v)]
def vr (n k:Nat) (g:Nat->Nat->O) (x:ak):ae:=.bL 40 14 n g (some (k,kI (bo x) 14 0))
def Yu (n k:Nat) (g:Nat->Nat->O) (x:dh):ae:=.bL 93 4 n g (some (k,kI (fo x) 4 0))
end
def nj:Nat->Bool:=cD
theorem yQ:Fn 67:={}
theorem Re (L:LP) (QE:D->List ae->Prop) (n k:Nat) (g:Nat->Nat->O) (x:ak) (a b:Int) (h:QE (.t []) [(.row 116 1 3 [(.rt 3 k 1),(.rt 3 k 2),(.rt 3 k 3)]),(.box [(ci a)]),(.box [(ci b)]),(.bL 40 14 n (g) (.some (k,[(.c (ci x.1)),(.c (ci x.2)),(.c (ci x.3)),(.c (ci x.4)),(.c (ci x.5)),(.o (.ar 3 1 x.6.1 (λi=>bF (x.6.2 i)))),(.c (ci x.7.1)),(.c (ci x.7.2)),(.c (.im (.v (.string x.7.3)))),(.c (.im (.sl 1 x.8.1 (λi=>dF (x.8.2 i))))),(.c (ci x.9.1)),(.c (ci x.9.2)),(.c (ci x.10)),(.c (.im (.v (.bool x.11))))])))]):fG XR 67 nj L QE [.c (.sa 0 0),.c (.rt 1 0 0),.c (.rt 2 0 0)] [.row 116 1 3 [.rt 3 k 1,.rt 3 k 2,.rt 3 k 3],bx a,bx b,vr n k g x]:=km h
theorem Co {i k:Nat} (h:i≠k):Nat.beq i k=false:=by
 grind [Nat.eq_of_beq_eq_true]
theorem RP (s:Sq Int) (j:Nat) (v:Int):∀ i,i<s.n->∀ c,c<1->dK (GM (λi=>bF (s.get i)) j 0 [iI v] i c) (bF ((F0 s j v).get i) c):=by
 intro i _ c hc
 have hc:c=0:=by omega
 subst hc
 show dK (Bool.rec (bF (s.get i) 0) (iI v) (Nat.beq i j&&_)) (bF (bif Nat.beq i j then v else s.get i) 0)
 cases Nat.beq i j with
 | true=>exact dK.refl _
 | false=>exact dK.refl _
theorem PF (s:Sq Int) (j:Nat) (v:Int) (h:v=s.get j):∀ i,i<s.n->∀ c,c<1->dK (bF (s.get i) c) (bF ((F0 s j v).get i) c):=by
 intro i _ c hc
 show dK (bF (s.get i) c) (bF (bif Nat.beq i j then v else s.get i) c)
 grind [Nat.eq_of_beq_eq_true,dK.refl]
theorem tl {a b v:Int} (h:(v==a)=true):sw a b v=b:=by unfold sw; rw [h]; rfl
theorem td {a b v:Int} (h:(v==a)=false):sw a b v=v:=by unfold sw; rw [h]; rfl
theorem On (n k:Nat) (g:Nat->Nat->O) (x:ak) (a b:Int) (hk:k<n):LC 67 [.c (.sa 0 0),.c (.rt 1 0 0),.c (.rt 2 0 0)] [.row 116 1 3 [.rt 3 k 1,.rt 3 k 2,.rt 3 k 3],bx a,bx b,vr n k g x] (.t []) [.row 116 1 3 [.rt 3 k 1,.rt 3 k 2,.rt 3 k 3],bx a,bx b,vr n k g (nz 0 a b x)]:=by
 refine cY yQ (aH (by kernel_rfl)) (cU (X:=XR) (stop:=nj) (Re _ _ n k g x a b ?_))
 have e:nz 0 a b x=⟨x.op,x.a,x.b,x.c,x.n,x.args,x.k,x.names,x.place,x.exit,x.once⟩:=by rfl
 exact ⟨[0,1,2,3],.t [],_,_,rfl,(rc (rc (rc (.cons (by rw [e]; exact bZ.refl _) .nil)))),⟨4,aH rfl,aH rfl,rfl,rfl,bf.refl _,⟨.inl (.inl rfl),⟨.inl (.inl rfl),⟨.inl (.inl rfl),⟨.inr rfl,trivial⟩⟩⟩⟩⟩⟩
abbrev O5 (aj:D->List ae->Prop) (aA:Nat) (aB aT:Int) (bp:Nat) (bP:Nat->Nat->O) (bU:ak):Prop:=aj (.t []) [(.row 116 1 3 [(.rt 3 aA 1),(.rt 3 aA 2),(.rt 3 aA 3)]),(.box [(ci aB)]),(.box [(ci aT)]),(.bL 40 14 bp (bP) (.some (aA,[(.c (ci bU.1)),(.c (ci aT)),(.c (ci bU.3)),(.c (ci bU.4)),(.c (ci bU.5)),(.o (.ar 3 1 bU.6.1 (λi=>bF (bU.6.2 i)))),(.c (ci bU.7.1)),(.c (ci bU.7.2)),(.c (.im (.v (.string bU.7.3)))),(.c (.im (.sl 1 bU.8.1 (λi=>dF (bU.8.2 i))))),(.c (ci bU.9.1)),(.c (ci bU.9.2)),(.c (ci bU.10)),(.c (.im (.v (.bool bU.11))))])))]
abbrev Nz (aj:D->List ae->Prop) (aA:Nat) (aB aT:Int) (bp:Nat) (bP:Nat->Nat->O) (bU:ak):Prop:=aj (.t []) [(.row 116 1 3 [(.rt 3 aA 1),(.rt 3 aA 2),(.rt 3 aA 3)]),(.box [(ci aB)]),(.box [(ci aT)]),(.bL 40 14 bp (bP) (.some (aA,[(.c (ci bU.1)),(.c (ci bU.2)),(.c (ci bU.3)),(.c (ci bU.4)),(.c (ci bU.5)),(.o (.ar 3 1 bU.6.1 (λi=>bF (bU.6.2 i)))),(.c (ci bU.7.1)),(.c (ci bU.7.2)),(.c (.im (.v (.string bU.7.3)))),(.c (.im (.sl 1 bU.8.1 (λi=>dF (bU.8.2 i))))),(.c (ci bU.9.1)),(.c (ci bU.9.2)),(.c (ci bU.10)),(.c (.im (.v (.bool bU.11))))])))]
theorem Tp (L:LP) (QE:D->List ae->Prop) (n k:Nat) (g:Nat->Nat->O) (x:ak) (a b:Int) (h:nd (k.blt n) (nd (k.beq k) (br (x.2==a) (nd (k.beq k) (O5 QE k a b n g x)) (Nz QE k a b n g x)))):fG XR 67 nj L QE [.c (.sa 0 1),.c (.rt 1 0 0),.c (.rt 2 0 0)] [.row 116 1 3 [.rt 3 k 1,.rt 3 k 2,.rt 3 k 3],bx a,bx b,vr n k g x]:=km h
theorem Pl (n k:Nat) (g:Nat->Nat->O) (x:ak) (a b:Int) (hk:k<n):LC 67 [.c (.sa 0 1),.c (.rt 1 0 0),.c (.rt 2 0 0)] [.row 116 1 3 [.rt 3 k 1,.rt 3 k 2,.rt 3 k 3],bx a,bx b,vr n k g x] (.t []) [.row 116 1 3 [.rt 3 k 1,.rt 3 k 2,.rt 3 k 3],bx a,bx b,vr n k g (nz 1 a b x)]:=by
 refine cY yQ (aH (by kernel_rfl)) (cU (X:=XR) (stop:=nj) (Tp _ _ n k g x a b ?_))
 refine ay (by simp_all) ?_
 refine ay (by simp_all) ?_
 refine aq (λh0=>?_) (λh0=>?_)
 .refine ay (by simp_all) ?_
  have e:nz 1 a b x=⟨x.op,b,x.b,x.c,x.n,x.args,x.k,x.names,x.place,x.exit,x.once⟩:=by show (⟨x.op,sw a b x.a,x.b,x.c,x.n,x.args,x.k,x.names,x.place,x.exit,x.once⟩:ak)=_; rw [tl (show (x.a==a)=true from h0)]; try rfl
  exact ⟨[0,1,2,3],.t [],_,_,rfl,(rc (rc (rc (.cons (by rw [e]; exact bZ.refl _) .nil)))),⟨4,aH rfl,aH rfl,rfl,rfl,bf.refl _,⟨.inl (.inl rfl),⟨.inl (.inl rfl),⟨.inl (.inl rfl),⟨.inr rfl,trivial⟩⟩⟩⟩⟩⟩
 .have e:nz 1 a b x=⟨x.op,x.a,x.b,x.c,x.n,x.args,x.k,x.names,x.place,x.exit,x.once⟩:=by show (⟨x.op,sw a b x.a,x.b,x.c,x.n,x.args,x.k,x.names,x.place,x.exit,x.once⟩:ak)=_; rw [td (show (x.a==a)=false from h0)]; try rfl
  exact ⟨[0,1,2,3],.t [],_,_,rfl,(rc (rc (rc (.cons (by rw [e]; exact bZ.refl _) .nil)))),⟨4,aH rfl,aH rfl,rfl,rfl,bf.refl _,⟨.inl (.inl rfl),⟨.inl (.inl rfl),⟨.inl (.inl rfl),⟨.inr rfl,trivial⟩⟩⟩⟩⟩⟩
abbrev Up (aj:D->List ae->Prop) (aA:Nat) (aB aT:Int) (bp:Nat) (bP:Nat->Nat->O) (bU:ak):Prop:=aj (.t []) [(.row 116 1 3 [(.rt 3 aA 1),(.rt 3 aA 2),(.rt 3 aA 3)]),(.box [(ci aB)]),(.box [(ci aT)]),(.bL 40 14 bp (bP) (.some (aA,[(.c (ci bU.1)),(.c (ci aT)),(.c (ci aT)),(.c (ci bU.4)),(.c (ci bU.5)),(.o (.ar 3 1 bU.6.1 (λi=>bF (bU.6.2 i)))),(.c (ci bU.7.1)),(.c (ci bU.7.2)),(.c (.im (.v (.string bU.7.3)))),(.c (.im (.sl 1 bU.8.1 (λi=>dF (bU.8.2 i))))),(.c (ci bU.9.1)),(.c (ci bU.9.2)),(.c (ci bU.10)),(.c (.im (.v (.bool bU.11))))])))]
abbrev Uh (aj:D->List ae->Prop) (aA:Nat) (aB aT:Int) (bp:Nat) (bP:Nat->Nat->O) (bU:ak):Prop:=aj (.t []) [(.row 116 1 3 [(.rt 3 aA 1),(.rt 3 aA 2),(.rt 3 aA 3)]),(.box [(ci aB)]),(.box [(ci aT)]),(.bL 40 14 bp (bP) (.some (aA,[(.c (ci bU.1)),(.c (ci bU.2)),(.c (ci aT)),(.c (ci bU.4)),(.c (ci bU.5)),(.o (.ar 3 1 bU.6.1 (λi=>bF (bU.6.2 i)))),(.c (ci bU.7.1)),(.c (ci bU.7.2)),(.c (.im (.v (.string bU.7.3)))),(.c (.im (.sl 1 bU.8.1 (λi=>dF (bU.8.2 i))))),(.c (ci bU.9.1)),(.c (ci bU.9.2)),(.c (ci bU.10)),(.c (.im (.v (.bool bU.11))))])))]
theorem S0 (L:LP) (QE:D->List ae->Prop) (n k:Nat) (g:Nat->Nat->O) (x:ak) (a b:Int) (h:nd (k.blt n) (nd (k.beq k) (br (x.2==a) (nd (k.beq k) (nd (k.blt n) (nd (k.beq k) (br (x.3==a) (nd (k.beq k) (Up QE k a b n g x)) (O5 QE k a b n g x))))) (nd (k.blt n) (nd (k.beq k) (br (x.3==a) (nd (k.beq k) (Uh QE k a b n g x)) (Nz QE k a b n g x))))))):fG XR 67 nj L QE [.c (.sa 0 2),.c (.rt 1 0 0),.c (.rt 2 0 0)] [.row 116 1 3 [.rt 3 k 1,.rt 3 k 2,.rt 3 k 3],bx a,bx b,vr n k g x]:=km h
theorem M9 (n k:Nat) (g:Nat->Nat->O) (x:ak) (a b:Int) (hk:k<n):LC 67 [.c (.sa 0 2),.c (.rt 1 0 0),.c (.rt 2 0 0)] [.row 116 1 3 [.rt 3 k 1,.rt 3 k 2,.rt 3 k 3],bx a,bx b,vr n k g x] (.t []) [.row 116 1 3 [.rt 3 k 1,.rt 3 k 2,.rt 3 k 3],bx a,bx b,vr n k g (nz 2 a b x)]:=by
 refine cY yQ (aH (by kernel_rfl)) (cU (X:=XR) (stop:=nj) (S0 _ _ n k g x a b ?_))
 refine ay (by simp_all) ?_
 refine ay (by simp_all) ?_
 refine aq (λh0=>?_) (λh0=>?_)
 .refine ay (by simp_all) ?_
  refine ay (by simp_all) ?_
  refine ay (by simp_all) ?_
  refine aq (λh1=>?_) (λh1=>?_)
  .refine ay (by simp_all) ?_
   have e:nz 2 a b x=⟨x.op,b,b,x.c,x.n,x.args,x.k,x.names,x.place,x.exit,x.once⟩:=by show (⟨x.op,sw a b x.a,sw a b x.b,x.c,x.n,x.args,x.k,x.names,x.place,x.exit,x.once⟩:ak)=_; grind [tl]
   exact ⟨[0,1,2,3],.t [],_,_,rfl,(rc (rc (rc (.cons (by rw [e]; exact bZ.refl _) .nil)))),⟨4,aH rfl,aH rfl,rfl,rfl,bf.refl _,⟨.inl (.inl rfl),⟨.inl (.inl rfl),⟨.inl (.inl rfl),⟨.inr rfl,trivial⟩⟩⟩⟩⟩⟩
  .have e:nz 2 a b x=⟨x.op,b,x.b,x.c,x.n,x.args,x.k,x.names,x.place,x.exit,x.once⟩:=by show (⟨x.op,sw a b x.a,sw a b x.b,x.c,x.n,x.args,x.k,x.names,x.place,x.exit,x.once⟩:ak)=_; grind [tl,td]
   exact ⟨[0,1,2,3],.t [],_,_,rfl,(rc (rc (rc (.cons (by rw [e]; exact bZ.refl _) .nil)))),⟨4,aH rfl,aH rfl,rfl,rfl,bf.refl _,⟨.inl (.inl rfl),⟨.inl (.inl rfl),⟨.inl (.inl rfl),⟨.inr rfl,trivial⟩⟩⟩⟩⟩⟩
 .refine ay (by simp_all) ?_
  refine ay (by simp_all) ?_
  refine aq (λh1=>?_) (λh1=>?_)
  .refine ay (by simp_all) ?_
   have e:nz 2 a b x=⟨x.op,x.a,b,x.c,x.n,x.args,x.k,x.names,x.place,x.exit,x.once⟩:=by show (⟨x.op,sw a b x.a,sw a b x.b,x.c,x.n,x.args,x.k,x.names,x.place,x.exit,x.once⟩:ak)=_; grind [td,tl]
   exact ⟨[0,1,2,3],.t [],_,_,rfl,(rc (rc (rc (.cons (by rw [e]; exact bZ.refl _) .nil)))),⟨4,aH rfl,aH rfl,rfl,rfl,bf.refl _,⟨.inl (.inl rfl),⟨.inl (.inl rfl),⟨.inl (.inl rfl),⟨.inr rfl,trivial⟩⟩⟩⟩⟩⟩
  .have e:nz 2 a b x=⟨x.op,x.a,x.b,x.c,x.n,x.args,x.k,x.names,x.place,x.exit,x.once⟩:=by show (⟨x.op,sw a b x.a,sw a b x.b,x.c,x.n,x.args,x.k,x.names,x.place,x.exit,x.once⟩:ak)=_; grind [td]
   exact ⟨[0,1,2,3],.t [],_,_,rfl,(rc (rc (rc (.cons (by rw [e]; exact bZ.refl _) .nil)))),⟨4,aH rfl,aH rfl,rfl,rfl,bf.refl _,⟨.inl (.inl rfl),⟨.inl (.inl rfl),⟨.inl (.inl rfl),⟨.inr rfl,trivial⟩⟩⟩⟩⟩⟩
theorem TR (L:LP) (QE:D->List ae->Prop) (n k:Nat) (g:Nat->Nat->O) (x:ak) (a b:Int) (h:nd (k.blt n) (nd (k.beq k) (br (x.2==a) (nd (k.beq k) (nd (k.blt n) (nd (k.beq k) (br (x.3==a) (nd (k.beq k) (nd (k.blt n) (nd (k.beq k) (br (x.4==a) (nd (k.beq k) (QE (.t []) [(.row 116 1 3 [(.rt 3 k 1),(.rt 3 k 2),(.rt 3 k 3)]),(.box [(ci a)]),(.box [(ci b)]),(.bL 40 14 n (g) (.some (k,[(.c (ci x.1)),(.c (ci b)),(.c (ci b)),(.c (ci b)),(.c (ci x.5)),(.o (.ar 3 1 x.6.1 (λi=>bF (x.6.2 i)))),(.c (ci x.7.1)),(.c (ci x.7.2)),(.c (.im (.v (.string x.7.3)))),(.c (.im (.sl 1 x.8.1 (λi=>dF (x.8.2 i))))),(.c (ci x.9.1)),(.c (ci x.9.2)),(.c (ci x.10)),(.c (.im (.v (.bool x.11))))])))])) (Up QE k a b n g x))))) (nd (k.blt n) (nd (k.beq k) (br (x.4==a) (nd (k.beq k) (QE (.t []) [(.row 116 1 3 [(.rt 3 k 1),(.rt 3 k 2),(.rt 3 k 3)]),(.box [(ci a)]),(.box [(ci b)]),(.bL 40 14 n (g) (.some (k,[(.c (ci x.1)),(.c (ci b)),(.c (ci x.3)),(.c (ci b)),(.c (ci x.5)),(.o (.ar 3 1 x.6.1 (λi=>bF (x.6.2 i)))),(.c (ci x.7.1)),(.c (ci x.7.2)),(.c (.im (.v (.string x.7.3)))),(.c (.im (.sl 1 x.8.1 (λi=>dF (x.8.2 i))))),(.c (ci x.9.1)),(.c (ci x.9.2)),(.c (ci x.10)),(.c (.im (.v (.bool x.11))))])))])) (O5 QE k a b n g x)))))))) (nd (k.blt n) (nd (k.beq k) (br (x.3==a) (nd (k.beq k) (nd (k.blt n) (nd (k.beq k) (br (x.4==a) (nd (k.beq k) (QE (.t []) [(.row 116 1 3 [(.rt 3 k 1),(.rt 3 k 2),(.rt 3 k 3)]),(.box [(ci a)]),(.box [(ci b)]),(.bL 40 14 n (g) (.some (k,[(.c (ci x.1)),(.c (ci x.2)),(.c (ci b)),(.c (ci b)),(.c (ci x.5)),(.o (.ar 3 1 x.6.1 (λi=>bF (x.6.2 i)))),(.c (ci x.7.1)),(.c (ci x.7.2)),(.c (.im (.v (.string x.7.3)))),(.c (.im (.sl 1 x.8.1 (λi=>dF (x.8.2 i))))),(.c (ci x.9.1)),(.c (ci x.9.2)),(.c (ci x.10)),(.c (.im (.v (.bool x.11))))])))])) (Uh QE k a b n g x))))) (nd (k.blt n) (nd (k.beq k) (br (x.4==a) (nd (k.beq k) (QE (.t []) [(.row 116 1 3 [(.rt 3 k 1),(.rt 3 k 2),(.rt 3 k 3)]),(.box [(ci a)]),(.box [(ci b)]),(.bL 40 14 n (g) (.some (k,[(.c (ci x.1)),(.c (ci x.2)),(.c (ci x.3)),(.c (ci b)),(.c (ci x.5)),(.o (.ar 3 1 x.6.1 (λi=>bF (x.6.2 i)))),(.c (ci x.7.1)),(.c (ci x.7.2)),(.c (.im (.v (.string x.7.3)))),(.c (.im (.sl 1 x.8.1 (λi=>dF (x.8.2 i))))),(.c (ci x.9.1)),(.c (ci x.9.2)),(.c (ci x.10)),(.c (.im (.v (.bool x.11))))])))])) (Nz QE k a b n g x)))))))))):fG XR 67 nj L QE [.c (.sa 0 3),.c (.rt 1 0 0),.c (.rt 2 0 0)] [.row 116 1 3 [.rt 3 k 1,.rt 3 k 2,.rt 3 k 3],bx a,bx b,vr n k g x]:=km h
theorem Oj (n k:Nat) (g:Nat->Nat->O) (x:ak) (a b:Int) (hk:k<n):LC 67 [.c (.sa 0 3),.c (.rt 1 0 0),.c (.rt 2 0 0)] [.row 116 1 3 [.rt 3 k 1,.rt 3 k 2,.rt 3 k 3],bx a,bx b,vr n k g x] (.t []) [.row 116 1 3 [.rt 3 k 1,.rt 3 k 2,.rt 3 k 3],bx a,bx b,vr n k g (nz 3 a b x)]:=by
 refine cY yQ (aH (by kernel_rfl)) (cU (X:=XR) (stop:=nj) (TR _ _ n k g x a b ?_))
 refine ay (by simp_all) ?_
 refine ay (by simp_all) ?_
 refine aq (λh0=>?_) (λh0=>?_)
 .refine ay (by simp_all) ?_
  refine ay (by simp_all) ?_
  refine ay (by simp_all) ?_
  refine aq (λh1=>?_) (λh1=>?_)
  .refine ay (by simp_all) ?_
   refine ay (by simp_all) ?_
   refine ay (by simp_all) ?_
   refine aq (λh2=>?_) (λh2=>?_)
   .refine ay (by simp_all) ?_
    have e:nz 3 a b x=⟨x.op,b,b,b,x.n,x.args,x.k,x.names,x.place,x.exit,x.once⟩:=by show (⟨x.op,sw a b x.a,sw a b x.b,sw a b x.c,x.n,x.args,x.k,x.names,x.place,x.exit,x.once⟩:ak)=_; grind [tl]
    exact ⟨[0,1,2,3],.t [],_,_,rfl,(rc (rc (rc (.cons (by rw [e]; exact bZ.refl _) .nil)))),⟨4,aH rfl,aH rfl,rfl,rfl,bf.refl _,⟨.inl (.inl rfl),⟨.inl (.inl rfl),⟨.inl (.inl rfl),⟨.inr rfl,trivial⟩⟩⟩⟩⟩⟩
   .have e:nz 3 a b x=⟨x.op,b,b,x.c,x.n,x.args,x.k,x.names,x.place,x.exit,x.once⟩:=by show (⟨x.op,sw a b x.a,sw a b x.b,sw a b x.c,x.n,x.args,x.k,x.names,x.place,x.exit,x.once⟩:ak)=_; grind [tl,td]
    exact ⟨[0,1,2,3],.t [],_,_,rfl,(rc (rc (rc (.cons (by rw [e]; exact bZ.refl _) .nil)))),⟨4,aH rfl,aH rfl,rfl,rfl,bf.refl _,⟨.inl (.inl rfl),⟨.inl (.inl rfl),⟨.inl (.inl rfl),⟨.inr rfl,trivial⟩⟩⟩⟩⟩⟩
  .refine ay (by simp_all) ?_
   refine ay (by simp_all) ?_
   refine aq (λh2=>?_) (λh2=>?_)
   .refine ay (by simp_all) ?_
    have e:nz 3 a b x=⟨x.op,b,x.b,b,x.n,x.args,x.k,x.names,x.place,x.exit,x.once⟩:=by show (⟨x.op,sw a b x.a,sw a b x.b,sw a b x.c,x.n,x.args,x.k,x.names,x.place,x.exit,x.once⟩:ak)=_; grind [tl,td]
    exact ⟨[0,1,2,3],.t [],_,_,rfl,(rc (rc (rc (.cons (by rw [e]; exact bZ.refl _) .nil)))),⟨4,aH rfl,aH rfl,rfl,rfl,bf.refl _,⟨.inl (.inl rfl),⟨.inl (.inl rfl),⟨.inl (.inl rfl),⟨.inr rfl,trivial⟩⟩⟩⟩⟩⟩
   .have e:nz 3 a b x=⟨x.op,b,x.b,x.c,x.n,x.args,x.k,x.names,x.place,x.exit,x.once⟩:=by show (⟨x.op,sw a b x.a,sw a b x.b,sw a b x.c,x.n,x.args,x.k,x.names,x.place,x.exit,x.once⟩:ak)=_; grind [tl,td]
    exact ⟨[0,1,2,3],.t [],_,_,rfl,(rc (rc (rc (.cons (by rw [e]; exact bZ.refl _) .nil)))),⟨4,aH rfl,aH rfl,rfl,rfl,bf.refl _,⟨.inl (.inl rfl),⟨.inl (.inl rfl),⟨.inl (.inl rfl),⟨.inr rfl,trivial⟩⟩⟩⟩⟩⟩
 .refine ay (by simp_all) ?_
  refine ay (by simp_all) ?_
  refine aq (λh1=>?_) (λh1=>?_)
  .refine ay (by simp_all) ?_
   refine ay (by simp_all) ?_
   refine ay (by simp_all) ?_
   refine aq (λh2=>?_) (λh2=>?_)
   .refine ay (by simp_all) ?_
    have e:nz 3 a b x=⟨x.op,x.a,b,b,x.n,x.args,x.k,x.names,x.place,x.exit,x.once⟩:=by show (⟨x.op,sw a b x.a,sw a b x.b,sw a b x.c,x.n,x.args,x.k,x.names,x.place,x.exit,x.once⟩:ak)=_; grind [td,tl]
    exact ⟨[0,1,2,3],.t [],_,_,rfl,(rc (rc (rc (.cons (by rw [e]; exact bZ.refl _) .nil)))),⟨4,aH rfl,aH rfl,rfl,rfl,bf.refl _,⟨.inl (.inl rfl),⟨.inl (.inl rfl),⟨.inl (.inl rfl),⟨.inr rfl,trivial⟩⟩⟩⟩⟩⟩
   .have e:nz 3 a b x=⟨x.op,x.a,b,x.c,x.n,x.args,x.k,x.names,x.place,x.exit,x.once⟩:=by show (⟨x.op,sw a b x.a,sw a b x.b,sw a b x.c,x.n,x.args,x.k,x.names,x.place,x.exit,x.once⟩:ak)=_; grind [td,tl]
    exact ⟨[0,1,2,3],.t [],_,_,rfl,(rc (rc (rc (.cons (by rw [e]; exact bZ.refl _) .nil)))),⟨4,aH rfl,aH rfl,rfl,rfl,bf.refl _,⟨.inl (.inl rfl),⟨.inl (.inl rfl),⟨.inl (.inl rfl),⟨.inr rfl,trivial⟩⟩⟩⟩⟩⟩
  .refine ay (by simp_all) ?_
   refine ay (by simp_all) ?_
   refine aq (λh2=>?_) (λh2=>?_)
   .refine ay (by simp_all) ?_
    have e:nz 3 a b x=⟨x.op,x.a,x.b,b,x.n,x.args,x.k,x.names,x.place,x.exit,x.once⟩:=by show (⟨x.op,sw a b x.a,sw a b x.b,sw a b x.c,x.n,x.args,x.k,x.names,x.place,x.exit,x.once⟩:ak)=_; grind [td,tl]
    exact ⟨[0,1,2,3],.t [],_,_,rfl,(rc (rc (rc (.cons (by rw [e]; exact bZ.refl _) .nil)))),⟨4,aH rfl,aH rfl,rfl,rfl,bf.refl _,⟨.inl (.inl rfl),⟨.inl (.inl rfl),⟨.inl (.inl rfl),⟨.inr rfl,trivial⟩⟩⟩⟩⟩⟩
   .have e:nz 3 a b x=⟨x.op,x.a,x.b,x.c,x.n,x.args,x.k,x.names,x.place,x.exit,x.once⟩:=by show (⟨x.op,sw a b x.a,sw a b x.b,sw a b x.c,x.n,x.args,x.k,x.names,x.place,x.exit,x.once⟩:ak)=_; grind [td]
    exact ⟨[0,1,2,3],.t [],_,_,rfl,(rc (rc (rc (.cons (by rw [e]; exact bZ.refl _) .nil)))),⟨4,aH rfl,aH rfl,rfl,rfl,bf.refl _,⟨.inl (.inl rfl),⟨.inl (.inl rfl),⟨.inl (.inl rfl),⟨.inr rfl,trivial⟩⟩⟩⟩⟩⟩
theorem Yl (L:LP) (QE:D->List ae->Prop) (s:Sq Int) (j:Nat) (a b:Int) (h:nd (j.blt s.1) (br (s.2 j==a) (nd (j.blt s.1) (QE (.t []) [(.row 116 1 1 [(.rt 3 j 0)]),(.box [(ci a)]),(.box [(ci b)]),(.arr 3 1 s.1 (GM (λi=>bF (s.2 i)) j 0 [iI b]))])) (QE (.t []) [(.row 116 1 1 [(.rt 3 j 0)]),(.box [(ci a)]),(.box [(ci b)]),(.arr 3 1 s.1 (λi=>bF (s.2 i)))]))):fG XR 67 nj L QE [.c (.sa 0 1),.c (.rt 1 0 0),.c (.rt 2 0 0)] [.row 116 1 1 [.rt 3 j 0],bx a,bx b,pc s]:=km h
theorem Tq (s:Sq Int) (j:Nat) (a b:Int) (hj:j<s.n):LC 67 [.c (.sa 0 1),.c (.rt 1 0 0),.c (.rt 2 0 0)] [.row 116 1 1 [.rt 3 j 0],bx a,bx b,pc s] (.t []) [.row 116 1 1 [.rt 3 j 0],bx a,bx b,pc (F0 s j (sw a b (s.get j)))]:=by
 refine cY yQ (aH (by kernel_rfl)) (cU (X:=XR) (stop:=nj) (Yl _ _ s j a b ?_))
 refine ay (by exact da hj) ?_
 refine aq (λh0=>?_) (λh0=>?_)
 .refine ay (by exact da hj) ?_
  exact ⟨[0,1,2,3],.t [],_,_,rfl,(rc (rc (rc (.cons (by rw [tl h0]; exact bZ.arr (RP s j b)) .nil)))),⟨4,aH rfl,aH rfl,rfl,rfl,bf.refl _,⟨.inl (.inl rfl),⟨.inl (.inl rfl),⟨.inl (.inl rfl),⟨.inr rfl,trivial⟩⟩⟩⟩⟩⟩
 .exact ⟨[0,1,2,3],.t [],_,_,rfl,(rc (rc (rc (.cons (bZ.arr (PF s j _ (td h0))) .nil)))),⟨4,aH rfl,aH rfl,rfl,rfl,bf.refl _,⟨.inl (.inl rfl),⟨.inl (.inl rfl),⟨.inl (.inl rfl),⟨.inr rfl,trivial⟩⟩⟩⟩⟩⟩
theorem XG (L:LP) (QE:D->List ae->Prop) (n k:Nat) (g:Nat->Nat->O) (x:dh) (a b:Int) (h:nd (k.blt n) (nd (k.beq k) (br (x.1==a) (nd (k.beq k) (QE (.t []) [(.row 116 1 1 [(.rt 3 k 0)]),(.box [(ci a)]),(.box [(ci b)]),(.bL 93 4 n (g) (.some (k,[(.c (ci b)),(.c (ci x.2)),(.c (.im (.sl 1 x.3.1 (λi=>dF (x.3.2 i))))),(.o (.ar 3 1 x.4.1 (λi=>bF (x.4.2 i))))])))])) (QE (.t []) [(.row 116 1 1 [(.rt 3 k 0)]),(.box [(ci a)]),(.box [(ci b)]),(.bL 93 4 n (g) (.some (k,[(.c (ci x.1)),(.c (ci x.2)),(.c (.im (.sl 1 x.3.1 (λi=>dF (x.3.2 i))))),(.o (.ar 3 1 x.4.1 (λi=>bF (x.4.2 i))))])))])))):fG XR 67 nj L QE [.c (.sa 0 1),.c (.rt 1 0 0),.c (.rt 2 0 0)] [.row 116 1 1 [.rt 3 k 0],bx a,bx b,Yu n k g x]:=km h
theorem SW (n k:Nat) (g:Nat->Nat->O) (x:dh) (a b:Int) (hk:k<n):LC 67 [.c (.sa 0 1),.c (.rt 1 0 0),.c (.rt 2 0 0)] [.row 116 1 1 [.rt 3 k 0],bx a,bx b,Yu n k g x] (.t []) [.row 116 1 1 [.rt 3 k 0],bx a,bx b,Yu n k g { x with value:=sw a b x.value }]:=by
 refine cY yQ (aH (by kernel_rfl)) (cU (X:=XR) (stop:=nj) (XG _ _ n k g x a b ?_))
 refine ay (by simp_all) ?_
 refine ay (by simp_all) ?_
 refine aq (λh0=>?_) (λh0=>?_)
 .refine ay (by simp_all) ?_
  have e:({ x with value:=sw a b x.value }:dh)=⟨b,x.cls,x.names,x.items⟩:=by grind [tl]
  exact ⟨[0,1,2,3],.t [],_,_,rfl,(rc (rc (rc (.cons (by rw [e]; exact bZ.refl _) .nil)))),⟨4,aH rfl,aH rfl,rfl,rfl,bf.refl _,⟨.inl (.inl rfl),⟨.inl (.inl rfl),⟨.inl (.inl rfl),⟨.inr rfl,trivial⟩⟩⟩⟩⟩⟩
 .have e:({ x with value:=sw a b x.value }:dh)=⟨x.value,x.cls,x.names,x.items⟩:=by grind [td]
  exact ⟨[0,1,2,3],.t [],_,_,rfl,(rc (rc (rc (.cons (by rw [e]; exact bZ.refl _) .nil)))),⟨4,aH rfl,aH rfl,rfl,rfl,bf.refl _,⟨.inl (.inl rfl),⟨.inl (.inl rfl),⟨.inl (.inl rfl),⟨.inr rfl,trivial⟩⟩⟩⟩⟩⟩
def CW:Nat->Bool:=λi=>Nat.beq i 1
theorem Z8:Fn 68:={}
theorem ac5 (L:LP) (QE:D->List ae->Prop) (s s1:Sq Int) (a b:Int) (h:L (ah 68 1) ⟨[(0,((.c (.sa 0 s.1)),[])),(1,((.c (.rt 1 0 0)),[])),(5,((qB s),[])),(6,((int 0),[]))],[(ij s),(.box [(.fh 67 [2,3])]),(.box [(ci a)]),(.box [(ci b)])],[]⟩):fG (MV s1) 68 CW L QE [.c (.sa 0 s.n),.c (.rt 1 0 0)] [pc s,.box [.fh 67 [2,3]],bx a,bx b]:=km h
def vC (s s1:Sq Int) (a b:Int) (k:Nat):VS:=⟨[(0,(.c (.sa 0 s.1)),[]),(1,(.c (.rt 1 0 0)),[]),(5,(qB s),[]),(6,int k,[])],[(ij s),(.box [(.fh 67 [2,3])]),(.box [(ci a)]),(.box [(ci b)])],[]⟩
abbrev Dc (aj:Sq Int) (aA aB:Int) (aT:Nat):List ae:=[(ij aj),(.box [(.fh 67 [2,3])]),(.box [(ci aA)]),(.box [(ci aB)]),(.row 116 1 1 [(.rt 0 aT 0)]),.dead]
theorem Jf (L:LP) (QE:D->List ae->Prop) (s s1:Sq Int) (a b:Int) (k:Nat) (h:br (decide ((↑k:Int)<(↑s.1:Int))) (nd (dm (↑k:Int) s.1) ((LC 67 [(.c (.sa 4 1)),(.c (.rt 2 0 0)),(.c (.rt 3 0 0))] (Dc s a b k) (.t []) (Dc s1 a b k)/\nd (dm (↑k:Int) s.1) ((LC 67 [(.c (.sa 4 1)),(.c (.rt 2 0 0)),(.c (.rt 3 0 0))] (Dc s a b k) (.t []) (Dc s1 a b k)/\L (ah 68 1) ⟨[(0,((.c (.sa 0 s.1)),[])),(1,((.c (.rt 1 0 0)),[])),(5,((qB s),[])),(6,((int (IntKind.i64.wrap ((↑k:Int)+1))),[]))],(Dc s1 a b k),[]⟩))))) (QE (.t []) [(.arr 3 1 s.1 (λi=>bF (s.2 i))),(.box [(.fh 67 [2,3])]),(.box [(ci a)]),(.box [(ci b)])])):cW (MV s1) 68 CW L QE 1 (vC s s1 a b k):=km h
theorem Nl (a b:Int) (s:Sq Int) (k:Nat):∀ i,i<s.n->∀ c,c<1->dK (bF ((F0 (nc a b s k) k (sw a b ((nc a b s k).get k))).get i) c) (bF ((nc a b s (k+1)).get i) c):=by
 intro i _ c _
 show dK (bF (bif Nat.beq i k then sw a b (bif Nat.blt k k then sw a b (s.get k) else s.get k) else bif Nat.blt i k then sw a b (s.get i) else s.get i) c) (bF (bif Nat.blt i (k+1) then sw a b (s.get i) else s.get i) c)
 grind [Nat.beq_refl,dK.refl,Co,Nat.blt_eq]
theorem ZF (a b:Int) (s:Sq Int) (hs:s.n<=1000):∀ k,k<=s.n->ag 68 4 (Go.V.cd [pc s,.box [.fh 67 [2,3]],bx a,bx b] (.t []) [pc (nc a b s s.n),.box [.fh 67 [2,3]],bx a,bx b]) (ah 68 1) (vC (nc a b s k) (nc a b s k) a b k):=by
 refine bc (λk hk ih=>?_) ?_
 .have hc:LC 67 [.c (.sa 4 1),.c (.rt 2 0 0),.c (.rt 3 0 0)] [pc (nc a b s k),.box [.fh 67 [2,3]],bx a,bx b,.row 116 1 1 [.rt 0 k 0],.dead] (.t []) [pc (F0 (nc a b s k) k (sw a b ((nc a b s k).get k))),.box [.fh 67 [2,3]],bx a,bx b,.row 116 1 1 [.rt 0 k 0],.dead]:=
   bB.jm (Tq (nc a b s k) k a b hk) [4,2,3,0] _ rfl ⟨rfl,aH rfl,rfl,aH rfl,rfl,aH rfl,rfl,aH rfl,rfl⟩
  refine aF (X:=MV (F0 (nc a b s k) k (sw a b ((nc a b s k).get k)))) (stop:=CW) (Jf _ _ (nc a b s k) (F0 (nc a b s k) k (sw a b ((nc a b s k).get k))) a b k ?_)
  refine aq (λh=>?_) (λh=>(dec_lt h hk).elim)
  refine ay (aP hk) ⟨hc,ay (aP hk) ⟨hc,?_⟩⟩
  rw [dy (show k<(nc a b s k).1 from hk) (by show s.n<=maxLen; unfold maxLen; omega)]
  exact ag.rename [0,1,2,3] rfl (ag.lf (vC (nc a b s (k+1)) (nc a b s (k+1)) a b (k+1)) (.cons (bZ.arr (Nl a b s k)) (rc (rc (rc .nil)))) ih)
 .refine aF (X:=MV (nc a b s s.n)) (stop:=CW) (Jf _ _ (nc a b s s.n) (nc a b s s.n) a b _ ?_)
  refine aq (λh=>cj h) (λh=>?_)
  exact ⟨[0,1,2,3],.t [],_,_,rfl,(rc (rc (rc (rc .nil)))),⟨4,aH rfl,aH rfl,rfl,rfl,bf.refl _,⟨.inr rfl,⟨.inl (.inl rfl),⟨.inl (.inl rfl),⟨.inl (.inl rfl),trivial⟩⟩⟩⟩⟩⟩
theorem Hl (a b:Int) (s:Sq Int) (hs:s.n<=1000):LC 68 [.c (.sa 0 s.n),.c (.rt 1 0 0)] [pc s,.box [.fh 67 [2,3]],bx a,bx b] (.t []) [pc (nc a b s s.n),.box [.fh 67 [2,3]],bx a,bx b]:=by
 refine cY Z8 (aH (by kernel_rfl)) (cU (X:=MV s) (stop:=CW) (ac5 _ _ s s a b ?_))
 exact ag.lf (vC (nc a b s 0) (nc a b s 0) a b 0) (.cons (bZ.arr λi _ c _=>dK.refl _) (rc (rc (rc .nil)))) (ZF a b s hs 0 (bn _))
open Go Go.V
section
def XA (s1:Sq Int):gr:={ F:=ext yg [(68,λ_ _=>(.t [],[(6,pc s1)],[]))],S:=yH }
def XB (s1:Sq Int):gr:={ F:=ext yg [(68,λ_ _=>(.t [],[(9,pc s1)],[]))],S:=yH }
def X7 (c:Int) (r:ae):gr:={ F:=ext yg [(63,λ_ _=>(int c,[],[])),(67,λ_ _=>(.t [],[(0,r)],[]))],S:=yH }
def X22 (r:ae):gr:={ F:=ext yg [(67,λ_ _=>(.t [],[(7,r)],[]))],S:=yH }
def aN {α:Type} (f:α->α) (s:Sq α) (k:Nat):Sq α:=⟨s.n,λi=>bif Nat.blt i k then f (s.get i) else s.get i⟩
def fB (a b:Int) (x:ak):ak:={ nz (fV x.op).toNat a b x with args:=nc a b x.args x.args.n }
def K5 (a b:Int) (x:cA):cA:={ x with vars:=nc a b x.vars x.vars.n }
def Hw (a b:Int) (x:dh):dh:={ x with value:=sw a b x.value,items:=nc a b x.items x.items.n }
def gx (a b:Int) (x:ai):ai:={ x with frames:=aN (K5 a b) x.frames x.frames.n,aC:=aN (Hw a b) x.aC x.aC.n }
def QW (t:af):ae:=.box [.im (iI t.place.fn),.im (iI t.place.line),.sa 0 t.ins.n,.sa 1 t.aa.n]
def QY:ae:=.box [.fh 67 [3,4]]
def foA (n k:Nat) (g:Nat->Nat->O) (x:ak) (p:Nat):ae:=.bL 40 14 n g (some (k,setAt (kI (bo x) 14 0) 5 (.c (.sa p x.args.n))))
def KC (n k:Nat) (g:Nat->Nat->O) (x:ai):ae:=.bL 68 3 n g (some (k,setAt (setAt (kI (bj x) 3 0) 0 (.c (.sa 6 x.frames.n))) 1 (.c (.sa 7 x.aC.n))))
def as3 (n k:Nat) (g:Nat->Nat->O) (x:cA) (p:Nat):ae:=.bL 64 3 n g (some (k,setAt (kI (fx x) 3 0) 2 (.c (.sa p x.vars.n))))
def av7 (n k:Nat) (g:Nat->Nat->O) (x:dh) (p:Nat):ae:=.bL 93 4 n g (some (k,setAt (kI (fo x) 4 0) 3 (.c (.sa p x.items.n))))
end
def ed:Nat->Bool:=λi=>Nat.beq i 4||Nat.beq i 7||Nat.beq i 8||Nat.beq i 11||Nat.beq i 12||Nat.beq i 14||Nat.beq i 15||Nat.beq i 19||Nat.beq i 20||Nat.beq i 22
theorem Zx:Fn 58:={}
abbrev l1:gn:=(6,((.c (.rt 5 0 0)),[]))
abbrev lK:gn:=(7,((.c (.fh 68 [5])),[]))
abbrev pk (aj:af):ae:=.bL 68 3 aj.3.1 (λi=>bj (aj.3.2 i)) .none
abbrev fM (aj:af):ae:=.box [(ci aj.1.1),(ci aj.1.2),(.sa 0 aj.2.1),(.sa 1 aj.3.1)]
abbrev il:ae:=.box [(.fh 67 [3,4])]
theorem af3 (L:LP) (QE:D->List ae->Prop) (t:af) (a b:Int) (s1:Sq Int) (h:L (ah 58 4) ⟨[ko,l1,lK,(20,((gX t),[])),(21,((int 0),[]))],[(ma t),(pk t),(fM t),(.box [(ci a)]),(.box [(ci b)]),il],[]⟩):fG (XA s1) 58 ed L QE [.a [.im (iI t.place.fn),.im (iI t.place.line),.sa 0 t.ins.n,.sa 1 t.aa.n],int a,int b] [bA t.ins,ew t.aa]:=km h
abbrev qv:gn:=(6,.c (.rt 5 0 0),[])
abbrev qc:gn:=(7,.c (.fh 68 [5]),[])
def jR (t:af) (a b:Int) (s1:Sq Int) (k:Nat):VS:=⟨[mr,qv,qc,(20,int t.ins.n,[]),(21,int k,[])],[bA (aN (fB a b) t.ins k),ew t.aa,QW t,bx a,bx b,QY],[]⟩
abbrev Dp (aj:Nat) (aA:af):aL:=[ko,l1,lK,(9,((.c (.rt 0 aj 0)),[])),(20,((gX aA),[])),(21,((gS aj),[]))]
abbrev Mj (aj:af) (aA aB:Int) (aT:Nat):List ae:=[(.bL 40 14 aj.2.1 (λi=>bo ((aN (fB aA aB) aj.2 aT).get i)) .none),(pk aj),(fM aj),(.box [(ci aA)]),(.box [(ci aB)]),il]
abbrev ll (aj:af):gn:=(54,((.c (.sa 1 aj.3.1)),[]))
abbrev k9 (aj:af):gn:=(55,((PN aj),[]))
theorem JF (L:LP) (QE:D->List ae->Prop) (t:af) (a b:Int) (s1:Sq Int) (k:Nat) (h:br (decide ((↑k:Int)<(↑t.2.1:Int))) (nd (dm (↑k:Int) t.2.1) (L (ah 58 7) ⟨(Dp k t),(Mj t a b k),[]⟩)) (L (ah 58 11) ⟨[l1,lK,(ll t),(k9 t),(56,((int 0),[]))],(Mj t a b k),[]⟩)):cW (XA s1) 58 ed L QE 4 (jR t a b s1 k):=km h
abbrev UB (aj:Nat) (aA:af):aL:=[mr,qv,qc,(9,.c (.rt 0 aj 0),[]),(20,int aA.ins.n,[]),(21,int aj,[])]
def oY (t:af) (a b:Int) (s1:Sq Int) (k:Nat) (g:Nat->Nat->O) (x:ak):VS:=⟨(UB k t),[foA t.ins.n k g x 6,ew t.aa,QW t,bx a,bx b,QY,pc x.args],[]⟩
abbrev PE (aj:af) (aA:Nat->Nat->O) (aB:Nat) (aT:ak):ae:=.bL 40 14 aj.2.1 (aA) (.some (aB,[(.c (ci aT.1)),(.c (ci aT.2)),(.c (ci aT.3)),(.c (ci aT.4)),(.c (ci aT.5)),(.c (.sa 6 aT.6.1)),(.c (ci aT.7.1)),(.c (ci aT.7.2)),(.c (.im (.v (.string aT.7.3)))),(.c (.im (.sl 1 aT.8.1 (λi=>dF (aT.8.2 i))))),(.c (ci aT.9.1)),(.c (ci aT.9.2)),(.c (ci aT.10)),(.c (.im (.v (.bool aT.11))))]))
theorem Rl (L:LP) (QE:D->List ae->Prop) (t:af) (a b:Int) (s1:Sq Int) (k:Nat) (g:Nat->Nat->O) (x:ak) (h:nd (k.blt t.2.1) (nd (k.beq k) ((LC 68 [(.c (.sa 6 x.6.1)),(.c (.rt 5 0 0))] [(PE t g k x),(pk t),(fM t),(.box [(ci a)]),(.box [(ci b)]),il,(.arr 3 1 x.6.1 (λi=>bF (x.6.2 i)))] (.t []) [(PE t g k x),(pk t),(fM t),(.box [(ci a)]),(.box [(ci b)]),il,(ij s1)]/\L (ah 58 4) ⟨[ko,l1,lK,(20,((gX t),[])),(21,((int (IntKind.i64.wrap ((↑k:Int)+1))),[]))],[(PE t g k x),(pk t),(fM t),(.box [(ci a)]),(.box [(ci b)]),il,(ij s1)],[]⟩)))):cW (XA s1) 58 ed L QE 8 (oY t a b s1 k g x):=km h
abbrev Bp (aj:Nat) (aA:af) (aB:Nat->Nat->O) (aT:ak) (bp bP:Int):VS:=⟨(UB aj aA),[vr aA.ins.n aj aB aT,ew aA.aa,QW aA,bx bp,bx bP,QY],[]⟩
def tK (t:af) (a b:Int) (k:Nat) (g:Nat->Nat->O) (y:ak) (x:ak):VS:=(Bp k t g x a b)
abbrev l6 (aj:af) (aA:Nat->Nat->O) (aB:Nat) (aT:ak) (bp bP:Int):List ae:=[(.bL 40 14 aj.2.1 (aA) (.some (aB,[(.c (ci aT.1)),(.c (ci aT.2)),(.c (ci aT.3)),(.c (ci aT.4)),(.c (ci aT.5)),(.o (.ar 3 1 aT.6.1 (λi=>bF (aT.6.2 i)))),(.c (ci aT.7.1)),(.c (ci aT.7.2)),(.c (.im (.v (.string aT.7.3)))),(.c (.im (.sl 1 aT.8.1 (λi=>dF (aT.8.2 i))))),(.c (ci aT.9.1)),(.c (ci aT.9.2)),(.c (ci aT.10)),(.c (.im (.v (.bool aT.11))))]))),(pk aj),(fM aj),(.box [(ci bp)]),(.box [(ci bP)]),il,(.row 116 1 3 [(.rt 0 aB 1),(.rt 0 aB 2),(.rt 0 aB 3)]),.dead,.dead]
theorem KP (L:LP) (QE:D->List ae->Prop) (t:af) (a b:Int) (k:Nat) (g:Nat->Nat->O) (y:ak) (x:ak) (h:nd (k.blt t.2.1) (nd (k.beq k) ((LC 63 [(int x.1)] [] (int 0) []/\(LC 67 [(.c (.sa 6 0)),(.c (.rt 3 0 0)),(.c (.rt 4 0 0))] (l6 t g k x a b) (.t []) (l6 t g k y a b)/\nd (k.blt t.2.1) (nd (k.beq k) ((LC 63 [(int x.1)] [] (int 0) []/\(LC 67 [(.c (.sa 6 0)),(.c (.rt 3 0 0)),(.c (.rt 4 0 0))] (l6 t g k x a b) (.t []) (l6 t g k y a b)/\L (ah 58 8) ⟨(Dp k t),(l6 t g k y a b),[]⟩))))))))):cW (X7 0 (vr t.ins.n k g y)) 58 ed L QE 7 (tK t a b k g y x):=km h
def te (t:af) (a b:Int) (k:Nat) (g:Nat->Nat->O) (y:ak) (x:ak):VS:=(Bp k t g x a b)
theorem KJ (L:LP) (QE:D->List ae->Prop) (t:af) (a b:Int) (k:Nat) (g:Nat->Nat->O) (y:ak) (x:ak) (h:nd (k.blt t.2.1) (nd (k.beq k) ((LC 63 [(int x.1)] [] (int 1) []/\(LC 67 [(.c (.sa 6 1)),(.c (.rt 3 0 0)),(.c (.rt 4 0 0))] (l6 t g k x a b) (.t []) (l6 t g k y a b)/\nd (k.blt t.2.1) (nd (k.beq k) ((LC 63 [(int x.1)] [] (int 1) []/\(LC 67 [(.c (.sa 6 1)),(.c (.rt 3 0 0)),(.c (.rt 4 0 0))] (l6 t g k x a b) (.t []) (l6 t g k y a b)/\L (ah 58 8) ⟨(Dp k t),(l6 t g k y a b),[]⟩))))))))):cW (X7 1 (vr t.ins.n k g y)) 58 ed L QE 7 (te t a b k g y x):=km h
def tj (t:af) (a b:Int) (k:Nat) (g:Nat->Nat->O) (y:ak) (x:ak):VS:=(Bp k t g x a b)
theorem K4 (L:LP) (QE:D->List ae->Prop) (t:af) (a b:Int) (k:Nat) (g:Nat->Nat->O) (y:ak) (x:ak) (h:nd (k.blt t.2.1) (nd (k.beq k) ((LC 63 [(int x.1)] [] (int 2) []/\(LC 67 [(.c (.sa 6 2)),(.c (.rt 3 0 0)),(.c (.rt 4 0 0))] (l6 t g k x a b) (.t []) (l6 t g k y a b)/\nd (k.blt t.2.1) (nd (k.beq k) ((LC 63 [(int x.1)] [] (int 2) []/\(LC 67 [(.c (.sa 6 2)),(.c (.rt 3 0 0)),(.c (.rt 4 0 0))] (l6 t g k x a b) (.t []) (l6 t g k y a b)/\L (ah 58 8) ⟨(Dp k t),(l6 t g k y a b),[]⟩))))))))):cW (X7 2 (vr t.ins.n k g y)) 58 ed L QE 7 (tj t a b k g y x):=km h
def tq (t:af) (a b:Int) (k:Nat) (g:Nat->Nat->O) (y:ak) (x:ak):VS:=(Bp k t g x a b)
theorem Kq (L:LP) (QE:D->List ae->Prop) (t:af) (a b:Int) (k:Nat) (g:Nat->Nat->O) (y:ak) (x:ak) (h:nd (k.blt t.2.1) (nd (k.beq k) ((LC 63 [(int x.1)] [] (int 3) []/\(LC 67 [(.c (.sa 6 3)),(.c (.rt 3 0 0)),(.c (.rt 4 0 0))] (l6 t g k x a b) (.t []) (l6 t g k y a b)/\nd (k.blt t.2.1) (nd (k.beq k) ((LC 63 [(int x.1)] [] (int 3) []/\(LC 67 [(.c (.sa 6 3)),(.c (.rt 3 0 0)),(.c (.rt 4 0 0))] (l6 t g k x a b) (.t []) (l6 t g k y a b)/\L (ah 58 8) ⟨(Dp k t),(l6 t g k y a b),[]⟩))))))))):cW (X7 3 (vr t.ins.n k g y)) 58 ed L QE 7 (tq t a b k g y x):=km h
abbrev xn (aj:af):gn:=(54,.c (.sa 1 aj.aa.n),[])
abbrev xc (aj:af):gn:=(55,int aj.aa.n,[])
def iV (t:af) (a b:Int) (s1:Sq Int) (s:Sq ak) (k:Nat):VS:=⟨[qv,qc,(xn t),(xc t),(56,int k,[])],[bA s,ew (aN (gx a b) t.aa k),QW t,bx a,bx b,QY],[]⟩
abbrev od (aj:Nat):gn:=(56,((gS aj),[]))
abbrev mg (aj:Sq ak):ae:=.bL 40 14 aj.1 (λi=>bo (aj.2 i)) .none
theorem yW (L:LP) (QE:D->List ae->Prop) (t:af) (a b:Int) (s1:Sq Int) (s:Sq ak) (k:Nat) (h:br (decide ((↑k:Int)<(↑t.3.1:Int))) (L (ah 58 12) ⟨[l1,lK,(ll t),(k9 t),(od k),(57,((bool true),[]))],[(mg s),(.bL 68 3 t.3.1 (λi=>bj ((aN (gx a b) t.3 k).get i)) .none),(fM t),(.box [(ci a)]),(.box [(ci b)]),il],[]⟩) (QE (.t []) [(.bL 40 14 s.1 (λi=>bo (s.2 i)) .none),(.bL 68 3 t.3.1 (λi=>bj ((aN (gx a b) t.3 k).get i)) .none),(.box [(ci t.1.1),(ci t.1.2),(.sa 0 t.2.1),(.sa 1 t.3.1)]),(.box [(ci a)]),(.box [(ci b)]),(.box [(.fh 67 [3,4])])])):cW (XB s1) 58 ed L QE 11 (iV t a b s1 s k):=km h
def sG (t:af) (a b:Int) (s1:Sq Int) (s:Sq ak) (k:Nat) (g:Nat->Nat->O) (e:ai):VS:=⟨[qv,qc,(xn t),(xc t),(56,int k,[])],[bA s,KC t.aa.n k g e,QW t,bx a,bx b,QY,DH e.frames,NL e.aC],[]⟩
abbrev qx:gn:=(11,((.c (.rt 8 0 0)),[]))
abbrev nn (aj:af) (aA:Nat->Nat->O) (aB:Nat) (aT:ai):ae:=.bL 68 3 aj.3.1 (aA) (.some (aB,[(.c (.sa 6 aT.1.1)),(.c (.sa 7 aT.2.1)),(.c (ci aT.3))]))
abbrev tP (aj:ai):ae:=.bL 93 4 aj.2.1 (λi=>fo (aj.2.2 i)) .none
abbrev ng (aj:ai):ae:=.box [(.sa 6 aj.1.1),(.sa 7 aj.2.1),(ci aj.3)]
theorem Lm (L:LP) (QE:D->List ae->Prop) (t:af) (a b:Int) (s1:Sq Int) (s:Sq ak) (k:Nat) (g:Nat->Nat->O) (e:ai) (h:nd (dm (↑k:Int) t.3.1) (nd (k.blt t.3.1) (nd (k.beq k) (L (ah 58 14) ⟨[l1,lK,qx,(ll t),(k9 t),(od k),(61,((.c (.sa 6 e.1.1)),[])),(62,((je e),[])),(63,((int 0),[]))],[(mg s),(nn t g k e),(fM t),(.box [(ci a)]),(.box [(ci b)]),il,(.bL 64 3 e.1.1 (λi=>fx (e.1.2 i)) .none),(tP e),(ng e)],[]⟩)))):cW (XB s1) 58 ed L QE 12 (sG t a b s1 s k g e):=km h
abbrev PU (aj:ai) (aA:Nat) (aB:af) (aT:Nat):aL:=[qv,qc,(11,.c (.rt 8 0 0),[]),(61,.c (.sa 6 aj.frames.n),[]),(62,int aj.frames.n,[]),(63,int aA,[]),(xn aB),(xc aB),(56,int aT,[])]
def mf (t:af) (a b:Int) (s1:Sq Int) (s:Sq ak) (k:Nat) (g:Nat->Nat->O) (e:ai) (j:Nat):VS:=⟨(PU e j t k),[bA s,KC t.aa.n k g e,QW t,bx a,bx b,QY,DH (aN (K5 a b) e.frames j),NL e.aC,.box [.sa 6 e.frames.n,.sa 7 e.aC.n,.im (iI e.back)]],[]⟩
abbrev Cu (aj:ai):gn:=(73,((.c (.sa 7 aj.2.1)),[]))
theorem z8 (L:LP) (QE:D->List ae->Prop) (t:af) (a b:Int) (s1:Sq Int) (s:Sq ak) (k:Nat) (g:Nat->Nat->O) (e:ai) (j:Nat) (h:br (decide ((↑j:Int)<(↑e.1.1:Int))) (L (ah 58 15) ⟨[l1,lK,qx,(ll t),(k9 t),(od k),(61,((.c (.sa 6 e.1.1)),[])),(62,((je e),[])),(63,((int (↑j:Int)),[])),(64,((bool true),[]))],[(mg s),(nn t g k e),(fM t),(.box [(ci a)]),(.box [(ci b)]),il,(.bL 64 3 e.1.1 (λi=>fx ((aN (K5 a b) e.1 j).get i)) .none),(tP e),(ng e)],[]⟩) (L (ah 58 19) ⟨[l1,lK,qx,(ll t),(k9 t),(od k),(Cu e),(74,((iY e),[])),(75,((int 0),[]))],[(mg s),(nn t g k e),(fM t),(.box [(ci a)]),(.box [(ci b)]),il,(.bL 64 3 e.1.1 (λi=>fx ((aN (K5 a b) e.1 j).get i)) .none),(tP e),(ng e)],[]⟩)):cW (XB s1) 58 ed L QE 14 (mf t a b s1 s k g e j):=km h
def tf (t:af) (a b:Int) (s1:Sq Int) (s:Sq ak) (k:Nat) (g:Nat->Nat->O) (e:ai) (j:Nat) (g2:Nat->Nat->O) (x:cA):VS:=⟨(PU e j t k),[bA s,KC t.aa.n k g e,QW t,bx a,bx b,QY,as3 e.frames.n j g2 x 9,NL e.aC,.box [.sa 6 e.frames.n,.sa 7 e.aC.n,.im (iI e.back)],pc x.vars],[]⟩
abbrev HM (aj:ai) (aA:Nat->Nat->O) (aB:Nat) (aT:cA):ae:=.bL 64 3 aj.1.1 (aA) (.some (aB,[(.c (ci aT.1)),(.c (ci aT.2)),(.c (.sa 9 aT.3.1))]))
abbrev HO (aj:cA):ae:=.box [(ci aj.1),(ci aj.2),(.sa 9 aj.3.1)]
theorem KT (L:LP) (QE:D->List ae->Prop) (t:af) (a b:Int) (s1:Sq Int) (s:Sq ak) (k:Nat) (g:Nat->Nat->O) (e:ai) (j:Nat) (g2:Nat->Nat->O) (x:cA) (h:nd (dm (↑j:Int) e.1.1) (nd (j.blt e.1.1) (nd (j.beq j) ((LC 68 [(.c (.sa 9 x.3.1)),(.c (.rt 5 0 0))] [(mg s),(nn t g k e),(fM t),(.box [(ci a)]),(.box [(ci b)]),il,(HM e g2 j x),(tP e),(ng e),(.arr 3 1 x.3.1 (λi=>bF (x.3.2 i))),(HO x)] (.t []) [(mg s),(nn t g k e),(fM t),(.box [(ci a)]),(.box [(ci b)]),il,(HM e g2 j x),(tP e),(ng e),(ij s1),(HO x)]/\L (ah 58 14) ⟨[l1,lK,qx,(ll t),(k9 t),(od k),(61,((.c (.sa 6 e.1.1)),[])),(62,((je e),[])),(63,((int (IntKind.i64.wrap ((↑j:Int)+1))),[]))],[(mg s),(nn t g k e),(fM t),(.box [(ci a)]),(.box [(ci b)]),il,(HM e g2 j x),(tP e),(ng e),(ij s1),(HO x)],[]⟩))))):cW (XB s1) 58 ed L QE 15 (tf t a b s1 s k g e j g2 x):=km h
abbrev Oy (aj:ai) (aA:Nat) (aB:af) (aT:Nat):aL:=[qv,qc,(11,.c (.rt 8 0 0),[]),(73,.c (.sa 7 aj.aC.n),[]),(74,int aj.aC.n,[]),(75,int aA,[]),(xn aB),(xc aB),(56,int aT,[])]
def jV (t:af) (a b:Int) (s1:Sq Int) (s:Sq ak) (k:Nat) (g:Nat->Nat->O) (e:ai) (j:Nat):VS:=⟨(Oy e j t k),[bA s,KC t.aa.n k g e,QW t,bx a,bx b,QY,DH (aN (K5 a b) e.frames e.frames.n),NL (aN (Hw a b) e.aC j),.box [.sa 6 e.frames.n,.sa 7 e.aC.n,.im (iI e.back)]],[]⟩
abbrev zD (aj:ai) (aA aB:Int):ae:=.bL 64 3 aj.1.1 (λi=>fx ((aN (K5 aA aB) aj.1 aj.1.1).get i)) .none
theorem yO (L:LP) (QE:D->List ae->Prop) (t:af) (a b:Int) (s1:Sq Int) (s:Sq ak) (k:Nat) (g:Nat->Nat->O) (e:ai) (j:Nat) (h:br (decide ((↑j:Int)<(↑e.2.1:Int))) (L (ah 58 20) ⟨[l1,lK,qx,(ll t),(k9 t),(od k),(Cu e),(74,((iY e),[])),(75,((int (↑j:Int)),[])),(76,((bool true),[]))],[(mg s),(nn t g k e),(fM t),(.box [(ci a)]),(.box [(ci b)]),il,(zD e a b),(.bL 93 4 e.2.1 (λi=>fo ((aN (Hw a b) e.2 j).get i)) .none),(ng e)],[]⟩) (L (ah 58 11) ⟨[l1,lK,(ll t),(k9 t),(56,((int (IntKind.i64.wrap ((↑k:Int)+1))),[]))],[(mg s),(nn t g k e),(fM t),(.box [(ci a)]),(.box [(ci b)]),il,(zD e a b),(.bL 93 4 e.2.1 (λi=>fo ((aN (Hw a b) e.2 j).get i)) .none),(ng e)],[]⟩)):cW (XB s1) 58 ed L QE 19 (jV t a b s1 s k g e j):=km h
def tC (t:af) (a b:Int) (s1:Sq Int) (s:Sq ak) (k:Nat) (g:Nat->Nat->O) (e:ai) (j:Nat) (g2:Nat->Nat->O) (x:dh):VS:=⟨(Oy e j t k),[bA s,KC t.aa.n k g e,QW t,bx a,bx b,QY,DH (aN (K5 a b) e.frames e.frames.n),av7 e.aC.n j g2 x 9,.box [.sa 6 e.frames.n,.sa 7 e.aC.n,.im (iI e.back)],pc x.items],[]⟩
abbrev Hx (aj:dh):C:=.im (.sl 1 aj.3.1 (λi=>dF (aj.3.2 i)))
abbrev Ga (aj:ai) (aA:Nat->Nat->O) (aB:Nat) (aT:dh):ae:=.bL 93 4 aj.2.1 (aA) (.some (aB,[(.c (ci aT.1)),(.c (ci aT.2)),(.c (Hx aT)),(.c (.sa 9 aT.4.1))]))
abbrev Hr (aj:dh):ae:=.box [(ci aj.1),(ci aj.2),(Hx aj),(.sa 9 aj.4.1)]
theorem Kw (L:LP) (QE:D->List ae->Prop) (t:af) (a b:Int) (s1:Sq Int) (s:Sq ak) (k:Nat) (g:Nat->Nat->O) (e:ai) (j:Nat) (g2:Nat->Nat->O) (x:dh) (h:nd (dm (↑j:Int) e.2.1) (nd (j.blt e.2.1) (nd (j.beq j) ((LC 68 [(.c (.sa 9 x.4.1)),(.c (.rt 5 0 0))] [(mg s),(nn t g k e),(fM t),(.box [(ci a)]),(.box [(ci b)]),il,(zD e a b),(Ga e g2 j x),(ng e),(.arr 3 1 x.4.1 (λi=>bF (x.4.2 i))),(Hr x)] (.t []) [(mg s),(nn t g k e),(fM t),(.box [(ci a)]),(.box [(ci b)]),il,(zD e a b),(Ga e g2 j x),(ng e),(ij s1),(Hr x)]/\L (ah 58 22) ⟨[l1,lK,qx,(14,((int (↑j:Int)),[])),(ll t),(k9 t),(od k),(Cu e),(74,((iY e),[])),(75,((int (↑j:Int)),[]))],[(mg s),(nn t g k e),(fM t),(.box [(ci a)]),(.box [(ci b)]),il,(zD e a b),(Ga e g2 j x),(ng e),(ij s1),(Hr x)],[]⟩))))):cW (XB s1) 58 ed L QE 20 (tC t a b s1 s k g e j g2 x):=km h
def tw (t:af) (a b:Int) (s:Sq ak) (k:Nat) (g:Nat->Nat->O) (e:ai) (j:Nat) (g2:Nat->Nat->O) (y:dh) (x:dh):VS:=⟨[qv,qc,(14,int j,[]),(11,.c (.rt 8 0 0),[]),(73,.c (.sa 7 e.aC.n),[]),(74,int e.aC.n,[]),(75,int j,[]),(xn t),(xc t),(56,int k,[])],[bA s,KC t.aa.n k g e,QW t,bx a,bx b,QY,DH (aN (K5 a b) e.frames e.frames.n),Yu e.aC.n j g2 x,.box [.sa 6 e.frames.n,.sa 7 e.aC.n,.im (iI e.back)]],[]⟩
abbrev QG (aj:Sq ak) (aA:af) (aB:Nat->Nat->O) (aT:Nat) (bp:ai) (bP bU:Int) (jN:Nat->Nat->O) (yh:Nat) (Jv:dh):List ae:=[(mg aj),(nn aA aB aT bp),(fM aA),(.box [(ci bP)]),(.box [(ci bU)]),il,(zD bp bP bU),(.bL 93 4 bp.2.1 (jN) (.some (yh,[(.c (ci Jv.1)),(.c (ci Jv.2)),(.c (Hx Jv)),(.o (.ar 3 1 Jv.4.1 (λi=>bF (Jv.4.2 i))))]))),(ng bp),(.row 116 1 1 [(.rt 7 yh 0)]),.dead]
theorem KV (L:LP) (QE:D->List ae->Prop) (t:af) (a b:Int) (s:Sq ak) (k:Nat) (g:Nat->Nat->O) (e:ai) (j:Nat) (g2:Nat->Nat->O) (y:dh) (x:dh) (h:nd (dm (↑j:Int) e.2.1) ((LC 67 [(.c (.sa 9 1)),(.c (.rt 3 0 0)),(.c (.rt 4 0 0))] (QG s t g k e a b g2 j x) (.t []) (QG s t g k e a b g2 j y)/\nd (dm (↑j:Int) e.2.1) ((LC 67 [(.c (.sa 9 1)),(.c (.rt 3 0 0)),(.c (.rt 4 0 0))] (QG s t g k e a b g2 j x) (.t []) (QG s t g k e a b g2 j y)/\L (ah 58 19) ⟨[l1,lK,qx,(ll t),(k9 t),(od k),(Cu e),(74,((iY e),[])),(75,((int (IntKind.i64.wrap ((↑j:Int)+1))),[]))],(QG s t g k e a b g2 j y),[]⟩))))):cW (X22 (Yu e.aC.n j g2 y)) 58 ed L QE 22 (tw t a b s k g e j g2 y x):=km h
theorem vw {α:Type} {f:α->α} {s:Sq α} {k:Nat}:(aN f s k).get k=s.get k:=by
 show (bif Nat.blt k k then _ else _)=_
 cases hb:Nat.blt k k with
 | false=>rfl
 | true=>simp at hb
theorem MT {α:Type} {f:α->α} {s:Sq α} {k:Nat}:(aN f s (k+1)).get k=f (s.get k):=by
 show (bif Nat.blt k (k+1) then _ else _)=_
 rw [da (Nat.lt_succ_self k)]; rfl
theorem Rh {α:Type} {f:α->α} {s:Sq α} {i k:Nat} (h:i≠k):(aN f s (k+1)).get i=(aN f s k).get i:=by
 show (bif Nat.blt i (k+1) then _ else _)=(bif Nat.blt i k then _ else _)
 grind [Nat.blt_eq]
theorem rY {α:Type} {f:α->α} {N:α->Nat->O} {s:Sq α} {el sz k:Nat} {l:List Fc} (h:WO (N (f (s.get k))) l 0):bZ (.bL el sz s.n (λi=>N ((aN f s k).get i)) (some (k,l))) (.bL el sz s.n (λi=>N ((aN f s (k+1)).get i)) none):=
 bZ.unf (by rw [MT]; exact h) λi hi wc j hj=>by rw [Rh wc]; exact Ag.refl _
theorem BD {α:Type} {f:α->α} {N:α->Nat->O} {s:Sq α} {el sz:Nat}:bZ (.bL el sz s.n (λi=>N (s.get i)) none) (.bL el sz s.n (λi=>N ((aN f s 0).get i)) none):=bZ.bL λi hi j hj=>Ag.refl _
theorem ag.qt {f:FuncId} {n0:Nat} {Q:D->List ae->Prop} {todo:List Item} {s:VS} (r k:Nat) (l:List Fc) {el sz n:Nat} {get:Nat->Nat->O} (hr:aR s.rs r=some (.bL el sz n get none)) (hk:k<n) (hl:kI (get k) sz 0=l)
  (g:ag f n0 Q todo ⟨s.sl,setAt s.rs r (.bL el sz n get (some (k,l))),s.df⟩):ag f n0 Q todo s:=
 ag.focus r k hr hk (hl.symm▸g)
theorem vb (t:af) (a b:Int) (hS:bk t) (k:Nat) (hk:k<t.ins.n) (x:ak) (hx:x=nz (fV (t.ins.get k).op).toNat a b (t.ins.get k)) (ih:ag 58 2 (Go.V.cd [bA t.ins,ew t.aa] (.t []) [bA (aN (fB a b) t.ins t.ins.n),ew (aN (gx a b) t.aa t.aa.n)]) (ah 58 4) (jR t a b (aK 0) (k+1))):ag 58 2 (Go.V.cd [bA t.ins,ew t.aa] (.t []) [bA (aN (fB a b) t.ins t.ins.n),ew (aN (gx a b) t.aa t.aa.n)]) (ah 58 8) (oY t a b (aK 0) k (λi=>bo ((aN (fB a b) t.ins k).get i)) x):=by
 have hN:=hS.ins
 have hW:=dy hk (by unfold maxLen; omega:_<=maxLen)
 have hA:=hS.args k hk
 have hA:x.args.n<=1000:=by rw [hx]; exact hA
 refine aF (X:=XA (nc a b x.args x.args.n)) (stop:=ed) (Rl _ _ t a b (nc a b x.args x.args.n) k (λi=>bo ((aN (fB a b) t.ins k).get i)) x ?_)
 refine ay (da hk) (ay (gu _) ⟨bB.jm (Hl a b x.args hA) [6,5,3,4] _ rfl ⟨rfl,aH rfl,rfl,aH rfl,rfl,aH rfl,rfl,aH rfl,rfl⟩,?_⟩)
 rw [hW]
 refine ag.close 0 5 6 rfl rfl rfl rfl rfl rfl (ag.rename [0,1,2,3,4,5] rfl ?_)
 subst hx
 exact ag.lf (jR t a b (aK 0) (k+1)) (.cons (rY (f:=fB a b) ⟨du.cB _,du.cB _,du.cB _,du.cB _,du.cB _,du.refl _,du.cB _,du.cB _,du.cB _,du.cB _,du.cB _,du.cB _,du.cB _,du.cB _,trivial⟩) (rc (rc (rc (rc (rc .nil)))))) ih
theorem Kv (t:af) (a b:Int) (hS:bk t) (k:Nat) (hk:k<t.ins.n) (hc:fV (t.ins.get k).op=0) (ih:ag 58 2 (Go.V.cd [bA t.ins,ew t.aa] (.t []) [bA (aN (fB a b) t.ins t.ins.n),ew (aN (gx a b) t.aa t.aa.n)]) (ah 58 4) (jR t a b (aK 0) (k+1))):ag 58 2 (Go.V.cd [bA t.ins,ew t.aa] (.t []) [bA (aN (fB a b) t.ins t.ins.n),ew (aN (gx a b) t.aa t.aa.n)]) (ah 58 7) (tK t a b k (λi=>bo ((aN (fB a b) t.ins k).get i)) (t.ins.get k) (t.ins.get k)):=by
 have h1:LC 63 [int (t.ins.get k).op] [] (int 0) []:=hc▸Ae (t.ins.get k).op
 refine aF (X:=X7 0 (vr t.ins.n k (λi=>bo ((aN (fB a b) t.ins k).get i)) (nz 0 a b (t.ins.get k)))) (stop:=ed) (KP _ _ t a b k (λi=>bo ((aN (fB a b) t.ins k).get i)) (nz 0 a b (t.ins.get k)) (t.ins.get k) ?_)
 have h2:=λRS h=>bB.jm (On t.ins.n k (λi=>bo ((aN (fB a b) t.ins k).get i)) (t.ins.get k) a b hk) [6,3,4,0] RS rfl h
 refine ay (da hk) (ay (gu _) ⟨h1,h2 _ ⟨rfl,aH rfl,rfl,aH rfl,rfl,aH rfl,rfl,aH rfl,rfl⟩,ay (da hk) (ay (gu _) ⟨h1,h2 _ ⟨rfl,aH rfl,rfl,aH rfl,rfl,aH rfl,rfl,aH rfl,rfl⟩,?_⟩)⟩)
 refine ag.rename [0,1,2,3,4,5] rfl (ag.open 0 5 rfl rfl trivial ?_)
 exact ag.lr (oY t a b (aK 0) k (λi=>bo ((aN (fB a b) t.ins k).get i)) (nz 0 a b (t.ins.get k))) (vb t a b hS k hk _ (by rw [hc]; rfl) ih)
theorem Lq (t:af) (a b:Int) (hS:bk t) (k:Nat) (hk:k<t.ins.n) (hc:fV (t.ins.get k).op=1) (ih:ag 58 2 (Go.V.cd [bA t.ins,ew t.aa] (.t []) [bA (aN (fB a b) t.ins t.ins.n),ew (aN (gx a b) t.aa t.aa.n)]) (ah 58 4) (jR t a b (aK 0) (k+1))):ag 58 2 (Go.V.cd [bA t.ins,ew t.aa] (.t []) [bA (aN (fB a b) t.ins t.ins.n),ew (aN (gx a b) t.aa t.aa.n)]) (ah 58 7) (te t a b k (λi=>bo ((aN (fB a b) t.ins k).get i)) (t.ins.get k) (t.ins.get k)):=by
 have h1:LC 63 [int (t.ins.get k).op] [] (int 1) []:=hc▸Ae (t.ins.get k).op
 refine aF (X:=X7 1 (vr t.ins.n k (λi=>bo ((aN (fB a b) t.ins k).get i)) (nz 1 a b (t.ins.get k)))) (stop:=ed) (KJ _ _ t a b k (λi=>bo ((aN (fB a b) t.ins k).get i)) (nz 1 a b (t.ins.get k)) (t.ins.get k) ?_)
 have h2:=λRS h=>bB.jm (Pl t.ins.n k (λi=>bo ((aN (fB a b) t.ins k).get i)) (t.ins.get k) a b hk) [6,3,4,0] RS rfl h
 refine ay (da hk) (ay (gu _) ⟨h1,h2 _ ⟨rfl,aH rfl,rfl,aH rfl,rfl,aH rfl,rfl,aH rfl,rfl⟩,ay (da hk) (ay (gu _) ⟨h1,h2 _ ⟨rfl,aH rfl,rfl,aH rfl,rfl,aH rfl,rfl,aH rfl,rfl⟩,?_⟩)⟩)
 refine ag.rename [0,1,2,3,4,5] rfl (ag.open 0 5 rfl rfl trivial ?_)
 exact ag.lr (oY t a b (aK 0) k (λi=>bo ((aN (fB a b) t.ins k).get i)) (nz 1 a b (t.ins.get k))) (vb t a b hS k hk _ (by rw [hc]; rfl) ih)
theorem Ki (t:af) (a b:Int) (hS:bk t) (k:Nat) (hk:k<t.ins.n) (hc:fV (t.ins.get k).op=2) (ih:ag 58 2 (Go.V.cd [bA t.ins,ew t.aa] (.t []) [bA (aN (fB a b) t.ins t.ins.n),ew (aN (gx a b) t.aa t.aa.n)]) (ah 58 4) (jR t a b (aK 0) (k+1))):ag 58 2 (Go.V.cd [bA t.ins,ew t.aa] (.t []) [bA (aN (fB a b) t.ins t.ins.n),ew (aN (gx a b) t.aa t.aa.n)]) (ah 58 7) (tj t a b k (λi=>bo ((aN (fB a b) t.ins k).get i)) (t.ins.get k) (t.ins.get k)):=by
 have h1:LC 63 [int (t.ins.get k).op] [] (int 2) []:=hc▸Ae (t.ins.get k).op
 refine aF (X:=X7 2 (vr t.ins.n k (λi=>bo ((aN (fB a b) t.ins k).get i)) (nz 2 a b (t.ins.get k)))) (stop:=ed) (K4 _ _ t a b k (λi=>bo ((aN (fB a b) t.ins k).get i)) (nz 2 a b (t.ins.get k)) (t.ins.get k) ?_)
 have h2:=λRS h=>bB.jm (M9 t.ins.n k (λi=>bo ((aN (fB a b) t.ins k).get i)) (t.ins.get k) a b hk) [6,3,4,0] RS rfl h
 refine ay (da hk) (ay (gu _) ⟨h1,h2 _ ⟨rfl,aH rfl,rfl,aH rfl,rfl,aH rfl,rfl,aH rfl,rfl⟩,ay (da hk) (ay (gu _) ⟨h1,h2 _ ⟨rfl,aH rfl,rfl,aH rfl,rfl,aH rfl,rfl,aH rfl,rfl⟩,?_⟩)⟩)
 refine ag.rename [0,1,2,3,4,5] rfl (ag.open 0 5 rfl rfl trivial ?_)
 exact ag.lr (oY t a b (aK 0) k (λi=>bo ((aN (fB a b) t.ins k).get i)) (nz 2 a b (t.ins.get k))) (vb t a b hS k hk _ (by rw [hc]; rfl) ih)
theorem J1 (t:af) (a b:Int) (hS:bk t) (k:Nat) (hk:k<t.ins.n) (hc:fV (t.ins.get k).op=3) (ih:ag 58 2 (Go.V.cd [bA t.ins,ew t.aa] (.t []) [bA (aN (fB a b) t.ins t.ins.n),ew (aN (gx a b) t.aa t.aa.n)]) (ah 58 4) (jR t a b (aK 0) (k+1))):ag 58 2 (Go.V.cd [bA t.ins,ew t.aa] (.t []) [bA (aN (fB a b) t.ins t.ins.n),ew (aN (gx a b) t.aa t.aa.n)]) (ah 58 7) (tq t a b k (λi=>bo ((aN (fB a b) t.ins k).get i)) (t.ins.get k) (t.ins.get k)):=by
 have h1:LC 63 [int (t.ins.get k).op] [] (int 3) []:=hc▸Ae (t.ins.get k).op
 refine aF (X:=X7 3 (vr t.ins.n k (λi=>bo ((aN (fB a b) t.ins k).get i)) (nz 3 a b (t.ins.get k)))) (stop:=ed) (Kq _ _ t a b k (λi=>bo ((aN (fB a b) t.ins k).get i)) (nz 3 a b (t.ins.get k)) (t.ins.get k) ?_)
 have h2:=λRS h=>bB.jm (Oj t.ins.n k (λi=>bo ((aN (fB a b) t.ins k).get i)) (t.ins.get k) a b hk) [6,3,4,0] RS rfl h
 refine ay (da hk) (ay (gu _) ⟨h1,h2 _ ⟨rfl,aH rfl,rfl,aH rfl,rfl,aH rfl,rfl,aH rfl,rfl⟩,ay (da hk) (ay (gu _) ⟨h1,h2 _ ⟨rfl,aH rfl,rfl,aH rfl,rfl,aH rfl,rfl,aH rfl,rfl⟩,?_⟩)⟩)
 refine ag.rename [0,1,2,3,4,5] rfl (ag.open 0 5 rfl rfl trivial ?_)
 exact ag.lr (oY t a b (aK 0) k (λi=>bo ((aN (fB a b) t.ins k).get i)) (nz 3 a b (t.ins.get k))) (vb t a b hS k hk _ (by rw [hc]; rfl) ih)
theorem Ol (t:af) (a b:Int) (hS:bk t) (s:Sq ak) (k:Nat) (hk:k<t.aa.n) (j:Nat) (hj:j<(t.aa.get k).aC.n) (ih:ag 58 2 (Go.V.cd [bA t.ins,ew t.aa] (.t []) [bA (aN (fB a b) t.ins t.ins.n),ew (aN (gx a b) t.aa t.aa.n)]) (ah 58 19) (jV t a b (aK 0) s k (λi=>bj ((aN (gx a b) t.aa k).get i)) (t.aa.get k) (j+1))):ag 58 2 (Go.V.cd [bA t.ins,ew t.aa] (.t []) [bA (aN (fB a b) t.ins t.ins.n),ew (aN (gx a b) t.aa t.aa.n)]) (ah 58 22) (tw t a b s k (λi=>bj ((aN (gx a b) t.aa k).get i)) (t.aa.get k) j (λi=>fo ((aN (Hw a b) (t.aa.get k).aC j).get i)) ((t.aa.get k).aC.get j) { ((t.aa.get k).aC.get j) with items:=nc a b ((t.aa.get k).aC.get j).items ((t.aa.get k).aC.get j).items.n }):=by
 have hN:=(hS.ex k hk).aC
 have hW:=dy hj (by unfold maxLen; omega:_<=maxLen)
 refine aF (X:=X22 (Yu (t.aa.get k).aC.n j (λi=>fo ((aN (Hw a b) (t.aa.get k).aC j).get i)) (Hw a b ((t.aa.get k).aC.get j)))) (stop:=ed) (KV _ _ t a b s k (λi=>bj ((aN (gx a b) t.aa k).get i)) (t.aa.get k) j (λi=>fo ((aN (Hw a b) (t.aa.get k).aC j).get i)) (Hw a b ((t.aa.get k).aC.get j)) { ((t.aa.get k).aC.get j) with items:=nc a b ((t.aa.get k).aC.get j).items ((t.aa.get k).aC.get j).items.n } ?_)
 have h2:=λRS h=>bB.jm (SW (t.aa.get k).aC.n j (λi=>fo ((aN (Hw a b) (t.aa.get k).aC j).get i)) { ((t.aa.get k).aC.get j) with items:=nc a b ((t.aa.get k).aC.get j).items ((t.aa.get k).aC.get j).items.n } a b hj) [9,3,4,7] RS rfl h
 refine ay (aP hj) ⟨h2 _ ⟨rfl,aH rfl,rfl,aH rfl,rfl,aH rfl,rfl,aH rfl,rfl⟩,ay (aP hj) ⟨h2 _ ⟨rfl,aH rfl,rfl,aH rfl,rfl,aH rfl,rfl,aH rfl,rfl⟩,?_⟩⟩
 rw [hW]
 exact ag.rename [0,1,2,3,4,5,6,7,8] rfl (ag.lf (jV t a b (aK 0) s k (λi=>bj ((aN (gx a b) t.aa k).get i)) (t.aa.get k) (j+1)) (rc (rc (rc (rc (rc (rc (rc (.cons (rY (f:=Hw a b) ⟨du.cB _,du.cB _,du.cB _,du.refl _,trivial⟩) (rc .nil))))))))) ih)
theorem Qq (t:af) (a b:Int) (hS:bk t) (s:Sq ak) (k:Nat) (hk:k<t.aa.n) (j:Nat) (hj:j<(t.aa.get k).aC.n) (ih:ag 58 2 (Go.V.cd [bA t.ins,ew t.aa] (.t []) [bA (aN (fB a b) t.ins t.ins.n),ew (aN (gx a b) t.aa t.aa.n)]) (ah 58 19) (jV t a b (aK 0) s k (λi=>bj ((aN (gx a b) t.aa k).get i)) (t.aa.get k) (j+1))):ag 58 2 (Go.V.cd [bA t.ins,ew t.aa] (.t []) [bA (aN (fB a b) t.ins t.ins.n),ew (aN (gx a b) t.aa t.aa.n)]) (ah 58 20) (tC t a b (aK 0) s k (λi=>bj ((aN (gx a b) t.aa k).get i)) (t.aa.get k) j (λi=>fo ((aN (Hw a b) (t.aa.get k).aC j).get i)) ((t.aa.get k).aC.get j)):=by
 have hI:=(hS.ex k hk).items j hj
 refine aF (X:=XB (nc a b ((t.aa.get k).aC.get j).items ((t.aa.get k).aC.get j).items.n)) (stop:=ed) (Kw _ _ t a b (nc a b ((t.aa.get k).aC.get j).items ((t.aa.get k).aC.get j).items.n) s k (λi=>bj ((aN (gx a b) t.aa k).get i)) (t.aa.get k) j (λi=>fo ((aN (Hw a b) (t.aa.get k).aC j).get i)) ((t.aa.get k).aC.get j) ?_)
 refine ay (aP hj) (ay (da hj) (ay (gu _) ⟨bB.jm (Hl a b ((t.aa.get k).aC.get j).items hI) [9,5,3,4] _ rfl ⟨rfl,aH rfl,rfl,aH rfl,rfl,aH rfl,rfl,aH rfl,rfl⟩,?_⟩))
 refine ag.close 7 3 9 rfl rfl rfl rfl rfl rfl (ag.rename [0,1,2,3,4,5,6,7,8] rfl ?_)
 exact ag.lr (tw t a b s k (λi=>bj ((aN (gx a b) t.aa k).get i)) (t.aa.get k) j (λi=>fo ((aN (Hw a b) (t.aa.get k).aC j).get i)) ((t.aa.get k).aC.get j) { ((t.aa.get k).aC.get j) with items:=nc a b ((t.aa.get k).aC.get j).items ((t.aa.get k).aC.get j).items.n }) (Ol t a b hS s k hk j hj ih)
theorem Nk (t:af) (a b:Int) (hS:bk t) (s:Sq ak) (k:Nat) (hk:k<t.aa.n) (ih:ag 58 2 (Go.V.cd [bA t.ins,ew t.aa] (.t []) [bA (aN (fB a b) t.ins t.ins.n),ew (aN (gx a b) t.aa t.aa.n)]) (ah 58 11) (iV t a b (aK 0) s (k+1))):∀ j,j<=(t.aa.get k).aC.n->ag 58 2 (Go.V.cd [bA t.ins,ew t.aa] (.t []) [bA (aN (fB a b) t.ins t.ins.n),ew (aN (gx a b) t.aa t.aa.n)]) (ah 58 19) (jV t a b (aK 0) s k (λi=>bj ((aN (gx a b) t.aa k).get i)) (t.aa.get k) j):=by
 have hB:=(hS.ex k hk).aC
 have hN:=hS.aa
 refine bc (λj hj zG=>?_) ?_
 .refine aF (X:=XB (aK 0)) (stop:=ed) (yO _ _ t a b (aK 0) s k (λi=>bj ((aN (gx a b) t.aa k).get i)) (t.aa.get k) j ?_)
  refine aq (λh0=>?_) (λh=>(dec_lt h hj).elim)
  refine ag.qt 7 j (kI (fo ((t.aa.get k).aC.get j)) 4 0) rfl hj (by grind [vw]) (ag.open 7 3 rfl rfl trivial ?_)
  exact ag.lr (tC t a b (aK 0) s k (λi=>bj ((aN (gx a b) t.aa k).get i)) (t.aa.get k) j (λi=>fo ((aN (Hw a b) (t.aa.get k).aC j).get i)) ((t.aa.get k).aC.get j)) (Qq t a b hS s k hk j hj zG)
 .refine aF (X:=XB (aK 0)) (stop:=ed) (yO _ _ t a b (aK 0) s k (λi=>bj ((aN (gx a b) t.aa k).get i)) (t.aa.get k) _ ?_)
  refine aq (λh=>cj h) (λh=>?_)
  rw [dy hk (by unfold maxLen; omega:_<=maxLen)]
  refine ag.close 1 0 6 rfl rfl rfl rfl rfl rfl (ag.close 1 1 7 rfl rfl rfl rfl rfl rfl (ag.rename [0,1,2,3,4,5] rfl ?_))
  exact ag.lf (iV t a b (aK 0) s (k+1)) (rc (.cons (rY (f:=gx a b) ⟨du.refl _,du.refl _,du.cB _,trivial⟩) (rc (rc (rc (rc .nil)))))) ih
theorem LO (t:af) (a b:Int) (hS:bk t) (s:Sq ak) (k:Nat) (hk:k<t.aa.n) (j:Nat) (hj:j<(t.aa.get k).frames.n) (ih:ag 58 2 (Go.V.cd [bA t.ins,ew t.aa] (.t []) [bA (aN (fB a b) t.ins t.ins.n),ew (aN (gx a b) t.aa t.aa.n)]) (ah 58 14) (mf t a b (aK 0) s k (λi=>bj ((aN (gx a b) t.aa k).get i)) (t.aa.get k) (j+1))):ag 58 2 (Go.V.cd [bA t.ins,ew t.aa] (.t []) [bA (aN (fB a b) t.ins t.ins.n),ew (aN (gx a b) t.aa t.aa.n)]) (ah 58 15) (tf t a b (aK 0) s k (λi=>bj ((aN (gx a b) t.aa k).get i)) (t.aa.get k) j (λi=>fx ((aN (K5 a b) (t.aa.get k).frames j).get i)) ((t.aa.get k).frames.get j)):=by
 have hI:=(hS.ex k hk).vars j hj
 have hB:=(hS.ex k hk).frames
 have hW:=dy hj (by unfold maxLen; omega:_<=maxLen)
 refine aF (X:=XB (nc a b ((t.aa.get k).frames.get j).vars ((t.aa.get k).frames.get j).vars.n)) (stop:=ed) (KT _ _ t a b (nc a b ((t.aa.get k).frames.get j).vars ((t.aa.get k).frames.get j).vars.n) s k (λi=>bj ((aN (gx a b) t.aa k).get i)) (t.aa.get k) j (λi=>fx ((aN (K5 a b) (t.aa.get k).frames j).get i)) ((t.aa.get k).frames.get j) ?_)
 refine ay (aP hj) (ay (da hj) (ay (gu _) ⟨bB.jm (Hl a b ((t.aa.get k).frames.get j).vars hI) [9,5,3,4] _ rfl ⟨rfl,aH rfl,rfl,aH rfl,rfl,aH rfl,rfl,aH rfl,rfl⟩,?_⟩))
 rw [hW]
 refine ag.close 6 2 9 rfl rfl rfl rfl rfl rfl (ag.rename [0,1,2,3,4,5,6,7,8] rfl ?_)
 exact ag.lf (mf t a b (aK 0) s k (λi=>bj ((aN (gx a b) t.aa k).get i)) (t.aa.get k) (j+1)) (rc (rc (rc (rc (rc (rc (.cons (rY (f:=K5 a b) ⟨du.cB _,du.cB _,du.refl _,trivial⟩) (rc (rc .nil))))))))) ih
theorem Od (t:af) (a b:Int) (hS:bk t) (s:Sq ak) (k:Nat) (hk:k<t.aa.n) (ih:ag 58 2 (Go.V.cd [bA t.ins,ew t.aa] (.t []) [bA (aN (fB a b) t.ins t.ins.n),ew (aN (gx a b) t.aa t.aa.n)]) (ah 58 11) (iV t a b (aK 0) s (k+1))):∀ j,j<=(t.aa.get k).frames.n->ag 58 2 (Go.V.cd [bA t.ins,ew t.aa] (.t []) [bA (aN (fB a b) t.ins t.ins.n),ew (aN (gx a b) t.aa t.aa.n)]) (ah 58 14) (mf t a b (aK 0) s k (λi=>bj ((aN (gx a b) t.aa k).get i)) (t.aa.get k) j):=by
 refine bc (λj hj zG=>?_) ?_
 .refine aF (X:=XB (aK 0)) (stop:=ed) (z8 _ _ t a b (aK 0) s k (λi=>bj ((aN (gx a b) t.aa k).get i)) (t.aa.get k) j ?_)
  refine aq (λh0=>?_) (λh=>(dec_lt h hj).elim)
  refine ag.qt 6 j (kI (fx ((t.aa.get k).frames.get j)) 3 0) rfl hj (by grind [vw]) (ag.open 6 2 rfl rfl trivial ?_)
  exact ag.lr (tf t a b (aK 0) s k (λi=>bj ((aN (gx a b) t.aa k).get i)) (t.aa.get k) j (λi=>fx ((aN (K5 a b) (t.aa.get k).frames j).get i)) ((t.aa.get k).frames.get j)) (LO t a b hS s k hk j hj zG)
 .refine aF (X:=XB (aK 0)) (stop:=ed) (z8 _ _ t a b (aK 0) s k (λi=>bj ((aN (gx a b) t.aa k).get i)) (t.aa.get k) _ ?_)
  refine aq (λh=>cj h) (λh=>?_)
  exact ag.lf (jV t a b (aK 0) s k (λi=>bj ((aN (gx a b) t.aa k).get i)) (t.aa.get k) 0) (rc (rc (rc (rc (rc (rc (rc (.cons (BD) (rc .nil))))))))) (Nk t a b hS s k hk ih 0 (bn _))
theorem OA (t:af) (a b:Int) (hS:bk t) (s:Sq ak) (k:Nat) (hk:k<t.aa.n) (ih:ag 58 2 (Go.V.cd [bA t.ins,ew t.aa] (.t []) [bA (aN (fB a b) t.ins t.ins.n),ew (aN (gx a b) t.aa t.aa.n)]) (ah 58 11) (iV t a b (aK 0) s (k+1))):ag 58 2 (Go.V.cd [bA t.ins,ew t.aa] (.t []) [bA (aN (fB a b) t.ins t.ins.n),ew (aN (gx a b) t.aa t.aa.n)]) (ah 58 12) (sG t a b (aK 0) s k (λi=>bj ((aN (gx a b) t.aa k).get i)) (t.aa.get k)):=by
 refine aF (X:=XB (aK 0)) (stop:=ed) (Lm _ _ t a b (aK 0) s k (λi=>bj ((aN (gx a b) t.aa k).get i)) (t.aa.get k) ?_)
 refine ay (aP hk) (ay (da hk) (ay (gu _) ?_))
 exact ag.lf (mf t a b (aK 0) s k (λi=>bj ((aN (gx a b) t.aa k).get i)) (t.aa.get k) 0) (rc (rc (rc (rc (rc (rc (.cons (BD) (rc (rc .nil))))))))) (Od t a b hS s k hk ih 0 (bn _))
theorem Mf (t:af) (a b:Int) (hS:bk t):∀ k,k<=t.aa.n->ag 58 2 (Go.V.cd [bA t.ins,ew t.aa] (.t []) [bA (aN (fB a b) t.ins t.ins.n),ew (aN (gx a b) t.aa t.aa.n)]) (ah 58 11) (iV t a b (aK 0) (aN (fB a b) t.ins t.ins.n) k):=by
 refine bc (λk hk zG=>?_) ?_
 .refine aF (X:=XB (aK 0)) (stop:=ed) (yW _ _ t a b (aK 0) _ k ?_)
  refine aq (λh0=>?_) (λh=>(dec_lt h hk).elim)
  refine ag.qt 1 k (kI (bj (t.aa.get k)) 3 0) rfl hk (by grind [vw]) (ag.open 1 0 rfl rfl trivial (ag.open 1 1 rfl rfl trivial ?_))
  exact ag.lr (sG t a b (aK 0) (aN (fB a b) t.ins t.ins.n) k (λi=>bj ((aN (gx a b) t.aa k).get i)) (t.aa.get k)) (OA t a b hS _ k hk zG)
 .refine aF (X:=XB (aK 0)) (stop:=ed) (yW _ _ t a b (aK 0) _ _ ?_)
  refine aq (λh=>cj h) (λh=>?_)
  exact ⟨[0,1],.t [],_,_,rfl,(rc (rc .nil)),⟨2,aH rfl,aH rfl,rfl,rfl,bf.refl _,⟨.inr rfl,⟨.inr rfl,trivial⟩⟩⟩⟩
theorem Ts (t:af) (a b:Int) (hS:bk t):∀ k,k<=t.ins.n->ag 58 2 (Go.V.cd [bA t.ins,ew t.aa] (.t []) [bA (aN (fB a b) t.ins t.ins.n),ew (aN (gx a b) t.aa t.aa.n)]) (ah 58 4) (jR t a b (aK 0) k):=by
 refine bc (λk hk ih=>?_) ?_
 .refine aF (X:=XA (aK 0)) (stop:=ed) (JF _ _ t a b (aK 0) k ?_)
  refine aq (λh0=>?_) (λh=>(dec_lt h hk).elim)
  refine ay (aP hk) ?_
  refine ag.qt 0 k (kI (bo (t.ins.get k)) 14 0) rfl hk (by grind [vw]) ?_
  rcases jW (t.ins.get k).op with hc|hc|hc|hc
  .exact ag.lr (tK t a b k (λi=>bo ((aN (fB a b) t.ins k).get i)) (t.ins.get k) (t.ins.get k)) (Kv t a b hS k hk hc ih)
  .exact ag.lr (te t a b k (λi=>bo ((aN (fB a b) t.ins k).get i)) (t.ins.get k) (t.ins.get k)) (Lq t a b hS k hk hc ih)
  .exact ag.lr (tj t a b k (λi=>bo ((aN (fB a b) t.ins k).get i)) (t.ins.get k) (t.ins.get k)) (Ki t a b hS k hk hc ih)
  .exact ag.lr (tq t a b k (λi=>bo ((aN (fB a b) t.ins k).get i)) (t.ins.get k) (t.ins.get k)) (J1 t a b hS k hk hc ih)
 .refine aF (X:=XA (aK 0)) (stop:=ed) (JF _ _ t a b (aK 0) _ ?_)
  refine aq (λh=>cj h) (λh=>?_)
  exact ag.lf (iV t a b (aK 0) (aN (fB a b) t.ins t.ins.n) 0) (rc (.cons (BD) (rc (rc (rc (rc .nil)))))) (Mf t a b hS 0 (bn _))
theorem Wx (t:af) (a b:Int) (hS:bk t):LC 58 [.a [.im (iI t.place.fn),.im (iI t.place.line),.sa 0 t.ins.n,.sa 1 t.aa.n],int a,int b] [bA t.ins,ew t.aa] (.t []) [bA (aN (fB a b) t.ins t.ins.n),ew (aN (gx a b) t.aa t.aa.n)]:=by
 refine cY Zx (aH (by kernel_rfl)) (cU (X:=XA (aK 0)) (stop:=ed) (af3 _ _ t a b (aK 0) ?_))
 exact ag.lf (jR t a b (aK 0) 0) (.cons (BD) (rc (rc (rc (rc (rc .nil)))))) (Ts t a b hS 0 (bn _))
open Go Go.V
section
def XK (i e:ae):gr:={ F:=ext yg [(58,λ_ _=>(.t [],[(0,i),(1,e)],[]))],S:=yH }
def Bo (t:af) (p q:Nat):D:=.a (kH t p q)
def EP (kind k yD:Int) (v:iG):D:=.a [ci kind,ci k,ci yD,ci v.kind,ci v.n,.im (iS v.s)]
def BT:iG:=⟨1,0,⟨⟨[]⟩⟩⟩
def dS:iG:=⟨0,0,⟨⟨[]⟩⟩⟩
def dN:ak:=⟨0,0,0,0,0,⟨0,λ_=>0⟩,dS,⟨0,λ_=>⟨⟨[]⟩⟩⟩,⟨0,0⟩,-1,false⟩
def jH (o:Bool):ak:=⟨2,0,0,0,0,⟨0,λ_=>0⟩,BT,⟨0,λ_=>⟨⟨[]⟩⟩⟩,⟨0,0⟩,-1,o⟩
end
def uP:Nat->Bool:=λi=>Nat.beq i 20||Nat.beq i 8||Nat.beq i 16
theorem Wh:Fn 34:={}
abbrev iF (aj:af) (aA:Nat):D:=int ((aj.2.2 aA).1)
abbrev Ht (aj:af) (aA:Nat):D:=bool (eV (aj.2.2 aA).1 [1,2,3,4,10,12,14,16,17])
abbrev Ge:gn:=(6,((.c (.rt 4 0 0)),[]))
abbrev kR (aj:Nat):ae:=.box [(ci 3),(ci (↑aj:Int)),(ci 0),(ci 0),(ci 0),eR]
abbrev ya:ae:=.box (fF 0 0 0 0 0 (-1))
theorem aa4 (L:LP) (QE:D->List ae->Prop) (t:af) (k:Nat) (i e:ae) (h:nd (dm (↑k:Int) t.2.1) (nd (k.blt t.2.1) (br ((t.2.2 k).1==1) (QE (bool false) [(.bL 40 14 t.2.1 (λi=>bo (t.2.2 i)) .none),(.bL 68 3 t.3.1 (λi=>bj (t.3.2 i)) .none),(.box [(ci t.1.1),(ci t.1.2),(.sa 0 t.2.1),(.sa 1 t.3.1)]),(.box [(ci 3),(ci (↑k:Int)),(ci 0),(ci 0),(ci 0),(.im (.v (.string ⟨⟨[]⟩⟩)))]),(.box (fF 0 0 0 0 0 (-1)))]) (nd (k.blt t.2.1) (br ((t.2.2 k).1==20) (QE (bool false) [(.bL 40 14 t.2.1 (λi=>bo (t.2.2 i)) .none),(.bL 68 3 t.3.1 (λi=>bj (t.3.2 i)) .none),(.box [(ci t.1.1),(ci t.1.2),(.sa 0 t.2.1),(.sa 1 t.3.1)]),(.box [(ci 3),(ci (↑k:Int)),(ci 0),(ci 0),(ci 0),(.im (.v (.string ⟨⟨[]⟩⟩)))]),(.box (fF 0 0 0 0 0 (-1)))]) (nd (k.blt t.2.1) (br ((t.2.2 k).1==21) (QE (bool false) [(.bL 40 14 t.2.1 (λi=>bo (t.2.2 i)) .none),(.bL 68 3 t.3.1 (λi=>bj (t.3.2 i)) .none),(.box [(ci t.1.1),(ci t.1.2),(.sa 0 t.2.1),(.sa 1 t.3.1)]),(.box [(ci 3),(ci (↑k:Int)),(ci 0),(ci 0),(ci 0),(.im (.v (.string ⟨⟨[]⟩⟩)))]),(.box (fF 0 0 0 0 0 (-1)))]) (nd (k.blt t.2.1) ((LC 57 [(iF t k)] [] (Ht t k) []/\br (eV (t.2.2 k).1 [1,2,3,4,10,12,14,16,17]) ((LC 59 [(.a [(ci t.1.1),(ci t.1.2),(.im (.sl 14 t.2.1 (λi j=>oI (bo (t.2.2 i) j)))),(.im (.sl 3 t.3.1 (λi j=>oI (bj (t.3.2 i) j))))]),(int (↑k:Int))] [] (.t []) []/\False)) (L (ah 34 20) ⟨[(5,((.c (.rt 0 k 0)),[])),Ge,(132,((bool false),[]))],[(.bL 40 14 t.2.1 (λi=>bo (t.2.2 i)) .none),(.bL 68 3 t.3.1 (λi=>bj (t.3.2 i)) .none),(fM t),(kR k),ya],[]⟩))))))))))):fG (XK i e) 34 uP L QE [Bo t 0 1,EP 3 k 0 dS] [bA t.ins,ew t.aa]:=km h
theorem Zq (L:LP) (QE:D->List ae->Prop) (t:af) (k:Nat) (i e:ae) (h:nd (dm (↑k:Int) t.2.1) ((LC 56 [(.a (lift (RB ({ kind:=Int.ofNat 1,n:=Int.ofNat 0,s:={ data:={ toList:=[] } } }))))] [] (bool (fA { kind:=Int.ofNat 1,n:=Int.ofNat 0,s:={ data:={ toList:=[] } } })) []/\nd (k.blt t.2.1) ((LC 32 [(.c (.im (.sl 1 5 (flat 1 [I.v (Value.int IntKind.i64 3),I.v (Value.int IntKind.i64 4),I.v (Value.int IntKind.i64 10),I.v (Value.int IntKind.i64 12),I.v (Value.int IntKind.i64 14)])))),(iF t k)] [] (bool (mb (t.2.2 k).1 { n:=5,get:=λi=>rI (flat 1 [I.v (Value.int IntKind.i64 3),I.v (Value.int IntKind.i64 4),I.v (Value.int IntKind.i64 10),I.v (Value.int IntKind.i64 12),I.v (Value.int IntKind.i64 14)] i) })) []/\br (!mb (t.2.2 k).1 { n:=5,get:=λi=>rI (flat 1 [I.v (Value.int IntKind.i64 3),I.v (Value.int IntKind.i64 4),I.v (Value.int IntKind.i64 10),I.v (Value.int IntKind.i64 12),I.v (Value.int IntKind.i64 14)] i) }) (QE (bool false) [(.bL 40 14 t.2.1 (λi=>bo (t.2.2 i)) .none),(.bL 68 3 t.3.1 (λi=>bj (t.3.2 i)) .none),(.box [(ci t.1.1),(ci t.1.2),(.sa 0 t.2.1),(.sa 1 t.3.1)]),(.box [(ci 1),(ci (↑k:Int)),(ci 0),(ci 1),(ci 0),(.im (.v (.string ⟨⟨[]⟩⟩)))]),(.box (fF 0 0 0 0 0 (-1))),(.row 3 1 5 [(ci 3),(ci 4),(ci 10),(ci 12),(ci 14)])]) (L (ah 34 8) ⟨[rV,(5,((.c (.rt 0 k 0)),[])),(30,((bool false),[]))],[(.bL 40 14 t.2.1 (λi=>bo (t.2.2 i)) .none),(.bL 68 3 t.3.1 (λi=>bj (t.3.2 i)) .none),(fM t),(.box [(ci 1),(ci (↑k:Int)),(ci 0),(ci 1),(ci 0),eR]),ya,(.row 3 1 5 [(ci 3),(ci 4),(ci 10),(ci 12),(ci 14)])],[]⟩)))))):fG (XK i e) 34 uP L QE [Bo t 0 1,EP 1 k 0 BT] [bA t.ins,ew t.aa]:=km h
abbrev FW (aj aA:Nat):ae:=.box [(ci 2),(ci (↑aj:Int)),(ci (↑aA:Int)),(ci 0),(ci 0),eR]
theorem af1 (L:LP) (QE:D->List ae->Prop) (t:af) (k:Nat) (j:Nat) (i e:ae) (h:nd (dm (↑k:Int) t.2.1) (br (decide ((↑j:Int)≥(↑k:Int))) (QE (bool false) [(.bL 40 14 t.2.1 (λi=>bo (t.2.2 i)) .none),(.bL 68 3 t.3.1 (λi=>bj (t.3.2 i)) .none),(.box [(ci t.1.1),(ci t.1.2),(.sa 0 t.2.1),(.sa 1 t.3.1)]),(.box [(ci 2),(ci (↑k:Int)),(ci (↑j:Int)),(ci 0),(ci 0),(.im (.v (.string ⟨⟨[]⟩⟩)))]),(.box (fF 0 0 0 0 0 (-1)))]) (nd (dm (↑j:Int) t.2.1) (nd (j.blt t.2.1) (nd (k.blt t.2.1) ((LC 57 [(iF t k)] [] (Ht t k) []/\br (!eV (t.2.2 k).1 [1,2,3,4,10,12,14,16,17]) (QE (bool false) [(.bL 40 14 t.2.1 (λi=>bo (t.2.2 i)) .none),(.bL 68 3 t.3.1 (λi=>bj (t.3.2 i)) .none),(.box [(ci t.1.1),(ci t.1.2),(.sa 0 t.2.1),(.sa 1 t.3.1)]),(.box [(ci 2),(ci (↑k:Int)),(ci (↑j:Int)),(ci 0),(ci 0),(.im (.v (.string ⟨⟨[]⟩⟩)))]),(.box (fF 0 0 0 0 0 (-1)))]) ((LC 57 [(iF t j)] [] (Ht t j) []/\br (!eV (t.2.2 j).1 [1,2,3,4,10,12,14,16,17]) (QE (bool false) [(.bL 40 14 t.2.1 (λi=>bo (t.2.2 i)) .none),(.bL 68 3 t.3.1 (λi=>bj (t.3.2 i)) .none),(.box [(ci t.1.1),(ci t.1.2),(.sa 0 t.2.1),(.sa 1 t.3.1)]),(.box [(ci 2),(ci (↑k:Int)),(ci (↑j:Int)),(ci 0),(ci 0),(.im (.v (.string ⟨⟨[]⟩⟩)))]),(.box (fF 0 0 0 0 0 (-1)))]) (nd (k.blt t.2.1) (br ((t.2.2 k).1==17) (QE (bool false) [(.bL 40 14 t.2.1 (λi=>bo (t.2.2 i)) .none),(.bL 68 3 t.3.1 (λi=>bj (t.3.2 i)) .none),(.box [(ci t.1.1),(ci t.1.2),(.sa 0 t.2.1),(.sa 1 t.3.1)]),(.box [(ci 2),(ci (↑k:Int)),(ci (↑j:Int)),(ci 0),(ci 0),(.im (.v (.string ⟨⟨[]⟩⟩)))]),(.box (fF 0 0 0 0 0 (-1)))]) (br ((t.2.2 j).1==17) (QE (bool false) [(.bL 40 14 t.2.1 (λi=>bo (t.2.2 i)) .none),(.bL 68 3 t.3.1 (λi=>bj (t.3.2 i)) .none),(.box [(ci t.1.1),(ci t.1.2),(.sa 0 t.2.1),(.sa 1 t.3.1)]),(.box [(ci 2),(ci (↑k:Int)),(ci (↑j:Int)),(ci 0),(ci 0),(.im (.v (.string ⟨⟨[]⟩⟩)))]),(.box (fF 0 0 0 0 0 (-1)))]) (nd (k.blt t.2.1) (br ((t.2.2 k).1==1) (QE (bool false) [(.bL 40 14 t.2.1 (λi=>bo (t.2.2 i)) .none),(.bL 68 3 t.3.1 (λi=>bj (t.3.2 i)) .none),(.box [(ci t.1.1),(ci t.1.2),(.sa 0 t.2.1),(.sa 1 t.3.1)]),(.box [(ci 2),(ci (↑k:Int)),(ci (↑j:Int)),(ci 0),(ci 0),(.im (.v (.string ⟨⟨[]⟩⟩)))]),(.box (fF 0 0 0 0 0 (-1)))]) ((LC 58 [(.a [(ci t.1.1),(ci t.1.2),(.sa 0 t.2.1),(.sa 1 t.3.1)]),(int (↑k:Int)),(int (↑j:Int))] [(.bL 40 14 t.2.1 (λi=>bo (t.2.2 i)) .none),(.bL 68 3 t.3.1 (λi=>bj (t.3.2 i)) .none),(fM t),(FW k j),ya] (.t []) [i,e,(fM t),(FW k j),ya]/\L (ah 34 16) ⟨[(5,((.c (.rt 0 k 0)),[])),Ge],[i,e,(fM t),(FW k j),ya],[]⟩)))))))))))))))):fG (XK i e) 34 uP L QE [Bo t 0 1,EP 2 k j dS] [bA t.ins,ew t.aa]:=km h
def wQ (n k:Nat) (g:Nat->Nat->O) (x:ak) (es:Sq ai)  : VS:=⟨[(5,.c (.rt 0 k 0),[]),(6,.c (.rt 2 0 0),[])],[vr n k g x,ew es,.box (fF 0 0 0 0 0 (-1))],[]⟩
abbrev Vd (aj:D->List ae->Prop) (aA:Nat) (aB:Nat->Nat->O) (aT:Nat) (bp:Sq ai):Prop:=aj (bool true) [(.bL 40 14 aA (aB) (.some (aT,[(.c (ci 0)),(.c (ci 0)),(.c (ci 0)),(.c (ci 0)),(.c (ci 0)),(.c (.im (.v (.slice .none 0 0)))),(.c (ci 0)),(.c (ci 0)),(.c (.im (.v (.string ⟨⟨[]⟩⟩)))),(.c (.im (.v (.slice .none 0 0)))),(.c (ci 0)),(.c (ci 0)),(.c (ci (-1))),(.c (.im (.v (.bool false))))]))),(.bL 68 3 bp.1 (λi=>bj (bp.2 i)) .none),(.box (fF 0 0 0 0 0 (-1)))]
theorem Pq (L:LP) (QE:D->List ae->Prop) (n k:Nat) (g:Nat->Nat->O) (x:ak) (es:Sq ai)  (h:nd (k.beq k) (Vd QE n g k es)):cW XR 34 uP L QE 20 (wQ n k g x es ):=km h
def vL (n k:Nat) (g:Nat->Nat->O) (x:ak) (es:Sq ai)  : VS:=⟨[(5,.c (.rt 0 k 0),[]),(6,.c (.rt 2 0 0),[])],[vr n k g x,ew es,.box (fF 0 0 0 0 0 (-1))],[]⟩
theorem MM (L:LP) (QE:D->List ae->Prop) (n k:Nat) (g:Nat->Nat->O) (x:ak) (es:Sq ai)  (h:nd (k.beq k) (Vd QE n g k es)):cW XR 34 uP L QE 16 (vL n k g x es ):=km h
def Bl (n k:Nat) (g:Nat->Nat->O) (x:ak) (es:Sq ai)  : VS:=⟨[mr,(5,.c (.rt 0 k 0),[])],[vr n k g x,ew es,.box [ci 1,ci k,ci 0,ci 1,ci 0,.im (iS ⟨⟨[]⟩⟩)]],[]⟩
theorem SH (L:LP) (QE:D->List ae->Prop) (n k:Nat) (g:Nat->Nat->O) (x:ak) (es:Sq ai)  (h:nd (k.blt n) (nd (k.beq k) (nd (k.beq k) (nd (k.blt n) (nd (k.beq k) (nd (k.beq k) (QE (bool true) [(.bL 40 14 n (g) (.some (k,[(.c (ci 2)),(.c (ci 0)),(.c (ci 0)),(.c (ci 0)),(.c (ci 0)),(.c (.im (.v (.slice .none 0 0)))),(.c (ci 1)),(.c (ci 0)),(.c (.im (.v (.string ⟨⟨[]⟩⟩)))),(.c (.im (.v (.slice .none 0 0)))),(.c (ci 0)),(.c (ci 0)),(.c (ci (-1))),(.c (.im (.v (.bool x.11))))]))),(.bL 68 3 es.1 (λi=>bj (es.2 i)) .none),(.box [(ci 1),(ci (↑k:Int)),(ci 0),(ci 1),(ci 0),(.im (.v (.string ⟨⟨[]⟩⟩)))])]))))))):cW XR 34 uP L QE 8 (Bl n k g x es ):=km h
theorem du.nil {e sz:Nat} {g:Nat->Nat->Go.V.I}:du (.c (.im (.v (.slice none 0 0)))) (.o (.ar e sz 0 g)):=λE av base w K v h=>by
 obtain ⟨rfl,_⟩:=h
 exact ⟨λb hb=>(by cases hb),[],⟨(Nat.zero_mul sz).symm,.inl ⟨rfl,rfl⟩⟩,λi hi=>absurd hi (Nat.not_lt_zero i)⟩
theorem du.gb {sz:Nat} {g:Nat->Nat->Go.V.I}:du (.c (.im (.v (.slice none 0 0)))) (.o (.im (.sl sz 0 g))):=λE av base w K v h=>kx av w v h
theorem XE (v:Int):LC 32 [.c (.im (.sl 1 5 (flat 1 [Go.V.I.v (Value.int IntKind.i64 3),Go.V.I.v (Value.int IntKind.i64 4),Go.V.I.v (Value.int IntKind.i64 10),Go.V.I.v (Value.int IntKind.i64 12),Go.V.I.v (Value.int IntKind.i64 14)]))),int v] [] (bool (mb v ⟨5,λi=>rI (flat 1 [Go.V.I.v (Value.int IntKind.i64 3),Go.V.I.v (Value.int IntKind.i64 4),Go.V.I.v (Value.int IntKind.i64 10),Go.V.I.v (Value.int IntKind.i64 12),Go.V.I.v (Value.int IntKind.i64 14)] i)⟩)) []:=
 bB.pre (CZ _ v) (.cons (qW (dK.sl λi hi j hj=>by
  have hj:j=0:=by omega
  subst hj
  have hi:i<5:=hi
  match i,hi with
  | 0,_=>exact dK.refl _
  | 1,_=>exact dK.refl _
  | 2,_=>exact dK.refl _
  | 3,_=>exact dK.refl _
  | 4,_=>exact dK.refl _)) (.cons (bf.refl _) .nil))
def iH (s:Sq ak) (k:Nat) (x:ak):Sq ak:=⟨s.n,λi=>bif Nat.beq i k then x else s.get i⟩
theorem w4 {s:Sq ak} {k:Nat} {x:ak} {l:List Fc} (h:WO (bo x) l 0):bZ (.bL 40 14 s.n (λi=>bo (s.get i)) (some (k,l))) (bA (iH s k x)):=
 bZ.unf (by show WO (bo (bif Nat.beq k k then x else _)) l 0; simp_all) λi hi wc j hj=>by
  show Ag (bo (s.get i) j) (bo (bif Nat.beq i k then x else s.get i) j)
  rw [Co wc]
  exact Ag.refl _
theorem SK (i0 e0:ae) (s:Sq ak) (k:Nat) (hk:k<s.n) (es:Sq ai):ag 34 2 (Go.V.cd [i0,e0] (bool true) [bA (iH s k dN),ew es]) (ah 34 20) (wQ s.n k (λi=>bo (s.get i)) (s.get k) es):=by
 refine aF (X:=XR) (stop:=uP) (Pq _ _ s.n k (λi=>bo (s.get i)) (s.get k) es ?_)
 refine ay (by simp_all) ?_
 exact ⟨[0,1],bool true,_,_,rfl,(.cons (w4 (x:=dN) ⟨du.cB _,du.cB _,du.cB _,du.cB _,du.cB _,du.nil,du.cB _,du.cB _,du.cB _,du.gb,du.cB _,du.cB _,du.cB _,du.cB _,trivial⟩) (rc .nil)),⟨2,aH rfl,aH rfl,rfl,rfl,bf.refl _,⟨.inr rfl,⟨.inr rfl,trivial⟩⟩⟩⟩
theorem Rw (i0 e0:ae) (s:Sq ak) (k:Nat) (hk:k<s.n) (es:Sq ai):ag 34 2 (Go.V.cd [i0,e0] (bool true) [bA (iH s k dN),ew es]) (ah 34 16) (vL s.n k (λi=>bo (s.get i)) (s.get k) es):=by
 refine aF (X:=XR) (stop:=uP) (MM _ _ s.n k (λi=>bo (s.get i)) (s.get k) es ?_)
 refine ay (by simp_all) ?_
 exact ⟨[0,1],bool true,_,_,rfl,(.cons (w4 (x:=dN) ⟨du.cB _,du.cB _,du.cB _,du.cB _,du.cB _,du.nil,du.cB _,du.cB _,du.cB _,du.gb,du.cB _,du.cB _,du.cB _,du.cB _,trivial⟩) (rc .nil)),⟨2,aH rfl,aH rfl,rfl,rfl,bf.refl _,⟨.inr rfl,⟨.inr rfl,trivial⟩⟩⟩⟩
theorem XI (i0 e0:ae) (s:Sq ak) (k:Nat) (hk:k<s.n) (es:Sq ai):ag 34 2 (Go.V.cd [i0,e0] (bool true) [bA (iH s k (jH (s.get k).once)),ew es]) (ah 34 8) (Bl s.n k (λi=>bo (s.get i)) (s.get k) es):=by
 refine aF (X:=XR) (stop:=uP) (SH _ _ s.n k (λi=>bo (s.get i)) (s.get k) es ?_)
 refine ay (by simp_all) ?_
 refine ay (by simp_all) ?_
 refine ay (by simp_all) ?_
 refine ay (by simp_all) ?_
 refine ay (by simp_all) ?_
 refine ay (by simp_all) ?_
 exact ⟨[0,1],bool true,_,_,rfl,(.cons (w4 (x:=(jH (s.get k).once)) ⟨du.cB _,du.cB _,du.cB _,du.cB _,du.cB _,du.nil,du.cB _,du.cB _,du.cB _,du.gb,du.cB _,du.cB _,du.cB _,du.cB _,trivial⟩) (rc .nil)),⟨2,aH rfl,aH rfl,rfl,rfl,bf.refl _,⟨.inr rfl,⟨.inr rfl,trivial⟩⟩⟩⟩
theorem WJ (t:af) (k:Nat) (hk:k<t.ins.n) (hS:bk t) (ho:(t.ins.get k).op=7∨(t.ins.get k).op=8∨(t.ins.get k).op=11∨(t.ins.get k).op=13):LC 34 [Bo t 0 1,EP 3 k 0 dS] [bA t.ins,ew t.aa] (bool true) [bA (iH t.ins k dN),ew t.aa]:=by
 have n1:∀ {n:Int},n≠7->n≠8->n≠11->n≠13->((t.ins.get k).op==n)=true->False:=λa b c d h=>by grind
 have n2:eV (t.ins.get k).op [1,2,3,4,10,12,14,16,17]=false:=by rcases ho with q|q|q|q<;>rw [q]<;>rfl
 refine cY Wh (aH (by kernel_rfl)) (cU (X:=XK .dead .dead) (stop:=uP) (aa4 _ _ t k .dead .dead ?_))
 refine ay (by grind [aP]) ?_
 refine ay (by simp_all) ?_
 refine aq (λh=>(n1 (by decide) (by decide) (by decide) (by decide) h).elim) (λ_=>?_)
 refine ay (by simp_all) ?_
 refine aq (λh=>(n1 (by decide) (by decide) (by decide) (by decide) h).elim) (λ_=>?_)
 refine ay (by simp_all) ?_
 refine aq (λh=>(n1 (by decide) (by decide) (by decide) (by decide) h).elim) (λ_=>?_)
 refine ay (by simp_all) ?_
 refine ⟨sT _,?_⟩
 refine aq (λh=>Bool.noConfusion (n2.symm.trans h)) (λ_=>?_)
 refine ag.qt 0 k (kI (bo (t.ins.get k)) 14 0) rfl hk rfl (ag.rename [0,1,4] rfl ?_)
 exact ag.lr (wQ t.ins.n k (λi=>bo (t.ins.get i)) (t.ins.get k) t.aa) (SK _ _ t.ins k hk t.aa)
theorem Vp (t:af) (k:Nat) (hk:k<t.ins.n) (hS:bk t) (ho:(t.ins.get k).op=10):LC 34 [Bo t 0 1,EP 1 k 0 BT] [bA t.ins,ew t.aa] (bool true) [bA (iH t.ins k (jH (t.ins.get k).once)),ew t.aa]:=by
 refine cY Wh (aH (by kernel_rfl)) (cU (X:=XK .dead .dead) (stop:=uP) (Zq _ _ t k .dead .dead ?_))
 refine ay (by grind [aP]) ?_
 refine ⟨sX _,?_⟩
 refine ay (by simp_all) ?_
 refine ⟨XE _,?_⟩
 refine aq (λh=>by have h:(!mb (t.ins.get k).op ⟨5,λi=>rI (flat 1 [Go.V.I.v (Value.int IntKind.i64 3),Go.V.I.v (Value.int IntKind.i64 4),Go.V.I.v (Value.int IntKind.i64 10),Go.V.I.v (Value.int IntKind.i64 12),Go.V.I.v (Value.int IntKind.i64 14)] i)⟩)=true:=h; rw [ho] at h; exact Bool.noConfusion h) (λ_=>?_)
 refine ag.qt 0 k (kI (bo (t.ins.get k)) 14 0) rfl hk rfl (ag.rename [0,1,3] rfl ?_)
 exact ag.lr (Bl t.ins.n k (λi=>bo (t.ins.get i)) (t.ins.get k) t.aa) (XI _ _ t.ins k hk t.aa)
theorem W4 (t:af) (k:Nat) (hk:k<t.ins.n) (hS:bk t) (j:Nat) (hjk:j<k) (h1:eV (t.ins.get k).op [1,2,3,4,10,12,14,16,17]=true) (h2:eV (t.ins.get j).op [1,2,3,4,10,12,14,16,17]=true) (h3:((t.ins.get k).op==17)=false) (h4:((t.ins.get j).op==17)=false) (h5:((t.ins.get k).op==1)=false):LC 34 [Bo t 0 1,EP 2 k j dS] [bA t.ins,ew t.aa] (bool true) [bA (iH (aN (fB k j) t.ins t.ins.n) k dN),ew (aN (gx k j) t.aa t.aa.n)]:=by
 have hj:j<t.ins.n:=by omega
 have hc:=λRS h=>bB.jm (Wx t (k:Int) (j:Int) hS) [0,1] RS rfl h
 refine cY Wh (aH (by kernel_rfl)) (cU (X:=XK (bA (aN (fB k j) t.ins t.ins.n)) (ew (aN (gx k j) t.aa t.aa.n))) (stop:=uP) (af1 _ _ t k j (bA (aN (fB k j) t.ins t.ins.n)) (ew (aN (gx k j) t.aa t.aa.n)) ?_))
 refine ay (by grind [aP]) ?_
 refine aq (λh=>by grind) (λ_=>?_)
 refine ay (by grind [aP]) ?_
 refine ay (by simp_all) ?_
 refine ay (by simp_all) ?_
 refine ⟨sT _,?_⟩
 refine aq (λh=>by grind) (λ_=>?_)
 refine ⟨sT _,?_⟩
 refine aq (λh=>by grind) (λ_=>?_)
 refine ay (by simp_all) ?_
 refine aq (λh=>Bool.noConfusion (h3.symm.trans h)) (λ_=>?_)
 refine aq (λh=>Bool.noConfusion (h4.symm.trans h)) (λ_=>?_)
 refine ay (by simp_all) ?_
 refine aq (λh=>Bool.noConfusion (h5.symm.trans h)) (λ_=>?_)
 refine ⟨hc _ ⟨rfl,aH rfl,rfl,aH rfl,rfl⟩,?_⟩
 refine ag.qt 0 k (kI (bo ((aN (fB k j) t.ins t.ins.n).get k)) 14 0) rfl hk rfl (ag.rename [0,1,4] rfl ?_)
 exact ag.lr (vL t.ins.n k (λi=>bo ((aN (fB k j) t.ins t.ins.n).get i)) ((aN (fB k j) t.ins t.ins.n).get k) (aN (gx k j) t.aa t.aa.n)) (Rw _ _ (aN (fB k j) t.ins t.ins.n) k hk (aN (gx k j) t.aa t.aa.n))
open Go Go.V
section
end
section
def E9 (t:af) (k:Nat) (x:ai):af:={ t with aa:=⟨t.aa.n,λi=>bif Nat.beq i k then x else t.aa.get i⟩ }
end
theorem Yd (x:cA):∀ j,j<3->dK (oI (fx x j)) (cK x j)
 | 0,_=>dK.refl _
 | 1,_=>dK.refl _
 | 2,_=>dK.refl _
 | n+3,h=>absurd h (by omega)
theorem dT.im {x y:I} (h:dK x y):dT (.im x) (.im y):=λE av w v q=>h av w v q
section
end
open Go Go.V
section
def XW (t:af) (g:Nat->ak) (ge:Nat->ai):gr:={ F:=ext yg [(16,λds _=>(int (bM (ff ds 0)),[],[])),(20,λ_ rs=>(Bo t rs.length (rs.length+1),[],[bA t.ins,ew t.aa])),(34,λ_ _=>(bool true,[(3,bA ⟨t.ins.n,g⟩),(4,ew ⟨t.aa.n,ge⟩)],[]))],S:=yH }
def uT (t:af) (g:Nat->ak) (ge:Nat->ai):af:=⟨t.place,⟨t.ins.n,g⟩,⟨t.aa.n,ge⟩⟩
def rwZ:D:=.t [(true,[ci 0,ci 0,Si,Si]),(false,[ci 1])]
def LD (u:af):D:=bif bM u != 0 then rwZ else .t [(true,lift (aJ u)),(false,[ci 0])]
end
def ad8:Nat->Bool:=cD
theorem av2:Fn 19:={}
abbrev Mg:D:=.t [(.true,[(ci 0),(ci 0),(.im (.v (.slice .none 0 0))),(.im (.v (.slice .none 0 0)))]),(.false,[(ci 1)])]
abbrev w6 (aj:Int) (aA:Nat) (aB:Int) (aT:iG):List C:=[(ci aj),(ci (↑aA:Int)),(ci aB),(ci aT.1),(ci aT.2),(.im (.v (.string aT.3)))]
abbrev Ca (aj:af):List C:=[(ci aj.1.1),(ci aj.1.2),(.sa 3 aj.2.1),(.sa 4 aj.3.1)]
theorem au1 (L:LP) (QD:D->Prop) (t:af) (g:Nat->ak) (ge:Nat->ai) (kd:Int) (k:Nat) (j:Int) (v:iG) (h:(LC 16 [(iv t)] [] (int (bM t)) []/\br (bM t != 0) (QD (.t [(.true,[(ci 0),(ci 0),(.im (.v (.slice .none 0 0))),(.im (.v (.slice .none 0 0)))]),(.false,[(ci 31)])])) (br (decide ((↑k:Int)≥(↑t.2.1:Int))) (QD Mg) ((LC 20 [(iv t)] [(bE t),(.box (w6 kd k j v)),eK] (.a (Ca t)) [(bE t),(.box (w6 kd k j v)),eK,(ma t),(pk t)]/\(LC 34 [(.a (Ca t)),(.a (w6 kd k j v))] [(bE t),(.box (w6 kd k j v)),eK,(ma t),(pk t),(.box (Ca t))] (bool true) [(bE t),(.box (w6 kd k j v)),eK,(.bL 40 14 t.2.1 (λi=>bo (g i)) .none),(.bL 68 3 t.3.1 (λi=>bj (ge i)) .none),(.box (Ca t))]/\(LC 16 [(.a [(ci t.1.1),(ci t.1.2),(.im (.sl 14 t.2.1 (λi j=>oI (bo (g i) j)))),(.im (.sl 3 t.3.1 (λi j=>oI (bj (ge i) j))))])] [] (int (bM { place:=t.1,ins:={ n:=t.2.1,get:=λi=>g i },aa:={ n:=t.3.1,get:=λi=>ge i } })) []/\br (bM { place:=t.1,ins:={ n:=t.2.1,get:=λi=>g i },aa:={ n:=t.3.1,get:=λi=>ge i } }!=0) (QD Mg) (QD (.t [(.true,[(ci t.1.1),(ci t.1.2),(.im (.sl 14 t.2.1 (λi j=>oI (bo (g i) j)))),(.im (.sl 3 t.3.1 (λi j=>oI (bj (ge i) j))))]),(.false,[(ci 0)])]))))))))):fG (XW t g ge) 19 ad8 L (cy QD) [bH t,EP kd k j v] []:=km h
theorem RQ (x:ak):∀ j,j<14->dK (oI (bo x j)) (bQ x j)
 | 0,_=>dK.refl _
 | 1,_=>dK.refl _
 | 2,_=>dK.refl _
 | 3,_=>dK.refl _
 | 4,_=>dK.refl _
 | 5,_=>dK.refl _
 | 6,_=>dK.refl _
 | 7,_=>dK.refl _
 | 8,_=>dK.refl _
 | 9,_=>dK.refl _
 | 10,_=>dK.refl _
 | 11,_=>dK.refl _
 | 12,_=>dK.refl _
 | 13,_=>dK.refl _
 | n+14,h=>absurd h (by omega)
theorem TV (x:dh):∀ j,j<4->dK (oI (fo x j)) (eM x j)
 | 0,_=>dK.refl _
 | 1,_=>dK.refl _
 | 2,_=>dK.refl _
 | 3,_=>dK.refl _
 | n+4,h=>absurd h (by omega)
theorem VR (x:ai):∀ j,j<3->dK (oI (bj x j)) (bG x j)
 | 0,_=>dK.sl λi _ j hj=>Yd _ j hj
 | 1,_=>dK.sl λi _ j hj=>TV _ j hj
 | 2,_=>dK.refl _
 | n+3,h=>absurd h (by omega)
theorem Cm (u:af):az dT [.im (iI u.place.fn),.im (iI u.place.line),.im (.sl 14 u.ins.n λi j=>oI (bo (u.ins.get i) j)),.im (.sl 3 u.aa.n λi j=>oI (bj (u.aa.get i) j))] (lift (aJ u)):=
 .cons (dT.refl _) (.cons (dT.refl _) (.cons (dT.im (dK.sl λi _ j hj=>RQ _ j hj)) (.cons (dT.im (dK.sl λi _ j hj=>VR _ j hj)) .nil)))
theorem Qi (t:af) (g:Nat->ak) (ge:Nat->ai) (kd:Int) (k:Nat) (j:Int) (v:iG) (hS:bk t) (hk:k<t.ins.n) (h0:bM t=0) (hSu:bk (uT t g ge)) (hc:LC 34 [Bo t 0 1,EP kd k j v] [bA t.ins,ew t.aa] (bool true) [bA ⟨t.ins.n,g⟩,ew ⟨t.aa.n,ge⟩]):LC 19 [bH t,EP kd k j v] [] (LD (uT t g ge)) []:=by
 have hc:=λRS h=>bB.jm hc [3,4] RS rfl h
 refine pv (X:=XW t g ge) (stop:=ad8) av2 (au1 _ _ t g ge kd k j v ⟨I6 t hS,aq (λh=>?_) (λ_=>aq (λh=>?_) (λ_=>⟨bB.jm (Uj t hS) [] _ rfl rfl,hc _ ⟨rfl,aH rfl,rfl,aH rfl,rfl⟩,bB.pre (I6 _ hSu) (.cons (jc (Cm (uT t g ge))) .nil),aq (λh=>?_) (λh=>?_)⟩))⟩)
 .grind
 .grind
 .have h:(bM (uT t g ge)!=0)=true:=h
  show bf _ (LD _)
  unfold LD
  rw [h]
  exact bf.refl _
 .have h:(bM (uT t g ge)!=0)=false:=h
  show bf _ (LD _)
  unfold LD
  rw [h]
  exact Rj (Cm (uT t g ge))
open Go Go.V
section
def F65:FuncId->List D->List ae->Out:=ext yg [(21,λds _=>(int (cp (ff ds 0) (aI ds 1).toNat (aI ds 2).toNat),[],[]))]
def J0:gr:={ F:=F65 }
def ly (t:af) (k:Nat):Nat->Nat->Bool
 | 0,_=>false
 | m+1,j=>bif dE (t.ins.get j).op&&cp t k j==2 then true else bif decide ((t.ins.get j).exit≥0)||(iK (t.ins.get j).op&&cp t k j != 0) then false else ly t k m (j+1)
def ec (t:af) (k:Nat):Bool:=bif dE (t.ins.get k).op then ly t k (t.ins.n-(k+1)) (k+1) else false
def jk (kd k j:Int) (v:iG) (b:Bool):D:=.t [(true,[ci kd,ci k,ci j,ci v.kind,ci v.n,.im (iS v.s)]),(false,[.im (iB b)])]
end
def Qy:Nat->Bool:=λi=>Nat.beq i 5
theorem as7:Fn 18:={}
abbrev pA (aj:Nat):D:=.t [(.true,[(ci 3),(ci (↑aj:Int)),(ci 0),(ci 0),(ci 0),(.im (.v (.string ⟨⟨[]⟩⟩)))]),(.false,[(.im (.v (.bool false)))])]
abbrev qf:gn:=(4,((.c (.rt 1 0 0)),[]))
abbrev vX:gn:=(6,((.c (.rt 2 0 0)),[]))
abbrev mc:ae:=.box [(ci 0),(ci 0),(ci 0),(ci 0),(ci 0),eR]
theorem an8 (L:LP) (QD:D->Prop) (t:af) (k:Nat) (h:nd (dm (↑k:Int) t.2.1) ((LC 33 [(iF t k)] [] (bool (dE (t.2.2 k).1)) []/\br (!dE (t.2.2 k).1) (QD (pA k)) (L (ah 18 5) ⟨[(js k),dw,qf,vX,(7,((int (IntKind.i64.wrap ((↑k:Int)+1))),[]))],[(bE t),mc,(kR k)],[]⟩)))):fG J0 18 Qy L (cy QD) [bH t,int k] []:=km h
def xq (t:af) (k:Nat) (j:Nat):VS:=⟨[(nP k),(2,(.c (.rt 0 0 0)),[]),(4,(.c (.rt 1 0 0)),[]),(6,(.c (.rt 2 0 0)),[]),(7,int j,[])],[(bE t),mc,(kR k)],[]⟩
abbrev Im (aj:Nat):D:=.t [(.true,[(ci 3),(ci (↑aj:Int)),(ci 0),(ci 0),(ci 0),(.im (.v (.string ⟨⟨[]⟩⟩)))]),(.false,[(.im (.v (.bool true)))])]
abbrev CF (aj:af) (aA aB:Nat):List ae:=[(bE aj),mc,(kR aA),(ju aj aB)]
theorem NM (L:LP) (QD:D->Prop) (t:af) (k:Nat) (j:Nat) (h:br (decide ((↑j:Int)<(↑t.2.1:Int))) (nd (dm (↑j:Int) t.2.1) ((LC 21 [(iv t),(int (↑k:Int)),(int (↑j:Int))] [] (int (cp t k j)) []/\(LC 33 [(iF t j)] [] (bool (dE (t.2.2 j).1)) []/\br (dE (t.2.2 j).1) (br (cp t k j==2) (QD (Im k)) (br (decide ((t.2.2 j).10≥0)) (QD (pA k)) ((LC 28 [(iF t j)] [] (bool (iK (t.2.2 j).1)) []/\br (iK (t.2.2 j).1) (br (cp t k j != 0) (QD (pA k)) (L (ah 18 5) ⟨[(js k),dw,qf,vX,(7,((int (IntKind.i64.wrap ((↑j:Int)+1))),[]))],(CF t k j),[]⟩)) (L (ah 18 5) ⟨[(js k),dw,qf,vX,(7,((int (IntKind.i64.wrap ((↑j:Int)+1))),[]))],(CF t k j),[]⟩))))) (br (decide ((t.2.2 j).10≥0)) (QD (pA k)) ((LC 28 [(iF t j)] [] (bool (iK (t.2.2 j).1)) []/\br (iK (t.2.2 j).1) (br (cp t k j != 0) (QD (pA k)) (L (ah 18 5) ⟨[(js k),dw,qf,vX,(7,((int (IntKind.i64.wrap ((↑j:Int)+1))),[]))],(CF t k j),[]⟩)) (L (ah 18 5) ⟨[(js k),dw,qf,vX,(7,((int (IntKind.i64.wrap ((↑j:Int)+1))),[]))],(CF t k j),[]⟩)))))))) (QD (pA k))):cW J0 18 Qy L (cy QD) 5 (xq t k j):=km h
theorem Xw (t:af) (k:Nat) (hk:k<t.ins.n) (hS:bk t) (hm:oC t) (a:Bool):∀ j,j<=t.ins.n->k<j->ly t k (t.ins.n-j) j=a->ag 18 0 (cw (jk 3 k 0 dS a)) (ah 18 5) (xq t k j):=by
 have hN:=hS.ins
 refine bc (λj hj ih hkj ha=>?_) (λhkj ha=>?_)
 .have e:t.ins.n-j=(t.ins.n-(j+1))+1:=by omega
  rw [e] at ha
  have hW:=dy hj (by unfold maxLen; omega:_<=maxLen)
  have h65:LC 21 [bH t,int k,int j] [] (int (cp t k j)) []:=by
   grind [U2]
  replace ih:=λ(_:k<j)=>ih (by omega)
  refine bt (X:=J0) (stop:=Qy) (NM _ _ t k j ?_)
  refine aq (λh0=>?_) (λh=>(dec_lt h hj).elim)
  refine ay (by exact aP hj) ?_
  refine ⟨h65,?_⟩
  refine ⟨tQ _,?_⟩
  refine aq (λh1=>?_) (λh1=>?_)
  .refine aq (λh2=>?_) (λh2=>?_)
   .simp only [ly,show (dE (t.ins.get j).op)=true from h1,show (cp t k j==2)=true from h2,jI] at ha
    subst ha
    exact bf.refl _
   .refine aq (λh3=>?_) (λh3=>?_)
    .simp only [ly,show (dE (t.ins.get j).op)=true from h1,show (cp t k j==2)=false from h2,show (decide ((t.ins.get j).exit≥0))=true from h3,jI] at ha
     subst ha
     exact bf.refl _
    .refine ⟨v8 _,?_⟩
     refine aq (λh4=>?_) (λh4=>?_)
     .grind [dE,iK]
     .simp only [ly,show (dE (t.ins.get j).op)=true from h1,show (cp t k j==2)=false from h2,show (decide ((t.ins.get j).exit≥0))=false from h3,show (iK (t.ins.get j).op)=false from h4,jI] at ha
      rw [hW]
      exact ag.rename [0,1,2] rfl (ag.lr (xq t k (j+1)) (ih hkj ha))
  .refine aq (λh2=>?_) (λh2=>?_)
   .simp only [ly,show (dE (t.ins.get j).op)=false from h1,show (decide ((t.ins.get j).exit≥0))=true from h2,jI] at ha
    subst ha
    exact bf.refl _
   .refine ⟨v8 _,?_⟩
    refine aq (λh3=>?_) (λh3=>?_)
    .refine aq (λh4=>?_) (λh4=>?_)
     .simp only [ly,show (dE (t.ins.get j).op)=false from h1,show (decide ((t.ins.get j).exit≥0))=false from h2,show (iK (t.ins.get j).op)=true from h3,show (cp t k j != 0)=true from h4,jI] at ha
      subst ha
      exact bf.refl _
     .simp only [ly,show (dE (t.ins.get j).op)=false from h1,show (decide ((t.ins.get j).exit≥0))=false from h2,show (iK (t.ins.get j).op)=true from h3,show (cp t k j != 0)=false from h4,jI] at ha
      rw [hW]
      exact ag.rename [0,1,2] rfl (ag.lr (xq t k (j+1)) (ih hkj ha))
    .simp only [ly,show (dE (t.ins.get j).op)=false from h1,show (decide ((t.ins.get j).exit≥0))=false from h2,show (iK (t.ins.get j).op)=false from h3,jI] at ha
     rw [hW]
     exact ag.rename [0,1,2] rfl (ag.lr (xq t k (j+1)) (ih hkj ha))
 .rw [Nat.sub_self] at ha
  refine bt (X:=J0) (stop:=Qy) (NM _ _ t k _ ?_)
  refine aq (λh=>cj h) (λh=>?_)
  have ha:false=a:=ha
  subst ha
  exact bf.refl _
theorem ag2 (t:af) (k:Nat) (hk:k<t.ins.n) (hS:bk t) (hm:oC t):LC 18 [bH t,int k] [] (jk 3 k 0 dS (ec t k)) []:=by
 have hN:=hS.ins
 refine pv (X:=J0) (stop:=Qy) as7 (an8 _ _ t k (ay (aP hk) ⟨tQ _,aq (λh=>?_) (λh=>?_)⟩))
 .have h:(!dE (t.ins.get k).op)=true:=h
  rw [show ec t k=false from by grind [ec]]
  exact bf.refl _
 .have h:(!dE (t.ins.get k).op)=false:=h
  have e:ec t k=ly t k (t.ins.n-(k+1)) (k+1):=by grind [ec]
  rw [dy hk (by unfold maxLen; omega)]
  exact Xw t k hk hS hm _ (k+1) hk (Nat.lt_succ_self k) e.symm
open Go Go.V
section
def Ko (cE:Int->Bool) (y1 y2:Int->ae):gr:={ F:=yg,S:=[1,2,8],FY:=λr ds rs=>(bool (!cE (aI ds 0)),[(1,y1 (aI ds 0)),(2,y2 (aI ds 0)),(r,ED (!cE (aI ds 0)) (aR rs r))],[]) }
def nh (t:af) (cE:Int->Bool):Nat->Option Nat
 | 0=>none
 | j+1=>bif !(t.ins.get j).once then bif cE (Int.ofNat j) then some j else nh t cE j else nh t cE j
end
def zX:Nat->Bool:=λi=>Nat.beq i 1
theorem af5:Fn 54:={}
abbrev HY:gn:=(2,((.c (.rt 5 0 0)),[]))
abbrev nT (aj:Nat):ae:=.box [(ci (↑aj:Int))]
theorem ai9 (L:LP) (QE:D->List ae->Prop) (cE:Int->Bool) (y1 y2:Int->ae) (t:af) (k:Nat) (r0 r1 r2 r3 r4 r5:ae) (f N:Nat) (sl:aL) (ps:List Tmp) (ca cb:Code) (h:L (ah 54 1) ⟨[(0,((.c (.yl 8)),[])),HY,(4,((int (IntKind.i64.wrap ((↑k:Int)-1))),[]))],[r0,r1,r2,r3,r4,(bE t),(nT k),r5,(jC f N sl ps ca cb)],[]⟩):fG (Ko cE y1 y2) 54 zX L QE [.c (.yl 8),.c (.rt 6 0 0),.c (.rt 5 0 0)] [r0,r1,r2,r3,r4,.box (lift (aJ t)),.box [.im (iI k)],r5,.loop f N sl ps ca cb .ready none]:=km h
def IF (cE:Int->Bool) (y1 y2:Int->ae) (t:af) (k:Nat) (r0 r1 r2 r3 r4 r5:ae) (f N:Nat) (sl:aL) (ps:List Tmp) (ca cb:Code) (j:Nat):VS:=⟨[(0,.c (.yl 8),[]),(2,.c (.rt 5 0 0),[]),(4,int j,[])],[r0,r1,r2,r3,r4,.box (lift (aJ t)),.box [.im (iI k)],r5,.loop f N sl ps ca cb .ready none],[]⟩
theorem RY (L:LP) (QE:D->List ae->Prop) (cE:Int->Bool) (y1 y2:Int->ae) (t:af) (k:Nat) (r0 r1 r2 r3 r4 r5:ae) (f N:Nat) (sl:aL) (ps:List Tmp) (ca cb:Code) (j:Nat) (h:nd (dm (↑j:Int) t.2.1) (br (!(t.2.2 j).11) ((lW lE Try.prog 8 [(int (↑j:Int)),(.a (lift (b8 (t.2.2 j))))] [r0,r1,r2,r3,r4,(.box (lift (aJ (t)))),(.box [(ci (↑k:Int))]),r5,(.loop f N sl ps ca cb .ready none),(.box (lift (b8 (t.2.2 j))))] (bool (!cE (Int.ofNat j))) [r0,(y1 (Int.ofNat j)),(y2 (Int.ofNat j)),r3,r4,(.box (lift (aJ (t)))),(.box [(ci (↑k:Int))]),r5,(.loop f N sl ps ca cb (bif !cE (Int.ofNat j) then LoopState.ready else LoopState.done) (bif !cE (Int.ofNat j) then none else some Code.ret)),(.box (lift (b8 (t.2.2 j))))]/\br (!!cE (Int.ofNat j)) (QE (.t []) [r0,(y1 (Int.ofNat j)),(y2 (Int.ofNat j)),r3,r4,(.box (lift (aJ (t)))),(.box [(ci (↑k:Int))]),r5,(.loop f N sl ps ca cb (bif !cE (Int.ofNat j) then LoopState.ready else LoopState.done) (bif !cE (Int.ofNat j) then none else some Code.ret)),(.box (lift (b8 (t.2.2 j))))]) (L (ah 54 1) ⟨[(0,((.c (.yl 8)),[])),HY,(4,((int (IntKind.i64.wrap ((↑j:Int)-1))),[]))],[r0,(y1 (Int.ofNat j)),(y2 (Int.ofNat j)),r3,r4,(bE t),(nT k),r5,(.loop f N sl ps ca cb (bif !cE (Int.ofNat j) then LoopState.ready else LoopState.done) (bif !cE (Int.ofNat j) then none else some Code.ret)),(ju t j)],[]⟩))) (L (ah 54 1) ⟨[(0,((.c (.yl 8)),[])),HY,(4,((int (IntKind.i64.wrap ((↑j:Int)-1))),[]))],[r0,r1,r2,r3,r4,(bE t),(nT k),r5,(jC f N sl ps ca cb),(ju t j)],[]⟩))):cW (Ko cE y1 y2) 54 zX L QE 1 (IF cE y1 y2 t k r0 r1 r2 r3 r4 r5 f N sl ps ca cb j):=km h
def Pv (cE:Int->Bool) (y1 y2:Int->ae) (t:af) (k:Nat) (r0 r1 r2 r3 r4 r5:ae) (f N:Nat) (sl:aL) (ps:List Tmp) (ca cb:Code)  : VS:=⟨[(0,.c (.yl 8),[]),(2,.c (.rt 5 0 0),[]),(4,int (-1),[])],[r0,r1,r2,r3,r4,.box (lift (aJ t)),.box [.im (iI k)],r5,.loop f N sl ps ca cb .ready none],[]⟩
theorem Ml (L:LP) (QE:D->List ae->Prop) (cE:Int->Bool) (y1 y2:Int->ae) (t:af) (k:Nat) (r0 r1 r2 r3 r4 r5:ae) (f N:Nat) (sl:aL) (ps:List Tmp) (ca cb:Code)  (h:QE (.t []) [r0,r1,r2,r3,r4,(.box (lift (aJ (t)))),(.box [(ci (↑k:Int))]),r5,(.loop f N sl ps ca cb .ready none)]):cW (Ko cE y1 y2) 54 zX L QE 1 (Pv cE y1 y2 t k r0 r1 r2 r3 r4 r5 f N sl ps ca cb ):=km h
def Ow (cE:Int->Bool) (y1 y2:Int->ae) (t:af) (k:Nat) (r0 r1 r2 r3 r4 r5:ae) (f N:Nat) (sl:aL) (ps:List Tmp) (ca cb:Code) (o:Option Nat):List ae:=match o with
 | none=>[r0,r1,r2,r3,r4,.box (lift (aJ t)),.box [.im (iI k)],r5,.loop f N sl ps ca cb .ready none]
 | some j=>[r0,(y1 (Int.ofNat j)),(y2 (Int.ofNat j)),r3,r4,.box (lift (aJ t)),.box [.im (iI k)],r5,.loop f N sl ps ca cb .done (some .ret)]
def stB (cE:Int->Bool) (y1 y2:Int->ae) (t:af) (k:Nat) (r0 r1 r2 r3 r4 r5:ae) (f N:Nat) (sl:aL) (ps:List Tmp) (ca cb:Code):Nat->VS
 | 0=>⟨[(0,.c (.yl 8),[]),(2,.c (.rt 5 0 0),[]),(4,int (-1),[])],[r0,r1,r2,r3,r4,.box (lift (aJ t)),.box [.im (iI k)],r5,.loop f N sl ps ca cb .ready none],[]⟩
 | j+1=>IF cE y1 y2 t k r0 r1 r2 r3 r4 r5 f N sl ps ca cb j
theorem xe (j:Nat) (hj:j<=1000):IntKind.i64.wrap ((j:Int)-1)=match j with|0 => -1|j+1=>(j:Int):=by
 cases j with
 | zero=>rfl
 | succ j=>grind [l4]
theorem Y8 (cE:Int->Bool) (y1 y2:Int->ae) (t:af) (k:Nat) (r0 r1 r2 r3 r4 r5:ae) (f N:Nat) (sl:aL) (ps:List Tmp) (ca cb:Code) (hy:∀ (j:Nat) (x:ae),j<k->(t.ins.get j).once=false->lW lE Try.prog 8 [int j,iJ (t.ins.get j)] [r0,r1,r2,r3,r4,.box (lift (aJ t)),.box [.im (iI k)],r5,.loop f N sl ps ca cb .ready none,x] (bool (!cE (Int.ofNat j))) [r0,(y1 (Int.ofNat j)),(y2 (Int.ofNat j)),r3,r4,.box (lift (aJ t)),.box [.im (iI k)],r5,.loop f N sl ps ca cb (bif !cE (Int.ofNat j) then .ready else .done) (bif !cE (Int.ofNat j) then none else some .ret),x]) (hk:k<=t.ins.n) (hN:t.ins.n<=1000) (hw:eh 9 [r0,r1,r2,r3,r4,.box (lift (aJ t)),.box [.im (iI k)],r5,.loop f N sl ps ca cb .ready none]) (he:∀ j:Nat,cE (Int.ofNat j)=false->y1 (Int.ofNat j)=r1/\y2 (Int.ofNat j)=r2) (hl:∀ j:Nat,gK 9 (y1 (Int.ofNat j))=true/\gK 9 (y2 (Int.ofNat j))=true):∀ j,j<=k->ag 54 9 (Go.V.Ends [r0,r1,r2,r3,r4,.box (lift (aJ t)),.box [.im (iI k)],r5,.loop f N sl ps ca cb .ready none] (.t []) (Ow cE y1 y2 t k r0 r1 r2 r3 r4 r5 f N sl ps ca cb (nh t cE j))) (ah 54 1) (stB cE y1 y2 t k r0 r1 r2 r3 r4 r5 f N sl ps ca cb j):=by
 intro j
 induction j with
 | zero=>
   intro _
   refine aF (X:=Ko cE y1 y2) (stop:=zX) (Ml _ _ cE y1 y2 t k r0 r1 r2 r3 r4 r5 f N sl ps ca cb ?_)
   exact ⟨9,aH rfl,aH rfl,rfl,rfl,bf.refl _,by repeat' (first|exact trivial|refine ⟨.inl (.inl rfl),?_⟩|refine ⟨.inr (hl 0).1,?_⟩|refine ⟨.inr (hl 0).2,?_⟩|refine ⟨.inl (.inr ⟨_,_,_,_,_,_,_,_,_,_,rfl,rfl⟩),?_⟩|done)⟩
 | succ j zG=>
   intro hj
   have zG:=zG (by omega)
   refine aF (X:=Ko cE y1 y2) (stop:=zX) (RY _ _ cE y1 y2 t k r0 r1 r2 r3 r4 r5 f N sl ps ca cb j ?_)
   refine ay (by exact aP (by omega)) ?_
   refine aq (λh0=>?_) (λh0=>?_)
   .refine ⟨hy j _ (by omega) (by simpa using h0),?_⟩
    refine aq (λh1=>?_) (λh1=>?_)
    .have h1:(!!cE (Int.ofNat j))=true:=h1
     have h1:cE (Int.ofNat j)=true:=by simpa using h1
     have h0:(!(t.ins.get j).once)=true:=h0
     rw [show nh t cE (j+1)=some j from by show (bif !(t.ins.get j).once then _ else _)=_; rw [h0,h1]; rfl,h1]
     exact ⟨9,aH rfl,aH rfl,rfl,rfl,bf.refl _,by repeat' (first|exact trivial|refine ⟨.inl (.inl rfl),?_⟩|refine ⟨.inr (hl j).1,?_⟩|refine ⟨.inr (hl j).2,?_⟩|refine ⟨.inl (.inr ⟨_,_,_,_,_,_,_,_,_,_,rfl,rfl⟩),?_⟩|done)⟩
    .have h1:(!!cE (Int.ofNat j))=false:=h1
     have h1:cE (Int.ofNat j)=false:=by simpa using h1
     have h0:(!(t.ins.get j).once)=true:=h0
     rw [show nh t cE (j+1)=nh t cE j from by show (bif !(t.ins.get j).once then _ else _)=_; rw [h0,h1]; rfl] at *
     rw [(he j h1).1,(he j h1).2,h1]
     refine ag.cut 9 (bl _) (aH rfl) rfl rfl hw ?_
     rw [xe j (by omega)]
     cases j with
     | zero=>exact zG
     | succ j=>exact zG
   .have h0:(!(t.ins.get j).once)=false:=h0
    rw [show nh t cE (j+1)=nh t cE j from by show (bif !(t.ins.get j).once then _ else _)=_; rw [h0]; rfl] at *
    refine ag.cut 9 (bl _) (aH rfl) rfl rfl hw ?_
    rw [xe j (by omega)]
    cases j with
    | zero=>exact zG
    | succ j=>exact zG
theorem HC (cE:Int->Bool) (y1 y2:Int->ae) (t:af) (k:Nat) (r0 r1 r2 r3 r4 r5:ae) (f N:Nat) (sl:aL) (ps:List Tmp) (ca cb:Code) (hy:∀ (j:Nat) (x:ae),j<k->(t.ins.get j).once=false->lW lE Try.prog 8 [int j,iJ (t.ins.get j)] [r0,r1,r2,r3,r4,.box (lift (aJ t)),.box [.im (iI k)],r5,.loop f N sl ps ca cb .ready none,x] (bool (!cE (Int.ofNat j))) [r0,(y1 (Int.ofNat j)),(y2 (Int.ofNat j)),r3,r4,.box (lift (aJ t)),.box [.im (iI k)],r5,.loop f N sl ps ca cb (bif !cE (Int.ofNat j) then .ready else .done) (bif !cE (Int.ofNat j) then none else some .ret),x]) (hk:k<=t.ins.n) (hN:t.ins.n<=1000) (hw:eh 9 [r0,r1,r2,r3,r4,.box (lift (aJ t)),.box [.im (iI k)],r5,.loop f N sl ps ca cb .ready none]) (he:∀ j:Nat,cE (Int.ofNat j)=false->y1 (Int.ofNat j)=r1/\y2 (Int.ofNat j)=r2) (hl:∀ j:Nat,gK 9 (y1 (Int.ofNat j))=true/\gK 9 (y2 (Int.ofNat j))=true):LC 54 [.c (.yl 8),.c (.rt 6 0 0),.c (.rt 5 0 0)] [r0,r1,r2,r3,r4,.box (lift (aJ t)),.box [.im (iI k)],r5,.loop f N sl ps ca cb .ready none] (.t []) (Ow cE y1 y2 t k r0 r1 r2 r3 r4 r5 f N sl ps ca cb (nh t cE k)):=by
 refine gM af5 (aH (by kernel_rfl)) (cU (X:=Ko cE y1 y2) (stop:=zX) (ai9 _ _ cE y1 y2 t k r0 r1 r2 r3 r4 r5 f N sl ps ca cb ?_))
 rw [xe k (by omega)]
 have:=Y8 cE y1 y2 t k r0 r1 r2 r3 r4 r5 f N sl ps ca cb hy hk hN hw he hl k (bl _)
 revert this
 cases k with
 | zero=>exact id
 | succ k=>exact id
def Ve:Nat->Bool:=cD
theorem af0:Fn 31:={}
theorem YN (L:LP) (QE:D->List ae->Prop) (t:af) (k:Nat) (h:QE (.c (.fh 54 [1,0])) [(.box (lift (aJ (t)))),(.box [(ci (↑k:Int))])]):fG J0 31 Ve L QE [bH t,int k] []:=km h
theorem sL (t:af) (k:Nat):LC 31 [bH t,int k] [] (.c (.fh 54 [1,0])) [.box (lift (aJ t)),.box [.im (iI k)]]:=
 cY af0 (aH (by kernel_rfl)) (cU (X:=J0) (stop:=Ve) (YN _ _ t k ⟨[0,1],.c (.fh 54 [1,0]),_,_,rfl,(rc (rc .nil)),⟨2,aH rfl,aH rfl,rfl,rfl,bf.refl _,⟨rfl,⟨rfl,trivial⟩⟩⟩⟩))
end
end Go.Proofs.Ytapefhcmohbmaaa
