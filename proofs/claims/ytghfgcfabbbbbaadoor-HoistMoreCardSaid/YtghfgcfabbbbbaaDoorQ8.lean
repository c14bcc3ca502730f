/- The two checks of a trace are the same; what follows from them. -/
import Derived.Test.YtghfgcfabbbbbaaDoorQ7
set_option linter.unusedVariables false
set_option linter.unusedSimpArgs false
namespace Go.Proofs.YtghfgcfabbbbbaaDoor
open Go Go.V
theorem vD (x:af) (hn:x.n≤9223372036854775807):aO x=aW x:=by
 obtain ⟨op,a,b,c,n,args,⟨kk,kn,ks⟩,names,⟨pf,pl⟩,exit,once⟩:=x
 by_cases h:0≤op∧op≤21
 ·have:op=0∨op=1∨op=2∨op=3∨op=4∨op=5∨op=6∨op=7∨op=8∨op=9∨op=10∨op=11∨op=12∨op=13∨op=14∨op=15∨op=16∨op=17∨op=18∨op=19∨op=20∨op=21:=by omega
  rcases this with rfl|rfl|rfl|rfl|rfl|rfl|rfl|rfl|rfl|rfl|rfl|rfl|rfl|rfl|rfl|rfl|rfl|rfl|rfl|rfl|rfl|rfl
  ·exact UQ a b c n args kk kn ks names pf pl exit once hn
  ·exact U7 a b c n args kk kn ks names pf pl exit once hn
  ·exact V3 a b c n args kk kn ks names pf pl exit once hn
  ·exact VY a b c n args kk kn ks names pf pl exit once hn
  ·exact Vx a b c n args kk kn ks names pf pl exit once hn
  ·exact TL a b c n args kk kn ks names pf pl exit once hn
  ·exact Vb a b c n args kk kn ks names pf pl exit once hn
  ·exact UL a b c n args kk kn ks names pf pl exit once hn
  ·exact VW a b c n args kk kn ks names pf pl exit once hn
  ·exact V8 a b c n args kk kn ks names pf pl exit once hn
  ·exact QZ a b c n args kk kn ks names pf pl exit once hn
  ·exact Th a b c n args kk kn ks names pf pl exit once hn
  ·exact Tp a b c n args kk kn ks names pf pl exit once hn
  ·exact SS a b c n args kk kn ks names pf pl exit once hn
  ·exact S2 a b c n args kk kn ks names pf pl exit once hn
  ·exact Ts a b c n args kk kn ks names pf pl exit once hn
  ·exact S5 a b c n args kk kn ks names pf pl exit once hn
  ·exact SX a b c n args kk kn ks names pf pl exit once hn
  ·exact Ti a b c n args kk kn ks names pf pl exit once hn
  ·exact Tq a b c n args kk kn ks names pf pl exit once hn
  ·exact Tb a b c n args kk kn ks names pf pl exit once hn
  ·exact SR a b c n args kk kn ks names pf pl exit once hn
 ·have h1:fK op 0 21=false:=by
   unfold fK
   cases h2:decide (op≥0) with
   | false=>rfl
   | true=>
     have h2:=of_decide_eq_true h2
     exact decide_eq_false fun h3=>h ⟨h2,h3⟩
  have h2:(decide (op<0)||decide (op>21))=true:=by
   rw [Bool.or_eq_true,decide_eq_true_eq,decide_eq_true_eq]
   omega
  have h3:aO ⟨op,a,b,c,n,args,⟨kk,kn,ks⟩,names,⟨pf,pl⟩,exit,once⟩=false:=by
   unfold aO iW
   rw [show fK (af.mk op a b c n args ⟨kk,kn,ks⟩ names ⟨pf,pl⟩ exit once).op 0 21=false from h1,Bool.false_and,Bool.and_false]
  have h4:aW ⟨op,a,b,c,n,args,⟨kk,kn,ks⟩,names,⟨pf,pl⟩,exit,once⟩=false:=by
   unfold aW nH
   show (!(decide (op<0)||(decide (op>21)||_))&&_)=false
   rw [← Bool.or_assoc,h2,Bool.true_or]
   rfl
  rw [h3,h4]
theorem R5 (op:Int):(eX op==0) = !qM op:=by
 by_cases h:0≤op∧op≤21
 ·have:op=0∨op=1∨op=2∨op=3∨op=4∨op=5∨op=6∨op=7∨op=8∨op=9∨op=10∨op=11∨op=12∨op=13∨op=14∨op=15∨op=16∨op=17∨op=18∨op=19∨op=20∨op=21:=by omega
  rcases this with rfl|rfl|rfl|rfl|rfl|rfl|rfl|rfl|rfl|rfl|rfl|rfl|rfl|rfl|rfl|rfl|rfl|rfl|rfl|rfl|rfl|rfl<;>rfl
 ·have e:∀ c:Int,0≤c→c≤21→(op==c)=false:=fun c h1 h2=>by
   simp only [beq_eq_false_iff_ne]; omega
  simp [eX,qM,cQ,e]
theorem Pb (op:Int):(eX op==2)=cQ op [5,6,7,8,9,15,18,21]:=by
 by_cases h:0≤op∧op≤21
 ·have:op=0∨op=1∨op=2∨op=3∨op=4∨op=5∨op=6∨op=7∨op=8∨op=9∨op=10∨op=11∨op=12∨op=13∨op=14∨op=15∨op=16∨op=17∨op=18∨op=19∨op=20∨op=21:=by omega
  rcases this with rfl|rfl|rfl|rfl|rfl|rfl|rfl|rfl|rfl|rfl|rfl|rfl|rfl|rfl|rfl|rfl|rfl|rfl|rfl|rfl|rfl|rfl<;>rfl
 ·have e:∀ c:Int,0≤c→c≤21→(op==c)=false:=fun c h1 h2=>by
   simp only [beq_eq_false_iff_ne]; omega
  simp [eX,cQ,e]
theorem Sg (op:Int):Wx op=cQ op [2,3,4,5,6,7,8,9,10,12,14]:=by
 simp [Wx,cQ]
theorem Rt (t:ai) (k:Nat) (hn:(t.ins.get k).n≤9223372036854775807):(a6 t k&&(a12 t k&&(G1 t k&&a20 t k)))=(b3 t k&&(b7 t k&&(b9 t k&&(Lc t k&&G1 t k)))):=by
 unfold a6 a12 a20 b3 b7 b9 Lc
 rw [vD _ hn,R5,Pb,Sg]
 generalize (iv (t.ins.get k)!=((k:Int)==(t.ins.n:Int)-1))=q1
 generalize ((t.ins.get k).op==1)=q2
 generalize decide ((k:Int)≥(ju t.ins:Int))=q3
 generalize aW (t.ins.get k)=q4
 generalize (decide ((k:Int)>0)&&decide ((t.ins.get k).k.n≤(t.ins.get (k-1)).k.n))=q5
 generalize (!((t.ins.get k).op==20&&(((t.ins.get k).args.n:Int)!=(ju t.ins:Int))))=q6
 generalize G1 t k=q7
 generalize (!((t.ins.get k).once && !cQ (t.ins.get k).op [2,3,4,5,6,7,8,9,10,12,14]))=q8
 generalize (!decide ((t.ins.get k).exit < -1)&&(!decide ((t.ins.get k).exit≥(t.aa.n:Int))&&(!(decide ((t.ins.get k).exit≥0) && !qM (t.ins.get k).op) && !(decide ((t.ins.get k).exit<0)&&cQ (t.ins.get k).op [5,6,7,8,9,15,18,21]))))=q9
 revert q1 q2 q3 q4 q5 q6 q7 q8 q9
 decide
theorem R3 (t:ai) (l:List Int) (k:Nat) (hn:(t.ins.get k).n≤9223372036854775807) (hl:∀ i:Nat,dx (i:Int) l=jQ t k i):(o3 t l k).1=lf t k∧((o3 t l k).1=true→∀ i:Nat,dx (i:Int) (o3 t l k).2=jQ t (k+1) i):=by
 have e1:lf t k=((a6 t k&&(a12 t k&&(G1 t k&&a20 t k)))&&TA t k):=by
  unfold lf
  generalize a6 t k=q1
  generalize a12 t k=q2
  generalize G1 t k=q3
  generalize a20 t k=q4
  generalize TA t k=q5
  revert q1 q2 q3 q4 q5
  decide
 have e2:o3 t l k=bif (b3 t k&&(b7 t k&&(b9 t k&&(Lc t k&&G1 t k)))) then Lf t l k else (false,l):=by
  unfold o3 o7 o9 HI V2
  cases b3 t k<;>cases b7 t k<;>cases b9 t k<;>cases Lc t k<;>cases G1 t k<;>rfl
 rw [e1,e2,Rt t k hn]
 cases hp:(b3 t k&&(b7 t k&&(b9 t k&&(Lc t k&&G1 t k)))) with
 | false=>exact ⟨rfl,fun h=>by cases h⟩
 | true=>
   simp only [cond_true,Bool.true_and]
   unfold Lf TA
   cases h0:decide ((t.ins.get k).exit<0) with
   | true=>
     have h1:=of_decide_eq_true h0
     have h2:decide ((t.ins.get k).exit≥0)=false:=decide_eq_false (by omega)
     rw [h2]
     refine ⟨rfl,fun _ i=>?_⟩
     simp only [cond_true]
     rw [sD,hl,show ((t.ins.get k).exit==(i:Int))=false from by simp only [beq_eq_false_iff_ne]; omega,Bool.or_false]
   | false=>
     have h1:=of_decide_eq_false h0
     have h2:decide ((t.ins.get k).exit≥0)=true:=decide_eq_true (by omega)
     rw [h2]
     obtain ⟨m,hm⟩:=Int.eq_ofNat_of_zero_le (show 0≤(t.ins.get k).exit by omega)
     simp only [cond_false,Bool.not_true,Bool.false_or]
     rw [hm,hl,Int.toNat_natCast]
     cases ht:jQ t k m with
     | true=>exact ⟨rfl,fun h=>by cases h⟩
     | false=>
       simp only [cond_false,Bool.not_false,Bool.true_and]
       refine ⟨(SP t _ _).symm,fun _ i=>?_⟩
       rw [wz,hl,sD,hm,int_eq,int_eq]
       congr 1
       rw [eh,beq_iff_eq,beq_iff_eq]
       exact eq_comm
theorem GM (t:ai) (hn:∀ k,k<t.ins.n→(t.ins.get k).n≤9223372036854775807):∀ (m k:Nat) (l:List Int),k+m≤t.ins.n→(∀ i:Nat,dx (i:Int) l=jQ t k i)→uX t m k l=b5 (lf t) m k
 | 0,k,l,_,_=>rfl
 | m+1,k,l,hk,hl=>by
   obtain ⟨h1,h2⟩:=R3 t l k (hn k (by omega)) hl
   show (bif (o3 t l k).1 then uX t m (k+1) (o3 t l k).2 else false)=(bif lf t k then b5 (lf t) m (k+1) else false)
   rw [← h1]
   cases h:(o3 t l k).1 with
   | false=>rfl
   | true=>exact GM t hn m (k+1) _ (by omega) (h2 h)
theorem p9 (t:ai) (hn:∀ k,k<t.ins.n→(t.ins.get k).n≤9223372036854775807):bW t=jH t:=by
 unfold bW jH nT
 rw [GM t hn t.ins.n 0 [] (by omega) (fun i=>by simp [dx,jQ,cL,b5])]
 rfl
theorem GU {t:ai} {k:Nat} (h:lf t k=true):∀ j,j<(aR (t.ins.get k)).n→ek t ((aR (t.ins.get k)).get j) k=true:=by
 intro j hj
 unfold lf G1 at h
 simp only [cG] at h
 have:=fz.1 h.2.2.1 j hj
 unfold u16 at this
 simp only [cG] at this
 exact this.1
theorem HT {t:ai} (h:jH t=0):∀ k,k<t.ins.n→lf t k=true:=by
 unfold jH at h
 have hb:nT t=true:=by
  revert h
  cases decide ((t.ins.n:Int)>200)<;>cases decide ((t.aa.n:Int)>60)<;>cases nT t<;>simp
 unfold nT at hb
 rw [cG] at hb
 exact fz.1 hb.2
end Go.Proofs.YtghfgcfabbbbbaaDoor
set_option maxRecDepth 1000000
namespace Go.Proofs.YtghfgcfabbbbbaaDoor
open Go Go.V
noncomputable section
def nP (x y:af):Bool:=bif y.op==11 then y.n==x.n else false
def sK (y:af):Bool:=y.op==13
def Wo (x:I):af:=match x with
 | .pt _ g=>ij g
 | _=>ij fun _=>.v (.bool false)
def eO (x:I):Nat→Bool:=match x with
 | .pt _ g=>match g 0 with
   | .sl _ _ get=>fun i=>Qr (get i 0)
   | _=>fun _=>false
 | _=>fun _=>false
def sL (p:Nat→Bool) (n:Nat):Bool:=decide (cD p n≥0)
def iw (t:ai) (x:af):Bool := !sL (fun i=>nP x (t.ins.get i)) t.ins.n
def la (t:ai):Bool := !sL (fun i=>sK (t.ins.get i)) t.ins.n
def wx (f:Nat) (cap:Nat→I) (s:Sq af):Int:=bif Nat.beq f 125 then cD (fun i=>nP (Wo (cap 0)) (s.get i)) s.n else cD (fun i=>sK (s.get i)) s.n
def Zu (ds:List D):D:=match aD ds 1 with
 | .c (.im (.fn f _ cap))=>int (wx f cap (EW ij (gD (aD ds 0) 0)))
 | _=>.t []
def Zi (ds:List D):D:=match aD ds 1 with
 | .c (.im (.fn f _ cap))=>bool (decide (wx f cap (EW ij (gD (aD ds 0) 0))≥0))
 | _=>.t []
def Zo (ds:List D):D:=match aD ds 1 with
 | .c (.im x)=>bool (!eO x (aI ds 0).toNat)
 | _=>.t []
def Zs (ds:List D):D:=match aD ds 0,aD ds 1 with
 | .c (.im (.sl _ n get)),.c (.im (.fn _ _ cap))=>int (cD (fun i => !eO (cap 0) (rI (get i)).toNat) n)
 | _,_=>.t []
def Zl (ds:List D):D:=match aD ds 0,aD ds 1 with
 | .c (.im (.sl _ n get)),.c (.im (.fn _ _ cap))=>bool (decide (cD (fun i => !eO (cap 0) (rI (get i)).toNat) n≥0))
 | _,_=>.t []
def YF (t:ai) (x:af) (i:Nat):Bool:=(x.op==10&&((t.ins.get i).op==11&&(t.ins.get i).n==x.n))||(x.op==12&&(t.ins.get i).op==13)
def ZC:Ah:=[
 (29,fun ds rs=>(int (bW (fT ds 0)),[],[])),
 (38,fun ds rs=>(int (jH (fT ds 0)),[],[])),
 (33,fun ds rs=>(Zo ds,[],[])),
 (127,fun ds rs=>(bool (sK (sU ds 0)),[],[])),
 (56,fun ds rs=>(Zs ds,[],[])),
 (32,fun ds rs=>(Zl ds,[],[])),
 (58,fun ds rs=>(Zu ds,[],[])),
 (74,fun ds rs=>(Zi ds,[],[])),
 (123,fun ds rs=>(bool true,[],[])),
 (124,fun ds rs=>(bool (iw (fT ds 0) (sU ds 1)),[],[])),
 (126,fun ds rs=>(bool (la (fT ds 0)),[],[])),
 (39,fun ds rs=>(bool (sL (YF (fT ds 0) (sU ds 1)) (fT ds 0).ins.n),[],[]))]
def Xs (ds:List D):D:=match ds with
 | [_,.c (.im x)]=>bool (nP (Wo x) (sU ds 0))
 | _=>.t []
def FH:FuncId→List D→List ae→Out:=ext If ((125,fun ds _=>(Xs ds,[],[]))::ZC)
def XH:iZ:={ F:=FH }
end
def P1:Nat→Bool:=cM
theorem T8:Fn 33:=⟨by kernel_rfl,by kernel_rfl⟩
theorem Ur (L:LP) (QD:D→Prop) (n:Int) (o:Nat→Bool) (m:Nat) (h:nd (cC n m) (QD (bool (!o n.toNat)))):gL XH 33 P1 L (bF QD) [int n,.c (.im (.pt 1 fun _=>.sl 1 m fun i _=>iB (o i)))] []:=Eq.mp (by kernel_rfl) h
theorem S1 (n:Int) (o:Nat→Bool) (m:Nat) (h:cC n m=true):LC 33 [int n,.c (.im (.pt 1 fun _=>.sl 1 m fun i _=>iB (o i)))] [] (bool (!o n.toNat)) []:=
 bw (X:=XH) (stop:=P1) T8 (aP (by kernel_rfl)) (Ur _ _ n o m (aA h (bp.refl _)))
def Iz:Nat→Bool:=cM
theorem RK:Fn 125:=⟨by kernel_rfl,by kernel_rfl⟩
theorem RZ (L:LP) (QD:D→Prop) (x y:af) (h:br (y.1==11) (QD (bool (y.5==x.5))) (QD (bool false))):gL XH 125 Iz L (bF QD) [j3 y,.c (.im (.pt 14 (bn x)))] []:=Eq.mp (by kernel_rfl) h
theorem N1 (x y:af):LC 125 [j3 y,.c (.im (.pt 14 (bn x)))] [] (bool (nP x y)) []:=by
 refine bw (X:=XH) (stop:=Iz) RK (aP (by kernel_rfl)) (RZ _ _ x y ?_)
 refine ay (fun h=>?_) (fun h=>?_)
 ·rw [show nP x y=(y.n==x.n) from by simp only [nP,show (y.op==11)=true from h,cond_true]]; exact bp.refl _
 ·rw [show nP x y=false from by simp only [nP,show (y.op==11)=false from h,cond_false]]; exact bp.refl _
def Ja:Nat→Bool:=cM
theorem RT:Fn 127:=⟨by kernel_rfl,by kernel_rfl⟩
theorem RL (L:LP) (QD:D→Prop) (y:af) (h:QD (bool (y.1==13))):gL XH 127 Ja L (bF QD) [j3 y] []:=Eq.mp (by kernel_rfl) h
theorem Pk (y:af):LC 127 [j3 y] [] (bool (sK y)) []:=
 bw (X:=XH) (stop:=Ja) RT (aP (by kernel_rfl)) (RL _ _ y (bp.refl _))
def Kf:Nat→Bool:=cM
theorem Sw:Fn 123:=⟨by kernel_rfl,by kernel_rfl⟩
theorem R0 (L:LP) (QD:D→Prop) (t:ai) (x:af) (h:QD (bool true)):gL XH 123 Kf L (bF QD) [dU t,j3 x] []:=Eq.mp (by kernel_rfl) h
theorem eC (t:ai) (x:af):LC 123 [dU t,j3 x] [] (bool true) []:=
 bw (X:=XH) (stop:=Kf) Sw (aP (by kernel_rfl)) (R0 _ _ t x (bp.refl _))
def BC:Nat→Bool:=fun i=>Nat.beq i 2
theorem QP:Fn 56:=⟨by kernel_rfl,by kernel_rfl⟩
theorem UZ (L:LP) (QD:D→Prop) (x:Sq Int) (o:Nat→Bool) (m:Nat) (h:L (aj 56 2) ⟨[(0,((nY x),[])),(1,((.c (.im (.fn 33 1 (fun x=>I.pt 1 fun x=>I.sl 1 m fun i x=>iB (o i))))),[])),(7,((oG x),[])),oB],[],[]⟩):gL XH 56 BC L (bF QD) [eR 1 cg x,.c (.im (.fn 33 1 fun _=>.pt 1 fun _=>.sl 1 m fun i _=>iB (o i)))] []:=Eq.mp (by kernel_rfl) h
noncomputable def Ga (x:Sq Int) (o:Nat→Bool) (m:Nat) (k:Nat):VS:=⟨[(0,(nY x),[]),(1,(.c (.im (.fn 33 1 (fun x=>I.pt 1 fun x=>I.sl 1 m fun i x=>iB (o i))))),[]),(7,(oG x),[]),(8,int k,[])],[],[]⟩
theorem Gg (L:LP) (QD:D→Prop) (x:Sq Int) (o:Nat→Bool) (m:Nat) (k:Nat) (h:br (decide ((↑k:Int)<(↑x.1:Int))) (nd (cC (↑k:Int) x.1) ((LC 33 [(int (x.2 k)),(.c (.im (.pt 1 (fun x=>I.sl 1 m fun i x=>iB (o i)))))] [] (bool (!eO (I.pt 1 fun x=>I.sl 1 m fun i x=>iB (o i)) (x.2 k).toNat)) []∧br (!eO (I.pt 1 fun x=>I.sl 1 m fun i x=>iB (o i)) (x.2 k).toNat) (QD (int (↑k:Int))) (L (aj 56 2) ⟨[(0,((nY x),[])),(1,((.c (.im (.fn 33 1 (fun x=>I.pt 1 fun x=>I.sl 1 m fun i x=>iB (o i))))),[])),(7,((oG x),[])),(8,((int (IntKind.i64.wrap ((↑k:Int)+1))),[]))],[],[]⟩)))) (QD (int (-1)))):dh XH 56 BC L (bF QD) 2 (Ga x o m k):=Eq.mp (by kernel_rfl) h
theorem U6 (x:Sq Int) (o:Nat→Bool) (m:Nat) (hm:∀ i,i<x.n→cC (x.get i) m=true) (a:Int) (hx:x.n≤maxLen):∀ k,k≤x.n→gB (fun i => !o (x.get i).toNat) (x.n-k) k=a→ah 56 0 (cf (int a)) (aj 56 2) (Ga x o m k):=by
 refine bo (fun k hk ih ha=>?_) (fun ha=>?_)
 ·have e:x.n-k=(x.n-(k+1))+1:=by omega
  rw [e] at ha
  refine bD (X:=XH) (stop:=BC) (Gg _ _ x o m k ?_)
  refine ay (fun h=>?_) (fun h=>(dec_lt h hk).elim)
  refine aA (au hk) ⟨S1 _ _ _ (hm k hk),?_⟩
  refine ay (fun h1=>?_) (fun h1=>?_)
  ·rw [jB (p:=fun i => !o (x.get i).toNat) h1] at ha
   subst ha
   exact bp.refl _
  ·rw [iD (p:=fun i => !o (x.get i).toNat) h1] at ha
   rw [cd hk hx]
   exact ih ha
 ·rw [Nat.sub_self] at ha
  refine bD (X:=XH) (stop:=BC) (Gg _ _ x o m _ ?_)
  refine ay (fun h=>?_) (fun h=>?_)
  ·exact cE h
  ·subst ha
   exact bp.refl _
theorem Q0 (x:Sq Int) (o:Nat→Bool) (m:Nat) (hm:∀ i,i<x.n→cC (x.get i) m=true):LC 56 [eR 1 cg x,.c (.im (.fn 33 1 fun _=>.pt 1 fun _=>.sl 1 m fun i _=>iB (o i)))] [] (int (cD (fun i => !o (x.get i).toNat) x.n)) []:=
 cl.with QP (p:=x.n≤maxLen) (fun E av w vs h=>by cases h with|cons q _=>exact na q) fun hx=>
  bw (X:=XH) (stop:=BC) QP (aP (by kernel_rfl)) (UZ _ _ x o m (U6 x o m hm _ hx 0 (bB _) rfl))
def PW:Nat→Bool:=cM
theorem Uq:Fn 32:=⟨by kernel_rfl,by kernel_rfl⟩
theorem VX (L:LP) (QD:D→Prop) (x:Sq Int) (o:Nat→Bool) (m:Nat) (h:(LC 56 [(nY x),(.c (.im (.fn 33 1 (fun x=>I.pt 1 fun x=>I.sl 1 m fun i x=>iB (o i)))))] [] (int (cD (fun i => !eO (I.pt 1 fun x=>I.sl 1 m fun i x=>iB (o i)) (x.2 i).toNat) x.1)) []∧QD (bool (decide (cD (fun i => !eO (I.pt 1 fun x=>I.sl 1 m fun i x=>iB (o i)) (x.2 i).toNat) x.1≥0))))):gL XH 32 PW L (bF QD) [eR 1 cg x,.c (.im (.fn 33 1 fun _=>.pt 1 fun _=>.sl 1 m fun i _=>iB (o i)))] []:=Eq.mp (by kernel_rfl) h
theorem DD (x:Sq Int) (o:Nat→Bool) (m:Nat) (hm:∀ i,i<x.n→cC (x.get i) m=true):LC 32 [eR 1 cg x,.c (.im (.fn 33 1 fun _=>.pt 1 fun _=>.sl 1 m fun i _=>iB (o i)))] [] (bool (sL (fun i => !o (x.get i).toNat) x.n)) []:=
 bw (X:=XH) (stop:=PW) Uq (aP (by kernel_rfl)) (VX _ _ x o m ⟨Q0 x o m hm,bp.refl _⟩)
def nR:Nat→Bool:=fun i=>Nat.beq i 2
theorem FB:Fn 58:=⟨by kernel_rfl,by kernel_rfl⟩
noncomputable abbrev xL (ax:af):D:=.c (.im (.fn 125 1 (fun YQ=>I.pt 14 (bn ax))))
theorem Wc (L:LP) (QD:D→Prop) (s:Sq af) (x:af) (h:L (aj 58 2) ⟨[(oL s),(1,((xL x),[])),(qS s),oB],[],[]⟩):gL XH 58 nR L (bF QD) [eR 14 bn s,.c (.im (.fn 125 1 fun _=>.pt 14 (bn x)))] []:=Eq.mp (by kernel_rfl) h
noncomputable def Fq (s:Sq af) (x:af) (k:Nat):VS:=⟨[(0,(wE s),[]),(1,(xL x),[]),(7,(dy s),[]),(8,int k,[])],[],[]⟩
theorem FF (L:LP) (QD:D→Prop) (s:Sq af) (x:af) (k:Nat) (h:br (decide ((↑k:Int)<(↑s.1:Int))) (nd (cC (↑k:Int) s.1) ((LC 125 [(.a (lift (aT (s.2 k)))),(.c (.im (.pt 14 (bn x))))] [] (bool (nP (Wo (I.pt 14 (bn x))) (s.2 k))) []∧br (nP (Wo (I.pt 14 (bn x))) (s.2 k)) (QD (int (↑k:Int))) (L (aj 58 2) ⟨[(oL s),(1,((xL x),[])),(qS s),(8,((int (IntKind.i64.wrap ((↑k:Int)+1))),[]))],[],[]⟩)))) (QD (int (-1)))):dh XH 58 nR L (bF QD) 2 (Fq s x k):=Eq.mp (by kernel_rfl) h
theorem VL (s:Sq af) (x:af) (a:Int) (hx:s.n≤maxLen):∀ k,k≤s.n→gB (fun i=>nP x (s.get i)) (s.n-k) k=a→ah 58 0 (cf (int a)) (aj 58 2) (Fq s x k):=by
 refine bo (fun k hk ih ha=>?_) (fun ha=>?_)
 ·have e:s.n-k=(s.n-(k+1))+1:=by omega
  rw [e] at ha
  refine bD (X:=XH) (stop:=nR) (FF _ _ s x k ?_)
  refine ay (fun h=>?_) (fun h=>(dec_lt h hk).elim)
  refine aA (au hk) ⟨N1 _ _,?_⟩
  refine ay (fun h1=>?_) (fun h1=>?_)
  ·rw [jB (p:=fun i=>nP x (s.get i)) h1] at ha
   subst ha
   exact bp.refl _
  ·rw [iD (p:=fun i=>nP x (s.get i)) h1] at ha
   rw [cd hk hx]
   exact ih ha
 ·rw [Nat.sub_self] at ha
  refine bD (X:=XH) (stop:=nR) (FF _ _ s x _ ?_)
  refine ay (fun h=>?_) (fun h=>?_)
  ·exact cE h
  ·subst ha
   exact bp.refl _
theorem QX (s:Sq af) (x:af):LC 58 [eR 14 bn s,.c (.im (.fn 125 1 fun _=>.pt 14 (bn x)))] [] (int (cD (fun i=>nP x (s.get i)) s.n)) []:=
 cl.with FB (p:=s.n≤maxLen) (fun E av w vs h=>by cases h with|cons q _=>exact na q) fun hx=>
  bw (X:=XH) (stop:=nR) FB (aP (by kernel_rfl)) (Wc _ _ s x (VL s x _ hx 0 (bB _) rfl))
noncomputable abbrev yT:D:=.c (.im (.fn 127 0 (fun x=>I.v (Value.bool false))))
theorem RJ (L:LP) (QD:D→Prop) (s:Sq af) (h:L (aj 58 2) ⟨[(oL s),(1,(yT,[])),(qS s),oB],[],[]⟩):gL XH 58 nR L (bF QD) [eR 14 bn s,.c (.im (.fn 127 0 fun _=>.v (.bool false)))] []:=Eq.mp (by kernel_rfl) h
noncomputable def A9 (s:Sq af) (k:Nat):VS:=⟨[(0,(wE s),[]),(1,yT,[]),(7,(dy s),[]),(8,int k,[])],[],[]⟩
theorem Bv (L:LP) (QD:D→Prop) (s:Sq af) (k:Nat) (h:br (decide ((↑k:Int)<(↑s.1:Int))) (nd (cC (↑k:Int) s.1) ((LC 127 [(.a (lift (aT (s.2 k))))] [] (bool (sK (s.2 k))) []∧br (sK (s.2 k)) (QD (int (↑k:Int))) (L (aj 58 2) ⟨[(oL s),(1,(yT,[])),(qS s),(8,((int (IntKind.i64.wrap ((↑k:Int)+1))),[]))],[],[]⟩)))) (QD (int (-1)))):dh XH 58 nR L (bF QD) 2 (A9 s k):=Eq.mp (by kernel_rfl) h
theorem Q6 (s:Sq af) (a:Int) (hx:s.n≤maxLen):∀ k,k≤s.n→gB (fun i=>sK (s.get i)) (s.n-k) k=a→ah 58 0 (cf (int a)) (aj 58 2) (A9 s k):=by
 refine bo (fun k hk ih ha=>?_) (fun ha=>?_)
 ·have e:s.n-k=(s.n-(k+1))+1:=by omega
  rw [e] at ha
  refine bD (X:=XH) (stop:=nR) (Bv _ _ s k ?_)
  refine ay (fun h=>?_) (fun h=>(dec_lt h hk).elim)
  refine aA (au hk) ⟨Pk _,?_⟩
  refine ay (fun h1=>?_) (fun h1=>?_)
  ·rw [jB (p:=fun i=>sK (s.get i)) h1] at ha
   subst ha
   exact bp.refl _
  ·rw [iD (p:=fun i=>sK (s.get i)) h1] at ha
   rw [cd hk hx]
   exact ih ha
 ·rw [Nat.sub_self] at ha
  refine bD (X:=XH) (stop:=nR) (Bv _ _ s _ ?_)
  refine ay (fun h=>?_) (fun h=>?_)
  ·exact cE h
  ·subst ha
   exact bp.refl _
theorem Px (s:Sq af):LC 58 [eR 14 bn s,.c (.im (.fn 127 0 fun _=>.v (.bool false)))] [] (int (cD (fun i=>sK (s.get i)) s.n)) []:=
 cl.with FB (p:=s.n≤maxLen) (fun E av w vs h=>by cases h with|cons q _=>exact na q) fun hx=>
  bw (X:=XH) (stop:=nR) FB (aP (by kernel_rfl)) (RJ _ _ s (Q6 s _ hx 0 (bB _) rfl))
def Gy:Nat→Bool:=cM
theorem PK:Fn 74:=⟨by kernel_rfl,by kernel_rfl⟩
theorem Vc (L:LP) (QD:D→Prop) (s:Sq af) (x:af) (h:(LC 58 [(wE s),(xL x)] [] (int (wx 125 (fun YQ=>I.pt 14 (bn x)) s)) []∧QD (bool (decide (wx 125 (fun YQ=>I.pt 14 (bn x)) s≥0))))):gL XH 74 Gy L (bF QD) [eR 14 bn s,.c (.im (.fn 125 1 fun _=>.pt 14 (bn x)))] []:=Eq.mp (by kernel_rfl) h
theorem SY (s:Sq af) (x:af):LC 74 [eR 14 bn s,.c (.im (.fn 125 1 fun _=>.pt 14 (bn x)))] [] (bool (sL (fun i=>nP x (s.get i)) s.n)) []:=
 bw (X:=XH) (stop:=Gy) PK (aP (by kernel_rfl)) (Vc _ _ s x ⟨QX s x,bp.refl _⟩)
theorem Q1 (L:LP) (QD:D→Prop) (s:Sq af) (h:(LC 58 [(wE s),yT] [] (int (wx 127 (fun x=>I.v (Value.bool false)) s)) []∧QD (bool (decide (wx 127 (fun x=>I.v (Value.bool false)) s≥0))))):gL XH 74 Gy L (bF QD) [eR 14 bn s,.c (.im (.fn 127 0 fun _=>.v (.bool false)))] []:=Eq.mp (by kernel_rfl) h
theorem Oj (s:Sq af):LC 74 [eR 14 bn s,.c (.im (.fn 127 0 fun _=>.v (.bool false)))] [] (bool (sL (fun i=>sK (s.get i)) s.n)) []:=
 bw (X:=XH) (stop:=Gy) PK (aP (by kernel_rfl)) (Q1 _ _ s ⟨Px s,bp.refl _⟩)
def KQ:Nat→Bool:=cM
theorem SV:Fn 124:=⟨by kernel_rfl,by kernel_rfl⟩
noncomputable abbrev zE (ax:ai):D:=.c (.im (.sl 14 ax.2.1 (fun i=>bn (ax.2.2 i))))
theorem Sv (L:LP) (QD:D→Prop) (t:ai) (x:af) (h:(LC 74 [(zE t),(.c (.im (.fn 125 1 (fun q=>match nth [I.pt 14 (bu [iI x.1,iI x.2,iI x.3,iI x.4,iI x.5,j7 1 cg x.6,iI x.7.1,iI x.7.2,iS x.7.3,j7 1 ff x.8,iI x.9.1,iI x.9.2,iI x.10,iB x.11])] q with|some x=>x|none=>I.v (Value.tuple #[])))))] [] (bool (decide (wx 125 (bu [I.pt 14 (bu [iI x.1,iI x.2,iI x.3,iI x.4,iI x.5,j7 1 cg x.6,iI x.7.1,iI x.7.2,iS x.7.3,j7 1 ff x.8,iI x.9.1,iI x.9.2,iI x.10,iB x.11])]) t.2≥0))) []∧QD (bool (!decide (wx 125 (bu [I.pt 14 (bu [iI x.1,iI x.2,iI x.3,iI x.4,iI x.5,j7 1 cg x.6,iI x.7.1,iI x.7.2,iS x.7.3,j7 1 ff x.8,iI x.9.1,iI x.9.2,iI x.10,iB x.11])]) t.2≥0))))):gL XH 124 KQ L (bF QD) [dU t,j3 x] []:=Eq.mp (by kernel_rfl) h
theorem AG:∀ (l:List I) (j:Nat),j<l.length→bu l j=TC l j
 | [],j,h=>absurd h (Nat.not_lt_zero j)
 | x::l,0,_=>rfl
 | x::l,j+1,h=>by
   have:=AG l j (by simpa using h)
   exact this
theorem dP.pt {n:Nat} {g g':Nat→I} (h:∀ j,j<n→dP (g j) (g' j)):dP (.pt n g) (.pt n g'):=by
 rintro av w v ⟨ad,h1,h2,h3,h4,h5⟩
 refine ⟨ad,h1,h2,h3,h4,fun j hj=>?_⟩
 obtain ⟨x,q1,q2⟩:=h5 j hj
 exact ⟨x,q1,h j hj _ _ _ q2⟩
theorem dP.fn {f n:Nat} {g g':Nat→I} (h:∀ j,j<n→dP (g j) (g' j)):dP (.fn f n g) (.fn f n g'):=by
 rintro av w v ⟨vs,h1,h2,h3⟩
 refine ⟨vs,h1,h2,fun j hj=>?_⟩
 obtain ⟨x,q1,q2⟩:=h3 j hj
 exact ⟨x,q1,h j hj _ _ _ q2⟩
theorem kM {x y:I} (h:dP x y):bp (.c (.im x)) (.c (.im y)):=fun E av w v q=>h av w v q
theorem H3 (x:af) {g:Nat→I} (h:g 0=.pt 14 (bu (aT x))):bp (.c (.im (.fn 125 1 g))) (.c (.im (.fn 125 1 fun _=>.pt 14 (bn x)))):=
 kM (dP.fn fun j hj=>by
  have hj:j=0:=by omega
  subst hj
  rw [h]
  exact dP.pt fun j hj=>by
   rw [AG _ _ (by exact hj)]
   exact dP.refl _)
theorem ym (t:ai) (x:af):LC 124 [dU t,j3 x] [] (bool (iw t x)) []:=by
 refine bw (X:=XH) (stop:=KQ) SV (aP (by kernel_rfl)) (Sv _ _ t x ⟨?_,?_⟩)
 ·exact cl.pre (SY t.ins x) (.cons (bp.refl _) (.cons (H3 x rfl) .nil))
 ·exact bp.refl _
def LK:Nat→Bool:=cM
theorem R6:Fn 126:=⟨by kernel_rfl,by kernel_rfl⟩
theorem Rq (L:LP) (QD:D→Prop) (t:ai) (x:af) (h:(LC 74 [(zE t),(.c (.im (.fn 127 0 (fun x=>I.v (Value.bool false)))))] [] (bool (decide (wx 127 (fun x=>I.v (Value.bool false)) t.2≥0))) []∧QD (bool (!decide (wx 127 (fun x=>I.v (Value.bool false)) t.2≥0))))):gL XH 126 LK L (bF QD) [dU t,j3 x] []:=Eq.mp (by kernel_rfl) h
theorem zJ (t:ai) (x:af):LC 126 [dU t,j3 x] [] (bool (la t)) []:=
 bw (X:=XH) (stop:=LK) R6 (aP (by kernel_rfl)) (Rq _ _ t x ⟨Oj t.ins,bp.refl _⟩)
open Go Go.V
noncomputable section
def vQ (x:af) (c:Int):af:={ x with op:=c }
def eB (b:Bool):Nat→I:=fun _=>iB b
def e8 (t:ai) (o:Nat→Bool) (x:af):Bool:=
 bif x.op==2 then true else
 bif x.op==4||x.op==9 then o x.a.toNat&&o x.b.toNat else
 bif x.op==10 then iw t x&&o x.a.toNat else
 bif x.op==12 then la t&&(o x.a.toNat&&o x.b.toNat) else
 bif cQ x.op [3,5,6,7,8,14] then o x.a.toNat else false
def fN (t:ai) (y:af) (o:Nat→Bool) (k:Nat):Bool:=bif (t.ins.get k).op==1 then y.args.get k==(k:Int) else e8 t o (t.ins.get k)
def bg (t:ai) (y:af):Nat→Nat→Bool
 | 0=>fun _=>false
 | k+1=>fun i=>bif Nat.beq i k then fN t y (bg t y k) k else bg t y k i
def lh (t:ai):af:=t.ins.get (t.ins.n-1)
def gM (t:ai):Sq Bool:=bif bW t != 0 then ⟨0,fun _=>false⟩ else bif (lh t).op != 20 then ⟨t.ins.n,fun _=>false⟩ else ⟨t.ins.n,bg t (lh t) t.ins.n⟩
end
def cz:Nat→Bool:=fun i=>Nat.beq i 5||Nat.beq i 8||Nat.beq i 12
theorem UY:Fn 10:=⟨by kernel_rfl,by kernel_rfl⟩
noncomputable abbrev ew:jr:=(4,((.c (.rt 3 0 0)),[]))
noncomputable abbrev EN (ax:ai):ae:=.arr 4 1 ax.2.1 (fun x=>bu [I.v (Value.bool false)])
noncomputable abbrev ei (ax:ai):ae:=.box [(.sa 1 ax.2.1)]
theorem Vk (L:LP) (QD:D→Prop) (t:ai) (h:(LC 29 [(.a (bk t))] [] (int (bW t)) []∧br (bW t != 0) (QD (.c dS)) (nd (t.2.1.ble maxLen&&(t.2.1*1).ble 281474976710656) (nd (t.2.1.beq t.2.1) (nd (cC (IntKind.i64.wrap ((↑t.2.1:Int)-1)) t.2.1) (L (aj 10 5) ⟨[dV,cU,ew],[(.box (bk t)),(EN t),(ei t),(.box (lift (aT (t.2.2 (IntKind.i64.wrap ((↑t.2.1:Int)-1)).toNat))))],[]⟩)))))):gL XH 10 cz L (bF QD) [dU t] []:=Eq.mp (by kernel_rfl) h
noncomputable def Nq (t:ai)  : VS:=⟨[pB,(3,(.c (.rt 2 0 0)),[]),(4,(.c (.rt 3 0 0)),[])],[(.box (bk t)),(EN t),(ei t),(.box (lift (aT (t.2.2 (IntKind.i64.wrap ((↑t.2.1:Int)-1)).toNat))))],[]⟩
noncomputable abbrev eH (ax:ai):jr:=(28,((zE ax),[]))
noncomputable abbrev eF (ax:ai):jr:=(29,((j2 ax),[]))
theorem PD (L:LP) (QD:D→Prop) (t:ai)  (h:br ((t.2.2 (IntKind.i64.wrap ((↑t.2.1:Int)-1)).toNat).1 != 20) (QD (.c (.im (.sl 1 t.2.1 (fun x=>bu [I.v (Value.bool false)]))))) (L (aj 10 8) ⟨[dV,cU,ew,(eH t),(eF t),(30,((int 0),[]))],[(.box (bk t)),(EN t),(ei t),(.box (lift (aT (t.2.2 (IntKind.i64.wrap ((↑t.2.1:Int)-1)).toNat))))],[]⟩)):dh XH 10 cz L (bF QD) 5 (Nq t ):=Eq.mp (by kernel_rfl) h
noncomputable abbrev kr:jr:=(1,.c (.rt 0 0 0),[])
noncomputable def bh (t:ai) (y:af) (o:Nat→Bool) (k:Nat):VS:=⟨[kr,me,(4,.c (.rt 3 0 0),[]),(28,.c (.im (j7 14 bn t.ins)),[]),(29,int t.ins.n,[]),(30,int k,[])],[.box (lift (bS t)),.arr 4 1 t.ins.n (fun i _=>iB (o i)),.box [.sa 1 t.ins.n],.box (lift (aT y))],[]⟩
noncomputable abbrev rn (ax:ai) (aX:Nat):ae:=.box (lift (aT (ax.2.2 aX)))
noncomputable abbrev oz (ax:Nat):jr:=(5,((mS ax),[]))
theorem GG (L:LP) (QD:D→Prop) (t:ai) (y:af) (o:Nat→Bool) (k:Nat) (h:br (decide ((↑k:Int)<(↑t.2.1:Int))) (nd (cC (↑k:Int) t.2.1) (br ((t.2.2 k).1==1) (nd (cC (↑k:Int) y.6.1) (nd (cC (↑k:Int) t.2.1) (nd (k.blt t.2.1) (nd (cC (↑k:Int) y.6.1) (nd (cC (↑k:Int) t.2.1) (nd (k.blt t.2.1) (L (aj 10 8) ⟨[dV,cU,ew,(eH t),(eF t),(30,((int (IntKind.i64.wrap ((↑k:Int)+1))),[]))],[(.box (bk t)),(.arr 4 1 t.2.1 (fE (fun i x=>iB (o i)) k 0 [I.v (Value.bool (y.6.2 k==(↑k:Int)))])),(ei t),(cY y),(rn t k)],[]⟩))))))) (L (aj 10 12) ⟨[dV,cU,ew,(oz k),(6,((.c (.rt 4 0 0)),[])),(eH t),(eF t),(30,((int (↑k:Int)),[])),(37,((bool false),[]))],[(.box (bk t)),(.arr 4 1 t.2.1 (fun i x=>iB (o i))),(ei t),(cY y),(rn t k)],[]⟩))) (QD (.c (.im (.sl 1 t.2.1 (fun i x=>iB (o i))))))):dh XH 10 cz L (bF QD) 8 (bh t y o k):=Eq.mp (by kernel_rfl) h
theorem cw.of_eq {x y:ae} (h:x=y):cw x y:=h▸cw.refl x
theorem fJ {n:Nat} {o:Nat→Bool} {k:Nat} {v w:Bool} (hv:v=w):cw (.arr 4 1 n (fE (fun i _=>iB (o i)) k 0 [.v (.bool v)])) (.arr 4 1 n (fun i _=>iB (bif Nat.beq i k then w else o i))):=
 cw.arr fun i _ j hj=>by
  have hj:j=0:=by omega
  subst hj
  subst hv
  show dP (Bool.rec (iB (o i)) (bu [I.v (.bool v)] (0-0)) (Nat.beq i k&&(Nat.ble 0 0&&Nat.blt 0 (0+1)))) (iB (bif Nat.beq i k then v else o i))
  cases Nat.beq i k<;>exact dP.refl _
theorem q0 (p:Nat→Bool):(!decide (cD p 0≥0))=true:=rfl
theorem q1 (o:Nat→Bool) (a:Int):(!decide (cD (fun i => !o (rI (flat 1 [iI a] i)).toNat) 1≥0))=o a.toNat:=by
 show (!decide ((bif !o a.toNat then (0:Int) else -1)≥0))=_
 cases o a.toNat<;>rfl
theorem q2 (o:Nat→Bool) (a b:Int):(!decide (cD (fun i => !o (rI (flat 1 [iI a,iI b] i)).toNat) 2≥0))=(o a.toNat&&o b.toNat):=by
 show (!decide ((bif !o a.toNat then (0:Int) else bif !o b.toNat then (1:Int) else -1)≥0))=_
 cases o a.toNat<;>cases o b.toNat<;>rfl
theorem KS {L:List Int} {n:Nat} (hn:n≤L.length):bp (.c (.im (.sl 1 n (flat 1 (L.map iI))))) (eR 1 cg ⟨n,fun i=>rI (flat 1 (L.map iI) i)⟩):=
 kM (dP.sl fun i hi j hj=>by
  have hj:j=0:=by omega
  subst hj
  show dP (bu (L.map iI) (i*1+0)) (iI (bR (bu (L.map iI) (i*1+0))))
  rw [Nat.mul_one,Nat.add_zero,ml (by omega)]
  exact dP.refl _)
theorem uY {m:Nat} {o:Nat→Bool} {g:Nat→I} (h:g 0=.pt 1 (bu [I.sl 1 m fun i _=>iB (o i)])):bp (.c (.im (.fn 33 1 g))) (.c (.im (.fn 33 1 fun _=>.pt 1 fun _=>.sl 1 m fun i _=>iB (o i)))):=
 kM (dP.fn fun j hj=>by
  have hj:j=0:=by omega
  subst hj
  rw [h]
  exact dP.pt fun j hj=>by
   have hj:j=0:=by omega
   subst hj
   exact dP.refl _)
theorem Qm {n:Nat} {o:Nat→Bool} {g:Nat→I} (h:g 0=.pt 1 (bu [I.sl 1 n fun i _=>iB (o i)])):LC 32 [.c (.im (.sl 1 0 (flat 1 []))),.c (.im (.fn 33 1 g))] [] (bool (decide (cD (fun i => !o (rI (flat 1 []  i)).toNat) 0≥0))) []:=
 cl.pre (DD ⟨0,fun i=>rI (flat 1 [] i)⟩ o n (fun i hi=>absurd hi (Nat.not_lt_zero i))) (.cons (KS (L:=[]) (bf _)) (.cons (uY h) .nil))
theorem kb {n:Nat} {o:Nat→Bool} {g:Nat→I} {a:Int} (h:g 0=.pt 1 (bu [I.sl 1 n fun i _=>iB (o i)])) (ha:cC a n=true):LC 32 [.c (.im (.sl 1 1 (flat 1 [iI a]))),.c (.im (.fn 33 1 g))] [] (bool (decide (cD (fun i => !o (rI (flat 1 [iI a] i)).toNat) 1≥0))) []:=
 cl.pre (DD ⟨1,fun i=>rI (flat 1 [iI a] i)⟩ o n (fun i hi=>by
  have hi:i<1:=hi
  have:i=0:=by omega
  subst this
  exact ha)) (.cons (KS (L:=[a]) (bf _)) (.cons (uY h) .nil))
theorem wM {n:Nat} {o:Nat→Bool} {g:Nat→I} {a b:Int} (h:g 0=.pt 1 (bu [I.sl 1 n fun i _=>iB (o i)])) (ha:cC a n=true) (hb:cC b n=true):LC 32 [.c (.im (.sl 1 2 (flat 1 [iI a,iI b]))),.c (.im (.fn 33 1 g))] [] (bool (decide (cD (fun i => !o (rI (flat 1 [iI a,iI b] i)).toNat) 2≥0))) []:=
 cl.pre (DD ⟨2,fun i=>rI (flat 1 [iI a,iI b] i)⟩ o n (fun i hi=>by
  have hi:i<2:=hi
  match i,hi with
  | 0,_=>exact ha
  | 1,_=>exact hb)) (.cons (KS (L:=[a,b]) (bf _)) (.cons (uY h) .nil))
noncomputable abbrev kz (ax:ai) (aX:Nat):aG:=[kr,me,(4,.c (.rt 3 0 0),[]),(28,.c (.im (j7 14 bn ax.ins)),[]),(29,int ax.ins.n,[]),(30,int aX,[]),(5,int aX,[]),(6,.c (.rt 4 0 0),[])]
noncomputable def ox (t:ai) (y x:af) (o:Nat→Bool) (k:Nat):VS:=⟨(kz t k),[.box (lift (bS t)),.arr 4 1 t.ins.n (fun i _=>iB (o i)),.box [.sa 1 t.ins.n],.box (lift (aT y)),.box (lift (aT (vQ x 0)))],[]⟩
theorem DU (L:LP) (QD:D→Prop) (t:ai) (y x:af) (o:Nat→Bool) (k:Nat) (h:L (aj 10 8) ⟨[dV,cU,ew,(eH t),(eF t),(30,((int (IntKind.i64.wrap ((↑k:Int)+1))),[]))],[(.box (bk t)),(.arr 4 1 t.2.1 (fun i x=>iB (o i))),(ei t),(cY y),(.box (lift (aT ({ op:=Int.ofNat 0,a:=x.2,b:=x.3,c:=x.4,n:=x.5,args:=x.6,k:=x.7,names:=x.8,place:=x.9,exit:=x.10,once:=x.11 }))))],[]⟩):dh XH 10 cz L (bF QD) 12 (ox t y x o k):=Eq.mp (by kernel_rfl) h
theorem OU {Q:D→Prop} (t:ai) (y x:af) (o:Nat→Bool) (k:Nat) (hk:k<t.ins.n) (hx:t.ins.n≤maxLen) (g:ah 10 0 (fun d rs=>cn (aQ rs d) Q) (aj 10 8) (bh t y o (k+1))):ah 10 0 (fun d rs=>cn (aQ rs d) Q) (aj 10 12) (ox t y x o k):=by
 refine reach (X:=XH) (stop:=cz) (DU _ Q t y x o k ?_)
 rw [cd hk hx]
 exact ah.rename [0,1,2,3] rfl g
noncomputable def pz (t:ai) (y x:af) (o:Nat→Bool) (k:Nat):VS:=⟨(kz t k),[.box (lift (bS t)),.arr 4 1 t.ins.n (fun i _=>iB (o i)),.box [.sa 1 t.ins.n],.box (lift (aT y)),.box (lift (aT (vQ x 2)))],[]⟩
noncomputable abbrev Jo (ax:af):List C:=lift (aT ({ op:=Int.ofNat 2,a:=ax.2,b:=ax.3,c:=ax.4,n:=ax.5,args:=ax.6,k:=ax.7,names:=ax.8,place:=ax.9,exit:=ax.10,once:=ax.11 }))
noncomputable abbrev iO (ax:af):ae:=.row 3 1 2 [(ci ax.2),(ci ax.3)]
theorem De (L:LP) (QD:D→Prop) (t:ai) (y x:af) (o:Nat→Bool) (k:Nat) (h:(LC 123 [(.a (bk t)),(.a (Jo x))] [] (bool true) []∧(LC 32 [EE,(.c (.im (.fn 33 1 (fun q=>match nth [I.pt 1 (bu [I.sl 1 t.2.1 fun i x=>iB (o i)])] q with|some x=>x|none=>I.v (Value.tuple #[])))))] [] (bool (decide (cD (fun i => !eO (I.pt 1 (bu [I.sl 1 t.2.1 fun i x=>iB (o i)])) 0) 0≥0))) []∧nd (cC (↑k:Int) t.2.1) (nd (k.blt t.2.1) ((LC 123 [(.a (bk t)),(.a (Jo x))] [] (bool true) []∧(LC 32 [EE,(.c (.im (.fn 33 1 (fun q=>match nth [I.pt 1 (bu [I.sl 1 t.2.1 fun i x=>iB (o i)])] q with|some x=>x|none=>I.v (Value.tuple #[])))))] [] (bool (decide (cD (fun i => !eO (I.pt 1 (bu [I.sl 1 t.2.1 fun i x=>iB (o i)])) 0) 0≥0))) []∧nd (cC (↑k:Int) t.2.1) (nd (k.blt t.2.1) (L (aj 10 8) ⟨[dV,cU,ew,(eH t),(eF t),(30,((int (IntKind.i64.wrap ((↑k:Int)+1))),[]))],[(.box (bk t)),(.arr 4 1 t.2.1 (fE (fun i x=>iB (o i)) k 0 [I.v (Value.bool !decide (cD (fun i => !eO (I.pt 1 (bu [I.sl 1 t.2.1 fun i x=>iB (o i)])) 0) 0≥0))])),(ei t),(cY y),(.box (Jo x)),(iO x),.dead,.dead],[]⟩))))))))):dh XH 10 cz L (bF QD) 12 (pz t y x o k):=Eq.mp (by kernel_rfl) h
theorem PF {Q:D→Prop} (t:ai) (y x:af) (o:Nat→Bool) (k:Nat) (hk:k<t.ins.n) (hx:t.ins.n≤maxLen) (g:ah 10 0 (fun d rs=>cn (aQ rs d) Q) (aj 10 8) (bh t y (fun i=>bif Nat.beq i k then true else o i) (k+1))):ah 10 0 (fun d rs=>cn (aQ rs d) Q) (aj 10 12) (pz t y x o k):=by
 refine reach (X:=XH) (stop:=cz) (De _ Q t y x o k ?_)
 refine ⟨eC _ _,?_⟩
 refine ⟨Qm rfl,?_⟩
 refine aA (by first|assumption|exact au hk|(simpa [cX] using hk)) ?_
 refine aA (by first|assumption|exact au hk|(simpa [cX] using hk)) ?_
 refine ⟨eC _ _,?_⟩
 refine ⟨Qm rfl,?_⟩
 refine aA (by first|assumption|exact au hk|(simpa [cX] using hk)) ?_
 refine aA (by first|assumption|exact au hk|(simpa [cX] using hk)) ?_
 rw [cd hk hx]
 exact ah.rename [0,1,2,3] rfl (ah.le (bh t y (fun i=>bif Nat.beq i k then true else o i) (k+1)) (by repeat' (first|exact trivial|refine cR rfl ?_)) (rc (.cons (fJ (q0 _)) (rc (rc .nil)))) rfl g)
noncomputable def oP (t:ai) (y x:af) (o:Nat→Bool) (k:Nat):VS:=⟨(kz t k),[.box (lift (bS t)),.arr 4 1 t.ins.n (fun i _=>iB (o i)),.box [.sa 1 t.ins.n],.box (lift (aT y)),.box (lift (aT (vQ x 3)))],[]⟩
noncomputable abbrev LH (ax:af):List C:=lift (aT ({ op:=Int.ofNat 3,a:=ax.2,b:=ax.3,c:=ax.4,n:=ax.5,args:=ax.6,k:=ax.7,names:=ax.8,place:=ax.9,exit:=ax.10,once:=ax.11 }))
theorem EG (L:LP) (QD:D→Prop) (t:ai) (y x:af) (o:Nat→Bool) (k:Nat) (h:(LC 123 [(.a (bk t)),(.a (LH x))] [] (bool true) []∧(LC 32 [(jh x),(.c (.im (.fn 33 1 (fun q=>match nth [I.pt 1 (bu [I.sl 1 t.2.1 fun i x=>iB (o i)])] q with|some x=>x|none=>I.v (Value.tuple #[])))))] [] (bool (decide (cD (fun i => !eO (I.pt 1 (bu [I.sl 1 t.2.1 fun i x=>iB (o i)])) (rI (flat 1 [iI x.2] i)).toNat) 1≥0))) []∧nd (cC (↑k:Int) t.2.1) (nd (k.blt t.2.1) ((LC 123 [(.a (bk t)),(.a (LH x))] [] (bool true) []∧(LC 32 [(jh x),(.c (.im (.fn 33 1 (fun q=>match nth [I.pt 1 (bu [I.sl 1 t.2.1 fun i x=>iB (o i)])] q with|some x=>x|none=>I.v (Value.tuple #[])))))] [] (bool (decide (cD (fun i => !eO (I.pt 1 (bu [I.sl 1 t.2.1 fun i x=>iB (o i)])) (rI (flat 1 [iI x.2] i)).toNat) 1≥0))) []∧nd (cC (↑k:Int) t.2.1) (nd (k.blt t.2.1) (L (aj 10 8) ⟨[dV,cU,ew,(eH t),(eF t),(30,((int (IntKind.i64.wrap ((↑k:Int)+1))),[]))],[(.box (bk t)),(.arr 4 1 t.2.1 (fE (fun i x=>iB (o i)) k 0 [I.v (Value.bool !decide (cD (fun i => !eO (I.pt 1 (bu [I.sl 1 t.2.1 fun i x=>iB (o i)])) (rI (flat 1 [iI x.2] i)).toNat) 1≥0))])),(ei t),(cY y),(.box (LH x)),(iO x),.dead,.dead],[]⟩))))))))):dh XH 10 cz L (bF QD) 12 (oP t y x o k):=Eq.mp (by kernel_rfl) h
theorem OM {Q:D→Prop} (t:ai) (y x:af) (o:Nat→Bool) (k:Nat) (hk:k<t.ins.n) (hx:t.ins.n≤maxLen) (ha:cC x.a t.ins.n=true) (g:ah 10 0 (fun d rs=>cn (aQ rs d) Q) (aj 10 8) (bh t y (fun i=>bif Nat.beq i k then o x.a.toNat else o i) (k+1))):ah 10 0 (fun d rs=>cn (aQ rs d) Q) (aj 10 12) (oP t y x o k):=by
 refine reach (X:=XH) (stop:=cz) (EG _ Q t y x o k ?_)
 refine ⟨eC _ _,?_⟩
 refine ⟨kb rfl ha,?_⟩
 refine aA (by first|assumption|exact au hk|(simpa [cX] using hk)) ?_
 refine aA (by first|assumption|exact au hk|(simpa [cX] using hk)) ?_
 refine ⟨eC _ _,?_⟩
 refine ⟨kb rfl ha,?_⟩
 refine aA (by first|assumption|exact au hk|(simpa [cX] using hk)) ?_
 refine aA (by first|assumption|exact au hk|(simpa [cX] using hk)) ?_
 rw [cd hk hx]
 exact ah.rename [0,1,2,3] rfl (ah.le (bh t y (fun i=>bif Nat.beq i k then o x.a.toNat else o i) (k+1)) (by repeat' (first|exact trivial|refine cR rfl ?_)) (rc (.cons (fJ (q1 o x.a)) (rc (rc .nil)))) rfl g)
noncomputable def pF (t:ai) (y x:af) (o:Nat→Bool) (k:Nat):VS:=⟨(kz t k),[.box (lift (bS t)),.arr 4 1 t.ins.n (fun i _=>iB (o i)),.box [.sa 1 t.ins.n],.box (lift (aT y)),.box (lift (aT (vQ x 4)))],[]⟩
noncomputable abbrev L9 (ax:af):List C:=lift (aT ({ op:=Int.ofNat 4,a:=ax.2,b:=ax.3,c:=ax.4,n:=ax.5,args:=ax.6,k:=ax.7,names:=ax.8,place:=ax.9,exit:=ax.10,once:=ax.11 }))
theorem Dm (L:LP) (QD:D→Prop) (t:ai) (y x:af) (o:Nat→Bool) (k:Nat) (h:(LC 123 [(.a (bk t)),(.a (L9 x))] [] (bool true) []∧(LC 32 [(sj x),(.c (.im (.fn 33 1 (fun q=>match nth [I.pt 1 (bu [I.sl 1 t.2.1 fun i x=>iB (o i)])] q with|some x=>x|none=>I.v (Value.tuple #[])))))] [] (bool (decide (cD (fun i => !eO (I.pt 1 (bu [I.sl 1 t.2.1 fun i x=>iB (o i)])) (rI (flat 1 [iI x.2,iI x.3] i)).toNat) 2≥0))) []∧nd (cC (↑k:Int) t.2.1) (nd (k.blt t.2.1) ((LC 123 [(.a (bk t)),(.a (L9 x))] [] (bool true) []∧(LC 32 [(sj x),(.c (.im (.fn 33 1 (fun q=>match nth [I.pt 1 (bu [I.sl 1 t.2.1 fun i x=>iB (o i)])] q with|some x=>x|none=>I.v (Value.tuple #[])))))] [] (bool (decide (cD (fun i => !eO (I.pt 1 (bu [I.sl 1 t.2.1 fun i x=>iB (o i)])) (rI (flat 1 [iI x.2,iI x.3] i)).toNat) 2≥0))) []∧nd (cC (↑k:Int) t.2.1) (nd (k.blt t.2.1) (L (aj 10 8) ⟨[dV,cU,ew,(eH t),(eF t),(30,((int (IntKind.i64.wrap ((↑k:Int)+1))),[]))],[(.box (bk t)),(.arr 4 1 t.2.1 (fE (fun i x=>iB (o i)) k 0 [I.v (Value.bool !decide (cD (fun i => !eO (I.pt 1 (bu [I.sl 1 t.2.1 fun i x=>iB (o i)])) (rI (flat 1 [iI x.2,iI x.3] i)).toNat) 2≥0))])),(ei t),(cY y),(.box (L9 x)),(iO x),.dead,.dead],[]⟩))))))))):dh XH 10 cz L (bF QD) 12 (pF t y x o k):=Eq.mp (by kernel_rfl) h
theorem NM {Q:D→Prop} (t:ai) (y x:af) (o:Nat→Bool) (k:Nat) (hk:k<t.ins.n) (hx:t.ins.n≤maxLen) (ha:cC x.a t.ins.n=true) (hb:cC x.b t.ins.n=true) (g:ah 10 0 (fun d rs=>cn (aQ rs d) Q) (aj 10 8) (bh t y (fun i=>bif Nat.beq i k then (o x.a.toNat&&o x.b.toNat) else o i) (k+1))):ah 10 0 (fun d rs=>cn (aQ rs d) Q) (aj 10 12) (pF t y x o k):=by
 refine reach (X:=XH) (stop:=cz) (Dm _ Q t y x o k ?_)
 refine ⟨eC _ _,?_⟩
 refine ⟨wM rfl ha hb,?_⟩
 refine aA (by first|assumption|exact au hk|(simpa [cX] using hk)) ?_
 refine aA (by first|assumption|exact au hk|(simpa [cX] using hk)) ?_
 refine ⟨eC _ _,?_⟩
 refine ⟨wM rfl ha hb,?_⟩
 refine aA (by first|assumption|exact au hk|(simpa [cX] using hk)) ?_
 refine aA (by first|assumption|exact au hk|(simpa [cX] using hk)) ?_
 rw [cd hk hx]
 exact ah.rename [0,1,2,3] rfl (ah.le (bh t y (fun i=>bif Nat.beq i k then (o x.a.toNat&&o x.b.toNat) else o i) (k+1)) (by repeat' (first|exact trivial|refine cR rfl ?_)) (rc (.cons (fJ (q2 o x.a x.b)) (rc (rc .nil)))) rfl g)
noncomputable def oD (t:ai) (y x:af) (o:Nat→Bool) (k:Nat):VS:=⟨(kz t k),[.box (lift (bS t)),.arr 4 1 t.ins.n (fun i _=>iB (o i)),.box [.sa 1 t.ins.n],.box (lift (aT y)),.box (lift (aT (vQ x 5)))],[]⟩
noncomputable abbrev JL (ax:af):List C:=lift (aT ({ op:=Int.ofNat 5,a:=ax.2,b:=ax.3,c:=ax.4,n:=ax.5,args:=ax.6,k:=ax.7,names:=ax.8,place:=ax.9,exit:=ax.10,once:=ax.11 }))
theorem DN (L:LP) (QD:D→Prop) (t:ai) (y x:af) (o:Nat→Bool) (k:Nat) (h:(LC 123 [(.a (bk t)),(.a (JL x))] [] (bool true) []∧(LC 32 [(jh x),(.c (.im (.fn 33 1 (fun q=>match nth [I.pt 1 (bu [I.sl 1 t.2.1 fun i x=>iB (o i)])] q with|some x=>x|none=>I.v (Value.tuple #[])))))] [] (bool (decide (cD (fun i => !eO (I.pt 1 (bu [I.sl 1 t.2.1 fun i x=>iB (o i)])) (rI (flat 1 [iI x.2] i)).toNat) 1≥0))) []∧nd (cC (↑k:Int) t.2.1) (nd (k.blt t.2.1) ((LC 123 [(.a (bk t)),(.a (JL x))] [] (bool true) []∧(LC 32 [(jh x),(.c (.im (.fn 33 1 (fun q=>match nth [I.pt 1 (bu [I.sl 1 t.2.1 fun i x=>iB (o i)])] q with|some x=>x|none=>I.v (Value.tuple #[])))))] [] (bool (decide (cD (fun i => !eO (I.pt 1 (bu [I.sl 1 t.2.1 fun i x=>iB (o i)])) (rI (flat 1 [iI x.2] i)).toNat) 1≥0))) []∧nd (cC (↑k:Int) t.2.1) (nd (k.blt t.2.1) (L (aj 10 8) ⟨[dV,cU,ew,(eH t),(eF t),(30,((int (IntKind.i64.wrap ((↑k:Int)+1))),[]))],[(.box (bk t)),(.arr 4 1 t.2.1 (fE (fun i x=>iB (o i)) k 0 [I.v (Value.bool !decide (cD (fun i => !eO (I.pt 1 (bu [I.sl 1 t.2.1 fun i x=>iB (o i)])) (rI (flat 1 [iI x.2] i)).toNat) 1≥0))])),(ei t),(cY y),(.box (JL x)),(iO x),.dead,.dead],[]⟩))))))))):dh XH 10 cz L (bF QD) 12 (oD t y x o k):=Eq.mp (by kernel_rfl) h
theorem PH {Q:D→Prop} (t:ai) (y x:af) (o:Nat→Bool) (k:Nat) (hk:k<t.ins.n) (hx:t.ins.n≤maxLen) (ha:cC x.a t.ins.n=true) (g:ah 10 0 (fun d rs=>cn (aQ rs d) Q) (aj 10 8) (bh t y (fun i=>bif Nat.beq i k then o x.a.toNat else o i) (k+1))):ah 10 0 (fun d rs=>cn (aQ rs d) Q) (aj 10 12) (oD t y x o k):=by
 refine reach (X:=XH) (stop:=cz) (DN _ Q t y x o k ?_)
 refine ⟨eC _ _,?_⟩
 refine ⟨kb rfl ha,?_⟩
 refine aA (by first|assumption|exact au hk|(simpa [cX] using hk)) ?_
 refine aA (by first|assumption|exact au hk|(simpa [cX] using hk)) ?_
 refine ⟨eC _ _,?_⟩
 refine ⟨kb rfl ha,?_⟩
 refine aA (by first|assumption|exact au hk|(simpa [cX] using hk)) ?_
 refine aA (by first|assumption|exact au hk|(simpa [cX] using hk)) ?_
 rw [cd hk hx]
 exact ah.rename [0,1,2,3] rfl (ah.le (bh t y (fun i=>bif Nat.beq i k then o x.a.toNat else o i) (k+1)) (by repeat' (first|exact trivial|refine cR rfl ?_)) (rc (.cons (fJ (q1 o x.a)) (rc (rc .nil)))) rfl g)
noncomputable def py (t:ai) (y x:af) (o:Nat→Bool) (k:Nat):VS:=⟨(kz t k),[.box (lift (bS t)),.arr 4 1 t.ins.n (fun i _=>iB (o i)),.box [.sa 1 t.ins.n],.box (lift (aT y)),.box (lift (aT (vQ x 6)))],[]⟩
noncomputable abbrev Kz (ax:af):List C:=lift (aT ({ op:=Int.ofNat 6,a:=ax.2,b:=ax.3,c:=ax.4,n:=ax.5,args:=ax.6,k:=ax.7,names:=ax.8,place:=ax.9,exit:=ax.10,once:=ax.11 }))
theorem Eb (L:LP) (QD:D→Prop) (t:ai) (y x:af) (o:Nat→Bool) (k:Nat) (h:(LC 123 [(.a (bk t)),(.a (Kz x))] [] (bool true) []∧(LC 32 [(jh x),(.c (.im (.fn 33 1 (fun q=>match nth [I.pt 1 (bu [I.sl 1 t.2.1 fun i x=>iB (o i)])] q with|some x=>x|none=>I.v (Value.tuple #[])))))] [] (bool (decide (cD (fun i => !eO (I.pt 1 (bu [I.sl 1 t.2.1 fun i x=>iB (o i)])) (rI (flat 1 [iI x.2] i)).toNat) 1≥0))) []∧nd (cC (↑k:Int) t.2.1) (nd (k.blt t.2.1) ((LC 123 [(.a (bk t)),(.a (Kz x))] [] (bool true) []∧(LC 32 [(jh x),(.c (.im (.fn 33 1 (fun q=>match nth [I.pt 1 (bu [I.sl 1 t.2.1 fun i x=>iB (o i)])] q with|some x=>x|none=>I.v (Value.tuple #[])))))] [] (bool (decide (cD (fun i => !eO (I.pt 1 (bu [I.sl 1 t.2.1 fun i x=>iB (o i)])) (rI (flat 1 [iI x.2] i)).toNat) 1≥0))) []∧nd (cC (↑k:Int) t.2.1) (nd (k.blt t.2.1) (L (aj 10 8) ⟨[dV,cU,ew,(eH t),(eF t),(30,((int (IntKind.i64.wrap ((↑k:Int)+1))),[]))],[(.box (bk t)),(.arr 4 1 t.2.1 (fE (fun i x=>iB (o i)) k 0 [I.v (Value.bool !decide (cD (fun i => !eO (I.pt 1 (bu [I.sl 1 t.2.1 fun i x=>iB (o i)])) (rI (flat 1 [iI x.2] i)).toNat) 1≥0))])),(ei t),(cY y),(.box (Kz x)),(iO x),.dead,.dead],[]⟩))))))))):dh XH 10 cz L (bF QD) 12 (py t y x o k):=Eq.mp (by kernel_rfl) h
theorem Nz {Q:D→Prop} (t:ai) (y x:af) (o:Nat→Bool) (k:Nat) (hk:k<t.ins.n) (hx:t.ins.n≤maxLen) (ha:cC x.a t.ins.n=true) (g:ah 10 0 (fun d rs=>cn (aQ rs d) Q) (aj 10 8) (bh t y (fun i=>bif Nat.beq i k then o x.a.toNat else o i) (k+1))):ah 10 0 (fun d rs=>cn (aQ rs d) Q) (aj 10 12) (py t y x o k):=by
 refine reach (X:=XH) (stop:=cz) (Eb _ Q t y x o k ?_)
 refine ⟨eC _ _,?_⟩
 refine ⟨kb rfl ha,?_⟩
 refine aA (by first|assumption|exact au hk|(simpa [cX] using hk)) ?_
 refine aA (by first|assumption|exact au hk|(simpa [cX] using hk)) ?_
 refine ⟨eC _ _,?_⟩
 refine ⟨kb rfl ha,?_⟩
 refine aA (by first|assumption|exact au hk|(simpa [cX] using hk)) ?_
 refine aA (by first|assumption|exact au hk|(simpa [cX] using hk)) ?_
 rw [cd hk hx]
 exact ah.rename [0,1,2,3] rfl (ah.le (bh t y (fun i=>bif Nat.beq i k then o x.a.toNat else o i) (k+1)) (by repeat' (first|exact trivial|refine cR rfl ?_)) (rc (.cons (fJ (q1 o x.a)) (rc (rc .nil)))) rfl g)
noncomputable def pE (t:ai) (y x:af) (o:Nat→Bool) (k:Nat):VS:=⟨(kz t k),[.box (lift (bS t)),.arr 4 1 t.ins.n (fun i _=>iB (o i)),.box [.sa 1 t.ins.n],.box (lift (aT y)),.box (lift (aT (vQ x 7)))],[]⟩
noncomputable abbrev Jl (ax:af):List C:=lift (aT ({ op:=Int.ofNat 7,a:=ax.2,b:=ax.3,c:=ax.4,n:=ax.5,args:=ax.6,k:=ax.7,names:=ax.8,place:=ax.9,exit:=ax.10,once:=ax.11 }))
theorem C2 (L:LP) (QD:D→Prop) (t:ai) (y x:af) (o:Nat→Bool) (k:Nat) (h:(LC 123 [(.a (bk t)),(.a (Jl x))] [] (bool true) []∧(LC 32 [(jh x),(.c (.im (.fn 33 1 (fun q=>match nth [I.pt 1 (bu [I.sl 1 t.2.1 fun i x=>iB (o i)])] q with|some x=>x|none=>I.v (Value.tuple #[])))))] [] (bool (decide (cD (fun i => !eO (I.pt 1 (bu [I.sl 1 t.2.1 fun i x=>iB (o i)])) (rI (flat 1 [iI x.2] i)).toNat) 1≥0))) []∧nd (cC (↑k:Int) t.2.1) (nd (k.blt t.2.1) ((LC 123 [(.a (bk t)),(.a (Jl x))] [] (bool true) []∧(LC 32 [(jh x),(.c (.im (.fn 33 1 (fun q=>match nth [I.pt 1 (bu [I.sl 1 t.2.1 fun i x=>iB (o i)])] q with|some x=>x|none=>I.v (Value.tuple #[])))))] [] (bool (decide (cD (fun i => !eO (I.pt 1 (bu [I.sl 1 t.2.1 fun i x=>iB (o i)])) (rI (flat 1 [iI x.2] i)).toNat) 1≥0))) []∧nd (cC (↑k:Int) t.2.1) (nd (k.blt t.2.1) (L (aj 10 8) ⟨[dV,cU,ew,(eH t),(eF t),(30,((int (IntKind.i64.wrap ((↑k:Int)+1))),[]))],[(.box (bk t)),(.arr 4 1 t.2.1 (fE (fun i x=>iB (o i)) k 0 [I.v (Value.bool !decide (cD (fun i => !eO (I.pt 1 (bu [I.sl 1 t.2.1 fun i x=>iB (o i)])) (rI (flat 1 [iI x.2] i)).toNat) 1≥0))])),(ei t),(cY y),(.box (Jl x)),(iO x),.dead,.dead],[]⟩))))))))):dh XH 10 cz L (bF QD) 12 (pE t y x o k):=Eq.mp (by kernel_rfl) h
theorem Oa {Q:D→Prop} (t:ai) (y x:af) (o:Nat→Bool) (k:Nat) (hk:k<t.ins.n) (hx:t.ins.n≤maxLen) (ha:cC x.a t.ins.n=true) (g:ah 10 0 (fun d rs=>cn (aQ rs d) Q) (aj 10 8) (bh t y (fun i=>bif Nat.beq i k then o x.a.toNat else o i) (k+1))):ah 10 0 (fun d rs=>cn (aQ rs d) Q) (aj 10 12) (pE t y x o k):=by
 refine reach (X:=XH) (stop:=cz) (C2 _ Q t y x o k ?_)
 refine ⟨eC _ _,?_⟩
 refine ⟨kb rfl ha,?_⟩
 refine aA (by first|assumption|exact au hk|(simpa [cX] using hk)) ?_
 refine aA (by first|assumption|exact au hk|(simpa [cX] using hk)) ?_
 refine ⟨eC _ _,?_⟩
 refine ⟨kb rfl ha,?_⟩
 refine aA (by first|assumption|exact au hk|(simpa [cX] using hk)) ?_
 refine aA (by first|assumption|exact au hk|(simpa [cX] using hk)) ?_
 rw [cd hk hx]
 exact ah.rename [0,1,2,3] rfl (ah.le (bh t y (fun i=>bif Nat.beq i k then o x.a.toNat else o i) (k+1)) (by repeat' (first|exact trivial|refine cR rfl ?_)) (rc (.cons (fJ (q1 o x.a)) (rc (rc .nil)))) rfl g)
noncomputable def pc (t:ai) (y x:af) (o:Nat→Bool) (k:Nat):VS:=⟨(kz t k),[.box (lift (bS t)),.arr 4 1 t.ins.n (fun i _=>iB (o i)),.box [.sa 1 t.ins.n],.box (lift (aT y)),.box (lift (aT (vQ x 8)))],[]⟩
noncomputable abbrev Kv (ax:af):List C:=lift (aT ({ op:=Int.ofNat 8,a:=ax.2,b:=ax.3,c:=ax.4,n:=ax.5,args:=ax.6,k:=ax.7,names:=ax.8,place:=ax.9,exit:=ax.10,once:=ax.11 }))
theorem CX (L:LP) (QD:D→Prop) (t:ai) (y x:af) (o:Nat→Bool) (k:Nat) (h:(LC 123 [(.a (bk t)),(.a (Kv x))] [] (bool true) []∧(LC 32 [(jh x),(.c (.im (.fn 33 1 (fun q=>match nth [I.pt 1 (bu [I.sl 1 t.2.1 fun i x=>iB (o i)])] q with|some x=>x|none=>I.v (Value.tuple #[])))))] [] (bool (decide (cD (fun i => !eO (I.pt 1 (bu [I.sl 1 t.2.1 fun i x=>iB (o i)])) (rI (flat 1 [iI x.2] i)).toNat) 1≥0))) []∧nd (cC (↑k:Int) t.2.1) (nd (k.blt t.2.1) ((LC 123 [(.a (bk t)),(.a (Kv x))] [] (bool true) []∧(LC 32 [(jh x),(.c (.im (.fn 33 1 (fun q=>match nth [I.pt 1 (bu [I.sl 1 t.2.1 fun i x=>iB (o i)])] q with|some x=>x|none=>I.v (Value.tuple #[])))))] [] (bool (decide (cD (fun i => !eO (I.pt 1 (bu [I.sl 1 t.2.1 fun i x=>iB (o i)])) (rI (flat 1 [iI x.2] i)).toNat) 1≥0))) []∧nd (cC (↑k:Int) t.2.1) (nd (k.blt t.2.1) (L (aj 10 8) ⟨[dV,cU,ew,(eH t),(eF t),(30,((int (IntKind.i64.wrap ((↑k:Int)+1))),[]))],[(.box (bk t)),(.arr 4 1 t.2.1 (fE (fun i x=>iB (o i)) k 0 [I.v (Value.bool !decide (cD (fun i => !eO (I.pt 1 (bu [I.sl 1 t.2.1 fun i x=>iB (o i)])) (rI (flat 1 [iI x.2] i)).toNat) 1≥0))])),(ei t),(cY y),(.box (Kv x)),(iO x),.dead,.dead],[]⟩))))))))):dh XH 10 cz L (bF QD) 12 (pc t y x o k):=Eq.mp (by kernel_rfl) h
theorem M5 {Q:D→Prop} (t:ai) (y x:af) (o:Nat→Bool) (k:Nat) (hk:k<t.ins.n) (hx:t.ins.n≤maxLen) (ha:cC x.a t.ins.n=true) (g:ah 10 0 (fun d rs=>cn (aQ rs d) Q) (aj 10 8) (bh t y (fun i=>bif Nat.beq i k then o x.a.toNat else o i) (k+1))):ah 10 0 (fun d rs=>cn (aQ rs d) Q) (aj 10 12) (pc t y x o k):=by
 refine reach (X:=XH) (stop:=cz) (CX _ Q t y x o k ?_)
 refine ⟨eC _ _,?_⟩
 refine ⟨kb rfl ha,?_⟩
 refine aA (by first|assumption|exact au hk|(simpa [cX] using hk)) ?_
 refine aA (by first|assumption|exact au hk|(simpa [cX] using hk)) ?_
 refine ⟨eC _ _,?_⟩
 refine ⟨kb rfl ha,?_⟩
 refine aA (by first|assumption|exact au hk|(simpa [cX] using hk)) ?_
 refine aA (by first|assumption|exact au hk|(simpa [cX] using hk)) ?_
 rw [cd hk hx]
 exact ah.rename [0,1,2,3] rfl (ah.le (bh t y (fun i=>bif Nat.beq i k then o x.a.toNat else o i) (k+1)) (by repeat' (first|exact trivial|refine cR rfl ?_)) (rc (.cons (fJ (q1 o x.a)) (rc (rc .nil)))) rfl g)
noncomputable def pj (t:ai) (y x:af) (o:Nat→Bool) (k:Nat):VS:=⟨(kz t k),[.box (lift (bS t)),.arr 4 1 t.ins.n (fun i _=>iB (o i)),.box [.sa 1 t.ins.n],.box (lift (aT y)),.box (lift (aT (vQ x 9)))],[]⟩
noncomputable abbrev KH (ax:af):List C:=lift (aT ({ op:=Int.ofNat 9,a:=ax.2,b:=ax.3,c:=ax.4,n:=ax.5,args:=ax.6,k:=ax.7,names:=ax.8,place:=ax.9,exit:=ax.10,once:=ax.11 }))
theorem Er (L:LP) (QD:D→Prop) (t:ai) (y x:af) (o:Nat→Bool) (k:Nat) (h:(LC 123 [(.a (bk t)),(.a (KH x))] [] (bool true) []∧(LC 32 [(sj x),(.c (.im (.fn 33 1 (fun q=>match nth [I.pt 1 (bu [I.sl 1 t.2.1 fun i x=>iB (o i)])] q with|some x=>x|none=>I.v (Value.tuple #[])))))] [] (bool (decide (cD (fun i => !eO (I.pt 1 (bu [I.sl 1 t.2.1 fun i x=>iB (o i)])) (rI (flat 1 [iI x.2,iI x.3] i)).toNat) 2≥0))) []∧nd (cC (↑k:Int) t.2.1) (nd (k.blt t.2.1) ((LC 123 [(.a (bk t)),(.a (KH x))] [] (bool true) []∧(LC 32 [(sj x),(.c (.im (.fn 33 1 (fun q=>match nth [I.pt 1 (bu [I.sl 1 t.2.1 fun i x=>iB (o i)])] q with|some x=>x|none=>I.v (Value.tuple #[])))))] [] (bool (decide (cD (fun i => !eO (I.pt 1 (bu [I.sl 1 t.2.1 fun i x=>iB (o i)])) (rI (flat 1 [iI x.2,iI x.3] i)).toNat) 2≥0))) []∧nd (cC (↑k:Int) t.2.1) (nd (k.blt t.2.1) (L (aj 10 8) ⟨[dV,cU,ew,(eH t),(eF t),(30,((int (IntKind.i64.wrap ((↑k:Int)+1))),[]))],[(.box (bk t)),(.arr 4 1 t.2.1 (fE (fun i x=>iB (o i)) k 0 [I.v (Value.bool !decide (cD (fun i => !eO (I.pt 1 (bu [I.sl 1 t.2.1 fun i x=>iB (o i)])) (rI (flat 1 [iI x.2,iI x.3] i)).toNat) 2≥0))])),(ei t),(cY y),(.box (KH x)),(iO x),.dead,.dead],[]⟩))))))))):dh XH 10 cz L (bF QD) 12 (pj t y x o k):=Eq.mp (by kernel_rfl) h
theorem Pf {Q:D→Prop} (t:ai) (y x:af) (o:Nat→Bool) (k:Nat) (hk:k<t.ins.n) (hx:t.ins.n≤maxLen) (ha:cC x.a t.ins.n=true) (hb:cC x.b t.ins.n=true) (g:ah 10 0 (fun d rs=>cn (aQ rs d) Q) (aj 10 8) (bh t y (fun i=>bif Nat.beq i k then (o x.a.toNat&&o x.b.toNat) else o i) (k+1))):ah 10 0 (fun d rs=>cn (aQ rs d) Q) (aj 10 12) (pj t y x o k):=by
 refine reach (X:=XH) (stop:=cz) (Er _ Q t y x o k ?_)
 refine ⟨eC _ _,?_⟩
 refine ⟨wM rfl ha hb,?_⟩
 refine aA (by first|assumption|exact au hk|(simpa [cX] using hk)) ?_
 refine aA (by first|assumption|exact au hk|(simpa [cX] using hk)) ?_
 refine ⟨eC _ _,?_⟩
 refine ⟨wM rfl ha hb,?_⟩
 refine aA (by first|assumption|exact au hk|(simpa [cX] using hk)) ?_
 refine aA (by first|assumption|exact au hk|(simpa [cX] using hk)) ?_
 rw [cd hk hx]
 exact ah.rename [0,1,2,3] rfl (ah.le (bh t y (fun i=>bif Nat.beq i k then (o x.a.toNat&&o x.b.toNat) else o i) (k+1)) (by repeat' (first|exact trivial|refine cR rfl ?_)) (rc (.cons (fJ (q2 o x.a x.b)) (rc (rc .nil)))) rfl g)
noncomputable def mY (t:ai) (y x:af) (o:Nat→Bool) (k:Nat):VS:=⟨(kz t k),[.box (lift (bS t)),.arr 4 1 t.ins.n (fun i _=>iB (o i)),.box [.sa 1 t.ins.n],.box (lift (aT y)),.box (lift (aT (vQ x 10)))],[]⟩
noncomputable abbrev vC (ax:af):List C:=lift (aT ({ op:=Int.ofNat 10,a:=ax.2,b:=ax.3,c:=ax.4,n:=ax.5,args:=ax.6,k:=ax.7,names:=ax.8,place:=ax.9,exit:=ax.10,once:=ax.11 }))
noncomputable abbrev Ke (ax:ai) (aX:af):D:=bool (iw ax { op:=Int.ofNat 10,a:=aX.2,b:=aX.3,c:=aX.4,n:=aX.5,args:=aX.6,k:=aX.7,names:=aX.8,place:=aX.9,exit:=aX.10,once:=aX.11 })
theorem A6 (L:LP) (QD:D→Prop) (t:ai) (y x:af) (o:Nat→Bool) (k:Nat) (h:(LC 124 [(.a (bk t)),(.a (vC x))] [] (Ke t x) []∧br (iw t { op:=Int.ofNat 10,a:=x.2,b:=x.3,c:=x.4,n:=x.5,args:=x.6,k:=x.7,names:=x.8,place:=x.9,exit:=x.10,once:=x.11 }) ((LC 32 [(jh x),(.c (.im (.fn 33 1 (fun q=>match nth [I.pt 1 (bu [I.sl 1 t.2.1 fun i x=>iB (o i)])] q with|some x=>x|none=>I.v (Value.tuple #[])))))] [] (bool (decide (cD (fun i => !eO (I.pt 1 (bu [I.sl 1 t.2.1 fun i x=>iB (o i)])) (rI (flat 1 [iI x.2] i)).toNat) 1≥0))) []∧nd (cC (↑k:Int) t.2.1) (nd (k.blt t.2.1) ((LC 124 [(.a (bk t)),(.a (vC x))] [] (Ke t x) []∧br (iw t { op:=Int.ofNat 10,a:=x.2,b:=x.3,c:=x.4,n:=x.5,args:=x.6,k:=x.7,names:=x.8,place:=x.9,exit:=x.10,once:=x.11 }) ((LC 32 [(jh x),(.c (.im (.fn 33 1 (fun q=>match nth [I.pt 1 (bu [I.sl 1 t.2.1 fun i x=>iB (o i)])] q with|some x=>x|none=>I.v (Value.tuple #[])))))] [] (bool (decide (cD (fun i => !eO (I.pt 1 (bu [I.sl 1 t.2.1 fun i x=>iB (o i)])) (rI (flat 1 [iI x.2] i)).toNat) 1≥0))) []∧nd (cC (↑k:Int) t.2.1) (nd (k.blt t.2.1) (L (aj 10 8) ⟨[dV,cU,ew,(eH t),(eF t),(30,((int (IntKind.i64.wrap ((↑k:Int)+1))),[]))],[(.box (bk t)),(.arr 4 1 t.2.1 (fE (fun i x=>iB (o i)) k 0 [I.v (Value.bool !decide (cD (fun i => !eO (I.pt 1 (bu [I.sl 1 t.2.1 fun i x=>iB (o i)])) (rI (flat 1 [iI x.2] i)).toNat) 1≥0))])),(ei t),(cY y),(.box (vC x)),(iO x),.dead,.dead],[]⟩)))) (nd (cC (↑k:Int) t.2.1) (nd (k.blt t.2.1) (L (aj 10 8) ⟨[dV,cU,ew,(eH t),(eF t),(30,((int (IntKind.i64.wrap ((↑k:Int)+1))),[]))],[(.box (bk t)),(.arr 4 1 t.2.1 (fE (fun i x=>iB (o i)) k 0 [I.v (Value.bool false)])),(ei t),(cY y),(.box (vC x)),(iO x),.dead,.dead],[]⟩)))))))) (nd (cC (↑k:Int) t.2.1) (nd (k.blt t.2.1) ((LC 124 [(.a (bk t)),(.a (vC x))] [] (Ke t x) []∧br (iw t { op:=Int.ofNat 10,a:=x.2,b:=x.3,c:=x.4,n:=x.5,args:=x.6,k:=x.7,names:=x.8,place:=x.9,exit:=x.10,once:=x.11 }) ((LC 32 [(jh x),(.c (.im (.fn 33 1 (fun q=>match nth [I.pt 1 (bu [I.sl 1 t.2.1 fun i x=>iB (o i)])] q with|some x=>x|none=>I.v (Value.tuple #[])))))] [] (bool (decide (cD (fun i => !eO (I.pt 1 (bu [I.sl 1 t.2.1 fun i x=>iB (o i)])) (rI (flat 1 [iI x.2] i)).toNat) 1≥0))) []∧nd (cC (↑k:Int) t.2.1) (nd (k.blt t.2.1) (L (aj 10 8) ⟨[dV,cU,ew,(eH t),(eF t),(30,((int (IntKind.i64.wrap ((↑k:Int)+1))),[]))],[(.box (bk t)),(.arr 4 1 t.2.1 (fE (fun i x=>iB (o i)) k 0 [I.v (Value.bool !decide (cD (fun i => !eO (I.pt 1 (bu [I.sl 1 t.2.1 fun i x=>iB (o i)])) (rI (flat 1 [iI x.2] i)).toNat) 1≥0))])),(ei t),(cY y),(.box (vC x)),(iO x),.dead,.dead],[]⟩)))) (nd (cC (↑k:Int) t.2.1) (nd (k.blt t.2.1) (L (aj 10 8) ⟨[dV,cU,ew,(eH t),(eF t),(30,((int (IntKind.i64.wrap ((↑k:Int)+1))),[]))],[(.box (bk t)),(.arr 4 1 t.2.1 (fE (fun i x=>iB (o i)) k 0 [I.v (Value.bool false)])),(ei t),(cY y),(.box (vC x)),(iO x),.dead,.dead],[]⟩))))))))):dh XH 10 cz L (bF QD) 12 (mY t y x o k):=Eq.mp (by kernel_rfl) h
theorem Ln {Q:D→Prop} (t:ai) (y x:af) (o:Nat→Bool) (k:Nat) (hk:k<t.ins.n) (hx:t.ins.n≤maxLen) (ha:cC x.a t.ins.n=true) (g:ah 10 0 (fun d rs=>cn (aQ rs d) Q) (aj 10 8) (bh t y (fun i=>bif Nat.beq i k then (iw t x&&o x.a.toNat) else o i) (k+1))):ah 10 0 (fun d rs=>cn (aQ rs d) Q) (aj 10 12) (mY t y x o k):=by
 refine reach (X:=XH) (stop:=cz) (A6 _ Q t y x o k ?_)
 refine ⟨ym _ _,?_⟩
 refine ay (fun h0=>?_) (fun h0=>?_)
 ·refine ⟨kb rfl ha,?_⟩
  refine aA (by first|assumption|exact au hk|(simpa [cX] using hk)) ?_
  refine aA (by first|assumption|exact au hk|(simpa [cX] using hk)) ?_
  refine ⟨ym _ _,?_⟩
  refine ay (fun h1=>?_) (fun h1=>Bool.noConfusion (h0.symm.trans h1))
  refine ⟨kb rfl ha,?_⟩
  refine aA (by first|assumption|exact au hk|(simpa [cX] using hk)) ?_
  refine aA (by first|assumption|exact au hk|(simpa [cX] using hk)) ?_
  rw [cd hk hx]
  exact ah.rename [0,1,2,3] rfl (ah.le (bh t y (fun i=>bif Nat.beq i k then (iw t x&&o x.a.toNat) else o i) (k+1)) (by repeat' (first|exact trivial|refine cR rfl ?_)) (rc (.cons (fJ ((q1 o x.a).trans (by rw [show iw t x=true from h0]; rfl))) (rc (rc .nil)))) rfl g)
 ·refine aA (by first|assumption|exact au hk|(simpa [cX] using hk)) ?_
  refine aA (by first|assumption|exact au hk|(simpa [cX] using hk)) ?_
  refine ⟨ym _ _,?_⟩
  refine ay (fun h1=>Bool.noConfusion (h1.symm.trans h0)) (fun h1=>?_)
  refine aA (by first|assumption|exact au hk|(simpa [cX] using hk)) ?_
  refine aA (by first|assumption|exact au hk|(simpa [cX] using hk)) ?_
  rw [cd hk hx]
  exact ah.rename [0,1,2,3] rfl (ah.le (bh t y (fun i=>bif Nat.beq i k then (iw t x&&o x.a.toNat) else o i) (k+1)) (by repeat' (first|exact trivial|refine cR rfl ?_)) (rc (.cons (fJ (by rw [show iw t x=false from h0]; rfl)) (rc (rc .nil)))) rfl g)
noncomputable def mO (t:ai) (y x:af) (o:Nat→Bool) (k:Nat):VS:=⟨(kz t k),[.box (lift (bS t)),.arr 4 1 t.ins.n (fun i _=>iB (o i)),.box [.sa 1 t.ins.n],.box (lift (aT y)),.box (lift (aT (vQ x 11)))],[]⟩
theorem Bj (L:LP) (QD:D→Prop) (t:ai) (y x:af) (o:Nat→Bool) (k:Nat) (h:L (aj 10 8) ⟨[dV,cU,ew,(eH t),(eF t),(30,((int (IntKind.i64.wrap ((↑k:Int)+1))),[]))],[(.box (bk t)),(.arr 4 1 t.2.1 (fun i x=>iB (o i))),(ei t),(cY y),(.box (lift (aT ({ op:=Int.ofNat 11,a:=x.2,b:=x.3,c:=x.4,n:=x.5,args:=x.6,k:=x.7,names:=x.8,place:=x.9,exit:=x.10,once:=x.11 }))))],[]⟩):dh XH 10 cz L (bF QD) 12 (mO t y x o k):=Eq.mp (by kernel_rfl) h
theorem Li {Q:D→Prop} (t:ai) (y x:af) (o:Nat→Bool) (k:Nat) (hk:k<t.ins.n) (hx:t.ins.n≤maxLen) (g:ah 10 0 (fun d rs=>cn (aQ rs d) Q) (aj 10 8) (bh t y o (k+1))):ah 10 0 (fun d rs=>cn (aQ rs d) Q) (aj 10 12) (mO t y x o k):=by
 refine reach (X:=XH) (stop:=cz) (Bj _ Q t y x o k ?_)
 rw [cd hk hx]
 exact ah.rename [0,1,2,3] rfl g
noncomputable def mm (t:ai) (y x:af) (o:Nat→Bool) (k:Nat):VS:=⟨(kz t k),[.box (lift (bS t)),.arr 4 1 t.ins.n (fun i _=>iB (o i)),.box [.sa 1 t.ins.n],.box (lift (aT y)),.box (lift (aT (vQ x 12)))],[]⟩
noncomputable abbrev tr (ax:af):List C:=lift (aT ({ op:=Int.ofNat 12,a:=ax.2,b:=ax.3,c:=ax.4,n:=ax.5,args:=ax.6,k:=ax.7,names:=ax.8,place:=ax.9,exit:=ax.10,once:=ax.11 }))
theorem BJ (L:LP) (QD:D→Prop) (t:ai) (y x:af) (o:Nat→Bool) (k:Nat) (h:(LC 126 [(.a (bk t)),(.a (tr x))] [] (bool (la t)) []∧br (la t) ((LC 32 [(sj x),(.c (.im (.fn 33 1 (fun q=>match nth [I.pt 1 (bu [I.sl 1 t.2.1 fun i x=>iB (o i)])] q with|some x=>x|none=>I.v (Value.tuple #[])))))] [] (bool (decide (cD (fun i => !eO (I.pt 1 (bu [I.sl 1 t.2.1 fun i x=>iB (o i)])) (rI (flat 1 [iI x.2,iI x.3] i)).toNat) 2≥0))) []∧nd (cC (↑k:Int) t.2.1) (nd (k.blt t.2.1) ((LC 126 [(.a (bk t)),(.a (tr x))] [] (bool (la t)) []∧br (la t) ((LC 32 [(sj x),(.c (.im (.fn 33 1 (fun q=>match nth [I.pt 1 (bu [I.sl 1 t.2.1 fun i x=>iB (o i)])] q with|some x=>x|none=>I.v (Value.tuple #[])))))] [] (bool (decide (cD (fun i => !eO (I.pt 1 (bu [I.sl 1 t.2.1 fun i x=>iB (o i)])) (rI (flat 1 [iI x.2,iI x.3] i)).toNat) 2≥0))) []∧nd (cC (↑k:Int) t.2.1) (nd (k.blt t.2.1) (L (aj 10 8) ⟨[dV,cU,ew,(eH t),(eF t),(30,((int (IntKind.i64.wrap ((↑k:Int)+1))),[]))],[(.box (bk t)),(.arr 4 1 t.2.1 (fE (fun i x=>iB (o i)) k 0 [I.v (Value.bool !decide (cD (fun i => !eO (I.pt 1 (bu [I.sl 1 t.2.1 fun i x=>iB (o i)])) (rI (flat 1 [iI x.2,iI x.3] i)).toNat) 2≥0))])),(ei t),(cY y),(.box (tr x)),(iO x),.dead,.dead],[]⟩)))) (nd (cC (↑k:Int) t.2.1) (nd (k.blt t.2.1) (L (aj 10 8) ⟨[dV,cU,ew,(eH t),(eF t),(30,((int (IntKind.i64.wrap ((↑k:Int)+1))),[]))],[(.box (bk t)),(.arr 4 1 t.2.1 (fE (fun i x=>iB (o i)) k 0 [I.v (Value.bool false)])),(ei t),(cY y),(.box (tr x)),(iO x),.dead,.dead],[]⟩)))))))) (nd (cC (↑k:Int) t.2.1) (nd (k.blt t.2.1) ((LC 126 [(.a (bk t)),(.a (tr x))] [] (bool (la t)) []∧br (la t) ((LC 32 [(sj x),(.c (.im (.fn 33 1 (fun q=>match nth [I.pt 1 (bu [I.sl 1 t.2.1 fun i x=>iB (o i)])] q with|some x=>x|none=>I.v (Value.tuple #[])))))] [] (bool (decide (cD (fun i => !eO (I.pt 1 (bu [I.sl 1 t.2.1 fun i x=>iB (o i)])) (rI (flat 1 [iI x.2,iI x.3] i)).toNat) 2≥0))) []∧nd (cC (↑k:Int) t.2.1) (nd (k.blt t.2.1) (L (aj 10 8) ⟨[dV,cU,ew,(eH t),(eF t),(30,((int (IntKind.i64.wrap ((↑k:Int)+1))),[]))],[(.box (bk t)),(.arr 4 1 t.2.1 (fE (fun i x=>iB (o i)) k 0 [I.v (Value.bool !decide (cD (fun i => !eO (I.pt 1 (bu [I.sl 1 t.2.1 fun i x=>iB (o i)])) (rI (flat 1 [iI x.2,iI x.3] i)).toNat) 2≥0))])),(ei t),(cY y),(.box (tr x)),(iO x),.dead,.dead],[]⟩)))) (nd (cC (↑k:Int) t.2.1) (nd (k.blt t.2.1) (L (aj 10 8) ⟨[dV,cU,ew,(eH t),(eF t),(30,((int (IntKind.i64.wrap ((↑k:Int)+1))),[]))],[(.box (bk t)),(.arr 4 1 t.2.1 (fE (fun i x=>iB (o i)) k 0 [I.v (Value.bool false)])),(ei t),(cY y),(.box (tr x)),(iO x),.dead,.dead],[]⟩))))))))):dh XH 10 cz L (bF QD) 12 (mm t y x o k):=Eq.mp (by kernel_rfl) h
theorem Ix {Q:D→Prop} (t:ai) (y x:af) (o:Nat→Bool) (k:Nat) (hk:k<t.ins.n) (hx:t.ins.n≤maxLen) (ha:cC x.a t.ins.n=true) (hb:cC x.b t.ins.n=true) (g:ah 10 0 (fun d rs=>cn (aQ rs d) Q) (aj 10 8) (bh t y (fun i=>bif Nat.beq i k then (la t&&(o x.a.toNat&&o x.b.toNat)) else o i) (k+1))):ah 10 0 (fun d rs=>cn (aQ rs d) Q) (aj 10 12) (mm t y x o k):=by
 refine reach (X:=XH) (stop:=cz) (BJ _ Q t y x o k ?_)
 refine ⟨zJ _ _,?_⟩
 refine ay (fun h0=>?_) (fun h0=>?_)
 ·refine ⟨wM rfl ha hb,?_⟩
  refine aA (by first|assumption|exact au hk|(simpa [cX] using hk)) ?_
  refine aA (by first|assumption|exact au hk|(simpa [cX] using hk)) ?_
  refine ⟨zJ _ _,?_⟩
  refine ay (fun h1=>?_) (fun h1=>Bool.noConfusion (h0.symm.trans h1))
  refine ⟨wM rfl ha hb,?_⟩
  refine aA (by first|assumption|exact au hk|(simpa [cX] using hk)) ?_
  refine aA (by first|assumption|exact au hk|(simpa [cX] using hk)) ?_
  rw [cd hk hx]
  exact ah.rename [0,1,2,3] rfl (ah.le (bh t y (fun i=>bif Nat.beq i k then (la t&&(o x.a.toNat&&o x.b.toNat)) else o i) (k+1)) (by repeat' (first|exact trivial|refine cR rfl ?_)) (rc (.cons (fJ ((q2 o x.a x.b).trans (by rw [show la t=true from h0]; rfl))) (rc (rc .nil)))) rfl g)
 ·refine aA (by first|assumption|exact au hk|(simpa [cX] using hk)) ?_
  refine aA (by first|assumption|exact au hk|(simpa [cX] using hk)) ?_
  refine ⟨zJ _ _,?_⟩
  refine ay (fun h1=>Bool.noConfusion (h1.symm.trans h0)) (fun h1=>?_)
  refine aA (by first|assumption|exact au hk|(simpa [cX] using hk)) ?_
  refine aA (by first|assumption|exact au hk|(simpa [cX] using hk)) ?_
  rw [cd hk hx]
  exact ah.rename [0,1,2,3] rfl (ah.le (bh t y (fun i=>bif Nat.beq i k then (la t&&(o x.a.toNat&&o x.b.toNat)) else o i) (k+1)) (by repeat' (first|exact trivial|refine cR rfl ?_)) (rc (.cons (fJ (by rw [show la t=false from h0]; rfl)) (rc (rc .nil)))) rfl g)
noncomputable def mI (t:ai) (y x:af) (o:Nat→Bool) (k:Nat):VS:=⟨(kz t k),[.box (lift (bS t)),.arr 4 1 t.ins.n (fun i _=>iB (o i)),.box [.sa 1 t.ins.n],.box (lift (aT y)),.box (lift (aT (vQ x 13)))],[]⟩
theorem Bb (L:LP) (QD:D→Prop) (t:ai) (y x:af) (o:Nat→Bool) (k:Nat) (h:L (aj 10 8) ⟨[dV,cU,ew,(eH t),(eF t),(30,((int (IntKind.i64.wrap ((↑k:Int)+1))),[]))],[(.box (bk t)),(.arr 4 1 t.2.1 (fun i x=>iB (o i))),(ei t),(cY y),(.box (lift (aT ({ op:=Int.ofNat 13,a:=x.2,b:=x.3,c:=x.4,n:=x.5,args:=x.6,k:=x.7,names:=x.8,place:=x.9,exit:=x.10,once:=x.11 }))))],[]⟩):dh XH 10 cz L (bF QD) 12 (mI t y x o k):=Eq.mp (by kernel_rfl) h
theorem LG {Q:D→Prop} (t:ai) (y x:af) (o:Nat→Bool) (k:Nat) (hk:k<t.ins.n) (hx:t.ins.n≤maxLen) (g:ah 10 0 (fun d rs=>cn (aQ rs d) Q) (aj 10 8) (bh t y o (k+1))):ah 10 0 (fun d rs=>cn (aQ rs d) Q) (aj 10 12) (mI t y x o k):=by
 refine reach (X:=XH) (stop:=cz) (Bb _ Q t y x o k ?_)
 rw [cd hk hx]
 exact ah.rename [0,1,2,3] rfl g
noncomputable def mV (t:ai) (y x:af) (o:Nat→Bool) (k:Nat):VS:=⟨(kz t k),[.box (lift (bS t)),.arr 4 1 t.ins.n (fun i _=>iB (o i)),.box [.sa 1 t.ins.n],.box (lift (aT y)),.box (lift (aT (vQ x 14)))],[]⟩
noncomputable abbrev IE (ax:af):List C:=lift (aT ({ op:=Int.ofNat 14,a:=ax.2,b:=ax.3,c:=ax.4,n:=ax.5,args:=ax.6,k:=ax.7,names:=ax.8,place:=ax.9,exit:=ax.10,once:=ax.11 }))
theorem Ce (L:LP) (QD:D→Prop) (t:ai) (y x:af) (o:Nat→Bool) (k:Nat) (h:(LC 123 [(.a (bk t)),(.a (IE x))] [] (bool true) []∧(LC 32 [(jh x),(.c (.im (.fn 33 1 (fun q=>match nth [I.pt 1 (bu [I.sl 1 t.2.1 fun i x=>iB (o i)])] q with|some x=>x|none=>I.v (Value.tuple #[])))))] [] (bool (decide (cD (fun i => !eO (I.pt 1 (bu [I.sl 1 t.2.1 fun i x=>iB (o i)])) (rI (flat 1 [iI x.2] i)).toNat) 1≥0))) []∧nd (cC (↑k:Int) t.2.1) (nd (k.blt t.2.1) ((LC 123 [(.a (bk t)),(.a (IE x))] [] (bool true) []∧(LC 32 [(jh x),(.c (.im (.fn 33 1 (fun q=>match nth [I.pt 1 (bu [I.sl 1 t.2.1 fun i x=>iB (o i)])] q with|some x=>x|none=>I.v (Value.tuple #[])))))] [] (bool (decide (cD (fun i => !eO (I.pt 1 (bu [I.sl 1 t.2.1 fun i x=>iB (o i)])) (rI (flat 1 [iI x.2] i)).toNat) 1≥0))) []∧nd (cC (↑k:Int) t.2.1) (nd (k.blt t.2.1) (L (aj 10 8) ⟨[dV,cU,ew,(eH t),(eF t),(30,((int (IntKind.i64.wrap ((↑k:Int)+1))),[]))],[(.box (bk t)),(.arr 4 1 t.2.1 (fE (fun i x=>iB (o i)) k 0 [I.v (Value.bool !decide (cD (fun i => !eO (I.pt 1 (bu [I.sl 1 t.2.1 fun i x=>iB (o i)])) (rI (flat 1 [iI x.2] i)).toNat) 1≥0))])),(ei t),(cY y),(.box (IE x)),(iO x),.dead,.dead],[]⟩))))))))):dh XH 10 cz L (bF QD) 12 (mV t y x o k):=Eq.mp (by kernel_rfl) h
theorem Ju {Q:D→Prop} (t:ai) (y x:af) (o:Nat→Bool) (k:Nat) (hk:k<t.ins.n) (hx:t.ins.n≤maxLen) (ha:cC x.a t.ins.n=true) (g:ah 10 0 (fun d rs=>cn (aQ rs d) Q) (aj 10 8) (bh t y (fun i=>bif Nat.beq i k then o x.a.toNat else o i) (k+1))):ah 10 0 (fun d rs=>cn (aQ rs d) Q) (aj 10 12) (mV t y x o k):=by
 refine reach (X:=XH) (stop:=cz) (Ce _ Q t y x o k ?_)
 refine ⟨eC _ _,?_⟩
 refine ⟨kb rfl ha,?_⟩
 refine aA (by first|assumption|exact au hk|(simpa [cX] using hk)) ?_
 refine aA (by first|assumption|exact au hk|(simpa [cX] using hk)) ?_
 refine ⟨eC _ _,?_⟩
 refine ⟨kb rfl ha,?_⟩
 refine aA (by first|assumption|exact au hk|(simpa [cX] using hk)) ?_
 refine aA (by first|assumption|exact au hk|(simpa [cX] using hk)) ?_
 rw [cd hk hx]
 exact ah.rename [0,1,2,3] rfl (ah.le (bh t y (fun i=>bif Nat.beq i k then o x.a.toNat else o i) (k+1)) (by repeat' (first|exact trivial|refine cR rfl ?_)) (rc (.cons (fJ (q1 o x.a)) (rc (rc .nil)))) rfl g)
noncomputable def mC (t:ai) (y x:af) (o:Nat→Bool) (k:Nat):VS:=⟨(kz t k),[.box (lift (bS t)),.arr 4 1 t.ins.n (fun i _=>iB (o i)),.box [.sa 1 t.ins.n],.box (lift (aT y)),.box (lift (aT (vQ x 15)))],[]⟩
theorem Ci (L:LP) (QD:D→Prop) (t:ai) (y x:af) (o:Nat→Bool) (k:Nat) (h:L (aj 10 8) ⟨[dV,cU,ew,(eH t),(eF t),(30,((int (IntKind.i64.wrap ((↑k:Int)+1))),[]))],[(.box (bk t)),(.arr 4 1 t.2.1 (fun i x=>iB (o i))),(ei t),(cY y),(.box (lift (aT ({ op:=Int.ofNat 15,a:=x.2,b:=x.3,c:=x.4,n:=x.5,args:=x.6,k:=x.7,names:=x.8,place:=x.9,exit:=x.10,once:=x.11 }))))],[]⟩):dh XH 10 cz L (bF QD) 12 (mC t y x o k):=Eq.mp (by kernel_rfl) h
theorem KI {Q:D→Prop} (t:ai) (y x:af) (o:Nat→Bool) (k:Nat) (hk:k<t.ins.n) (hx:t.ins.n≤maxLen) (g:ah 10 0 (fun d rs=>cn (aQ rs d) Q) (aj 10 8) (bh t y o (k+1))):ah 10 0 (fun d rs=>cn (aQ rs d) Q) (aj 10 12) (mC t y x o k):=by
 refine reach (X:=XH) (stop:=cz) (Ci _ Q t y x o k ?_)
 rw [cd hk hx]
 exact ah.rename [0,1,2,3] rfl g
noncomputable def mT (t:ai) (y x:af) (o:Nat→Bool) (k:Nat):VS:=⟨(kz t k),[.box (lift (bS t)),.arr 4 1 t.ins.n (fun i _=>iB (o i)),.box [.sa 1 t.ins.n],.box (lift (aT y)),.box (lift (aT (vQ x 16)))],[]⟩
theorem Bl (L:LP) (QD:D→Prop) (t:ai) (y x:af) (o:Nat→Bool) (k:Nat) (h:L (aj 10 8) ⟨[dV,cU,ew,(eH t),(eF t),(30,((int (IntKind.i64.wrap ((↑k:Int)+1))),[]))],[(.box (bk t)),(.arr 4 1 t.2.1 (fun i x=>iB (o i))),(ei t),(cY y),(.box (lift (aT ({ op:=Int.ofNat 16,a:=x.2,b:=x.3,c:=x.4,n:=x.5,args:=x.6,k:=x.7,names:=x.8,place:=x.9,exit:=x.10,once:=x.11 }))))],[]⟩):dh XH 10 cz L (bF QD) 12 (mT t y x o k):=Eq.mp (by kernel_rfl) h
theorem JJ {Q:D→Prop} (t:ai) (y x:af) (o:Nat→Bool) (k:Nat) (hk:k<t.ins.n) (hx:t.ins.n≤maxLen) (g:ah 10 0 (fun d rs=>cn (aQ rs d) Q) (aj 10 8) (bh t y o (k+1))):ah 10 0 (fun d rs=>cn (aQ rs d) Q) (aj 10 12) (mT t y x o k):=by
 refine reach (X:=XH) (stop:=cz) (Bl _ Q t y x o k ?_)
 rw [cd hk hx]
 exact ah.rename [0,1,2,3] rfl g
noncomputable def mD (t:ai) (y x:af) (o:Nat→Bool) (k:Nat):VS:=⟨(kz t k),[.box (lift (bS t)),.arr 4 1 t.ins.n (fun i _=>iB (o i)),.box [.sa 1 t.ins.n],.box (lift (aT y)),.box (lift (aT (vQ x 17)))],[]⟩
theorem CG (L:LP) (QD:D→Prop) (t:ai) (y x:af) (o:Nat→Bool) (k:Nat) (h:L (aj 10 8) ⟨[dV,cU,ew,(eH t),(eF t),(30,((int (IntKind.i64.wrap ((↑k:Int)+1))),[]))],[(.box (bk t)),(.arr 4 1 t.2.1 (fun i x=>iB (o i))),(ei t),(cY y),(.box (lift (aT ({ op:=Int.ofNat 17,a:=x.2,b:=x.3,c:=x.4,n:=x.5,args:=x.6,k:=x.7,names:=x.8,place:=x.9,exit:=x.10,once:=x.11 }))))],[]⟩):dh XH 10 cz L (bF QD) 12 (mD t y x o k):=Eq.mp (by kernel_rfl) h
theorem Jj {Q:D→Prop} (t:ai) (y x:af) (o:Nat→Bool) (k:Nat) (hk:k<t.ins.n) (hx:t.ins.n≤maxLen) (g:ah 10 0 (fun d rs=>cn (aQ rs d) Q) (aj 10 8) (bh t y o (k+1))):ah 10 0 (fun d rs=>cn (aQ rs d) Q) (aj 10 12) (mD t y x o k):=by
 refine reach (X:=XH) (stop:=cz) (CG _ Q t y x o k ?_)
 rw [cd hk hx]
 exact ah.rename [0,1,2,3] rfl g
noncomputable def mU (t:ai) (y x:af) (o:Nat→Bool) (k:Nat):VS:=⟨(kz t k),[.box (lift (bS t)),.arr 4 1 t.ins.n (fun i _=>iB (o i)),.box [.sa 1 t.ins.n],.box (lift (aT y)),.box (lift (aT (vQ x 18)))],[]⟩
theorem Bi (L:LP) (QD:D→Prop) (t:ai) (y x:af) (o:Nat→Bool) (k:Nat) (h:L (aj 10 8) ⟨[dV,cU,ew,(eH t),(eF t),(30,((int (IntKind.i64.wrap ((↑k:Int)+1))),[]))],[(.box (bk t)),(.arr 4 1 t.2.1 (fun i x=>iB (o i))),(ei t),(cY y),(.box (lift (aT ({ op:=Int.ofNat 18,a:=x.2,b:=x.3,c:=x.4,n:=x.5,args:=x.6,k:=x.7,names:=x.8,place:=x.9,exit:=x.10,once:=x.11 }))))],[]⟩):dh XH 10 cz L (bF QD) 12 (mU t y x o k):=Eq.mp (by kernel_rfl) h
theorem J7 {Q:D→Prop} (t:ai) (y x:af) (o:Nat→Bool) (k:Nat) (hk:k<t.ins.n) (hx:t.ins.n≤maxLen) (g:ah 10 0 (fun d rs=>cn (aQ rs d) Q) (aj 10 8) (bh t y o (k+1))):ah 10 0 (fun d rs=>cn (aQ rs d) Q) (aj 10 12) (mU t y x o k):=by
 refine reach (X:=XH) (stop:=cz) (Bi _ Q t y x o k ?_)
 rw [cd hk hx]
 exact ah.rename [0,1,2,3] rfl g
noncomputable def mE (t:ai) (y x:af) (o:Nat→Bool) (k:Nat):VS:=⟨(kz t k),[.box (lift (bS t)),.arr 4 1 t.ins.n (fun i _=>iB (o i)),.box [.sa 1 t.ins.n],.box (lift (aT y)),.box (lift (aT (vQ x 19)))],[]⟩
theorem Ax (L:LP) (QD:D→Prop) (t:ai) (y x:af) (o:Nat→Bool) (k:Nat) (h:L (aj 10 8) ⟨[dV,cU,ew,(eH t),(eF t),(30,((int (IntKind.i64.wrap ((↑k:Int)+1))),[]))],[(.box (bk t)),(.arr 4 1 t.2.1 (fun i x=>iB (o i))),(ei t),(cY y),(.box (lift (aT ({ op:=Int.ofNat 19,a:=x.2,b:=x.3,c:=x.4,n:=x.5,args:=x.6,k:=x.7,names:=x.8,place:=x.9,exit:=x.10,once:=x.11 }))))],[]⟩):dh XH 10 cz L (bF QD) 12 (mE t y x o k):=Eq.mp (by kernel_rfl) h
theorem Ly {Q:D→Prop} (t:ai) (y x:af) (o:Nat→Bool) (k:Nat) (hk:k<t.ins.n) (hx:t.ins.n≤maxLen) (g:ah 10 0 (fun d rs=>cn (aQ rs d) Q) (aj 10 8) (bh t y o (k+1))):ah 10 0 (fun d rs=>cn (aQ rs d) Q) (aj 10 12) (mE t y x o k):=by
 refine reach (X:=XH) (stop:=cz) (Ax _ Q t y x o k ?_)
 rw [cd hk hx]
 exact ah.rename [0,1,2,3] rfl g
noncomputable def mF (t:ai) (y x:af) (o:Nat→Bool) (k:Nat):VS:=⟨(kz t k),[.box (lift (bS t)),.arr 4 1 t.ins.n (fun i _=>iB (o i)),.box [.sa 1 t.ins.n],.box (lift (aT y)),.box (lift (aT (vQ x 20)))],[]⟩
theorem CF (L:LP) (QD:D→Prop) (t:ai) (y x:af) (o:Nat→Bool) (k:Nat) (h:L (aj 10 8) ⟨[dV,cU,ew,(eH t),(eF t),(30,((int (IntKind.i64.wrap ((↑k:Int)+1))),[]))],[(.box (bk t)),(.arr 4 1 t.2.1 (fun i x=>iB (o i))),(ei t),(cY y),(.box (lift (aT ({ op:=Int.ofNat 20,a:=x.2,b:=x.3,c:=x.4,n:=x.5,args:=x.6,k:=x.7,names:=x.8,place:=x.9,exit:=x.10,once:=x.11 }))))],[]⟩):dh XH 10 cz L (bF QD) 12 (mF t y x o k):=Eq.mp (by kernel_rfl) h
theorem Mb {Q:D→Prop} (t:ai) (y x:af) (o:Nat→Bool) (k:Nat) (hk:k<t.ins.n) (hx:t.ins.n≤maxLen) (g:ah 10 0 (fun d rs=>cn (aQ rs d) Q) (aj 10 8) (bh t y o (k+1))):ah 10 0 (fun d rs=>cn (aQ rs d) Q) (aj 10 12) (mF t y x o k):=by
 refine reach (X:=XH) (stop:=cz) (CF _ Q t y x o k ?_)
 rw [cd hk hx]
 exact ah.rename [0,1,2,3] rfl g
noncomputable def mz (t:ai) (y x:af) (o:Nat→Bool) (k:Nat):VS:=⟨(kz t k),[.box (lift (bS t)),.arr 4 1 t.ins.n (fun i _=>iB (o i)),.box [.sa 1 t.ins.n],.box (lift (aT y)),.box (lift (aT (vQ x 21)))],[]⟩
theorem BM (L:LP) (QD:D→Prop) (t:ai) (y x:af) (o:Nat→Bool) (k:Nat) (h:L (aj 10 8) ⟨[dV,cU,ew,(eH t),(eF t),(30,((int (IntKind.i64.wrap ((↑k:Int)+1))),[]))],[(.box (bk t)),(.arr 4 1 t.2.1 (fun i x=>iB (o i))),(ei t),(cY y),(.box (lift (aT ({ op:=Int.ofNat 21,a:=x.2,b:=x.3,c:=x.4,n:=x.5,args:=x.6,k:=x.7,names:=x.8,place:=x.9,exit:=x.10,once:=x.11 }))))],[]⟩):dh XH 10 cz L (bF QD) 12 (mz t y x o k):=Eq.mp (by kernel_rfl) h
theorem Ms {Q:D→Prop} (t:ai) (y x:af) (o:Nat→Bool) (k:Nat) (hk:k<t.ins.n) (hx:t.ins.n≤maxLen) (g:ah 10 0 (fun d rs=>cn (aQ rs d) Q) (aj 10 8) (bh t y o (k+1))):ah 10 0 (fun d rs=>cn (aQ rs d) Q) (aj 10 12) (mz t y x o k):=by
 refine reach (X:=XH) (stop:=cz) (BM _ Q t y x o k ?_)
 rw [cd hk hx]
 exact ah.rename [0,1,2,3] rfl g
open Go Go.V
theorem SU {t:ai} {k:Nat} (h:lf t k=true):0≤(t.ins.get k).op∧(t.ins.get k).op≤21:=by
 unfold lf a6 aO iW at h
 simp only [cG] at h
 have:=h.1.2.2.2.1
 unfold fK at this
 simp at this
 omega
theorem Pn {t:ai} {k:Nat} (h:lf t k=true) (ho:(t.ins.get k).op=1):k<ju t.ins:=by
 unfold lf a6 at h
 simp only [cG] at h
 have:=h.1.2.1
 simp [ho] at this
 omega
theorem Ku {t:ai} {k:Nat} (h:lf t k=true) (ho:(t.ins.get k).op=20):(t.ins.get k).args.n=ju t.ins:=by
 unfold lf a12 at h
 simp only [cG] at h
 have:=h.2.1.2
 simp [ho] at this
 omega
theorem E7 (t:ai) (y:af):∀ k i,k≤i→bg t y k i=false
 | 0,i,_=>rfl
 | k+1,i,h=>by
   show (bif Nat.beq i k then fN t y (bg t y k) k else bg t y k i)=false
   rw [zr (by omega)]
   exact E7 t y k i (by omega)
theorem fD (t:ai) (y:af) (k:Nat) (h:fN t y (bg t y k) k=false):bg t y (k+1)=bg t y k:=by
 funext i
 show (bif Nat.beq i k then fN t y (bg t y k) k else bg t y k i)=_
 cases hb:Nat.beq i k with
 | false=>rfl
 | true=>
   have:=Nat.eq_of_beq_eq_true hb
   subst this
   rw [E7 t y i i (bf _)]
   exact h
theorem S9 {t:ai} {k j:Nat} (h:lf t k=true) (hk:k<t.ins.n) (hj:j<(aR (t.ins.get k)).n):cC ((aR (t.ins.get k)).get j) t.ins.n=true:=s9 (GU h j hj) (by omega)
theorem cV {x:af} {c:Int} (h:x.op=c):x=vQ x c:=by
 cases x
 subst h
 rfl
open Go Go.V
theorem dI {t:ai} {y:af} {f:Nat→Bool} {k:Nat} (h:((t.ins.get k).op==1)=false):fN t y f k=e8 t f (t.ins.get k):=by
 unfold fN
 rw [h]; rfl
theorem Nt (t:ai) (hx:t.ins.n≤maxLen) (hi:∀ k,k<t.ins.n→lf t k=true) (y:af) (hy:∀ k,k<t.ins.n→(t.ins.get k).op=1→k<y.args.n):∀ k,k≤t.ins.n→ah 10 0 (cf (eR 1 eB ⟨t.ins.n,bg t y t.ins.n⟩)) (aj 10 8) (bh t y (bg t y k) k):=by
 refine bo (fun k hk ih=>?_) ?_
 ·refine bD (X:=XH) (stop:=cz) (GG _ _ t y (bg t y k) k ?_)
  have h0:=hi k hk
  refine ay (fun h=>?_) (fun h=>(dec_lt h hk).elim)
  refine aA (au hk) (ay (fun h1=>?_) (fun h1=>?_))
  ·have e1:(t.ins.get k).op=1:=by simpa using h1
   have hk2:=au (hy k hk e1)
   have hk3:Nat.blt k t.ins.n=true:=by simpa [cX] using hk
   refine aA hk2 (aA (au hk) (aA hk3 (aA hk2 (aA (au hk) (aA hk3 ?_)))))
   rw [cd hk hx]
   have e:(y.args.get k==(k:Int))=fN t y (bg t y k) k:=by
    unfold fN
    rw [show ((t.ins.get k).op==1)=true from h1]; rfl
   exact ah.rename [0,1,2,3] rfl (ah.le (bh t y (bg t y (k+1)) (k+1)) (by repeat' (first|exact trivial|refine cR rfl ?_)) (rc (.cons (fJ e) (rc (rc .nil)))) rfl ih)
  ·have QB:(t.ins.get k).op≠1:=by simpa using h1
   have hop:=SU h0
   have key:=fun j hj=>S9 (j:=j) h0 hk hj
   have hc:(t.ins.get k).op=0∨(t.ins.get k).op=2∨(t.ins.get k).op=3∨(t.ins.get k).op=4∨(t.ins.get k).op=5∨(t.ins.get k).op=6∨(t.ins.get k).op=7∨(t.ins.get k).op=8∨(t.ins.get k).op=9∨(t.ins.get k).op=10∨(t.ins.get k).op=11∨(t.ins.get k).op=12∨(t.ins.get k).op=13∨(t.ins.get k).op=14∨(t.ins.get k).op=15∨(t.ins.get k).op=16∨(t.ins.get k).op=17∨(t.ins.get k).op=18∨(t.ins.get k).op=19∨(t.ins.get k).op=20∨(t.ins.get k).op=21:=by omega
   rcases hc with hc|hc|hc|hc|hc|hc|hc|hc|hc|hc|hc|hc|hc|hc|hc|hc|hc|hc|hc|hc|hc
   ·have hw:=cV hc
    rw [fD t y k (by rw [dI h1]; simp [e8,hc,cQ])] at ih
    exact ah.le (ox t y (t.ins.get k) (bg t y k) k) (by repeat' (first|exact trivial|refine cR rfl ?_)) (rc (rc (rc (rc (.cons (cw.of_eq (congrArg (fun z=>ae.box (lift (aT z))) hw)) .nil))))) rfl (OU t y (t.ins.get k) (bg t y k) k hk hx ih)
   ·have hw:=cV hc
    have e:fN t y (bg t y k) k=true:=by rw [dI h1]; simp [e8,hc,cQ]
    have ih:ah 10 0 (cf (eR 1 eB ⟨t.ins.n,bg t y t.ins.n⟩)) (aj 10 8) (bh t y (fun i=>bif Nat.beq i k then true else bg t y k i) (k+1)):=by rw [← e]; exact ih
    exact ah.le (pz t y (t.ins.get k) (bg t y k) k) (by repeat' (first|exact trivial|refine cR rfl ?_)) (rc (rc (rc (rc (.cons (cw.of_eq (congrArg (fun z=>ae.box (lift (aT z))) hw)) .nil))))) rfl (PF t y (t.ins.get k) (bg t y k) k hk hx ih)
   ·have hw:=cV hc
    have ha:cC (t.ins.get k).a t.ins.n=true:=by have:=key 0; simp [aR,fG,hc] at this; exact this
    have e:fN t y (bg t y k) k=bg t y k (t.ins.get k).a.toNat:=by rw [dI h1]; simp [e8,hc,cQ]
    have ih:ah 10 0 (cf (eR 1 eB ⟨t.ins.n,bg t y t.ins.n⟩)) (aj 10 8) (bh t y (fun i=>bif Nat.beq i k then bg t y k (t.ins.get k).a.toNat else bg t y k i) (k+1)):=by rw [← e]; exact ih
    exact ah.le (oP t y (t.ins.get k) (bg t y k) k) (by repeat' (first|exact trivial|refine cR rfl ?_)) (rc (rc (rc (rc (.cons (cw.of_eq (congrArg (fun z=>ae.box (lift (aT z))) hw)) .nil))))) rfl (OM t y (t.ins.get k) (bg t y k) k hk hx ha ih)
   ·have hw:=cV hc
    have ha:cC (t.ins.get k).a t.ins.n=true:=by have:=key 0; simp [aR,fG,hc] at this; exact this
    have hb:cC (t.ins.get k).b t.ins.n=true:=by have:=key 1; simp [aR,fG,hc] at this; exact this
    have e:fN t y (bg t y k) k=(bg t y k (t.ins.get k).a.toNat&&bg t y k (t.ins.get k).b.toNat):=by rw [dI h1]; simp [e8,hc,cQ]
    have ih:ah 10 0 (cf (eR 1 eB ⟨t.ins.n,bg t y t.ins.n⟩)) (aj 10 8) (bh t y (fun i=>bif Nat.beq i k then (bg t y k (t.ins.get k).a.toNat&&bg t y k (t.ins.get k).b.toNat) else bg t y k i) (k+1)):=by rw [← e]; exact ih
    exact ah.le (pF t y (t.ins.get k) (bg t y k) k) (by repeat' (first|exact trivial|refine cR rfl ?_)) (rc (rc (rc (rc (.cons (cw.of_eq (congrArg (fun z=>ae.box (lift (aT z))) hw)) .nil))))) rfl (NM t y (t.ins.get k) (bg t y k) k hk hx ha hb ih)
   ·have hw:=cV hc
    have ha:cC (t.ins.get k).a t.ins.n=true:=by have:=key 0; simp [aR,fG,hc] at this; exact this
    have e:fN t y (bg t y k) k=bg t y k (t.ins.get k).a.toNat:=by rw [dI h1]; simp [e8,hc,cQ]
    have ih:ah 10 0 (cf (eR 1 eB ⟨t.ins.n,bg t y t.ins.n⟩)) (aj 10 8) (bh t y (fun i=>bif Nat.beq i k then bg t y k (t.ins.get k).a.toNat else bg t y k i) (k+1)):=by rw [← e]; exact ih
    exact ah.le (oD t y (t.ins.get k) (bg t y k) k) (by repeat' (first|exact trivial|refine cR rfl ?_)) (rc (rc (rc (rc (.cons (cw.of_eq (congrArg (fun z=>ae.box (lift (aT z))) hw)) .nil))))) rfl (PH t y (t.ins.get k) (bg t y k) k hk hx ha ih)
   ·have hw:=cV hc
    have ha:cC (t.ins.get k).a t.ins.n=true:=by have:=key 0; simp [aR,fG,hc] at this; exact this
    have e:fN t y (bg t y k) k=bg t y k (t.ins.get k).a.toNat:=by rw [dI h1]; simp [e8,hc,cQ]
    have ih:ah 10 0 (cf (eR 1 eB ⟨t.ins.n,bg t y t.ins.n⟩)) (aj 10 8) (bh t y (fun i=>bif Nat.beq i k then bg t y k (t.ins.get k).a.toNat else bg t y k i) (k+1)):=by rw [← e]; exact ih
    exact ah.le (py t y (t.ins.get k) (bg t y k) k) (by repeat' (first|exact trivial|refine cR rfl ?_)) (rc (rc (rc (rc (.cons (cw.of_eq (congrArg (fun z=>ae.box (lift (aT z))) hw)) .nil))))) rfl (Nz t y (t.ins.get k) (bg t y k) k hk hx ha ih)
   ·have hw:=cV hc
    have ha:cC (t.ins.get k).a t.ins.n=true:=by have:=key 0; simp [aR,fG,hc] at this; exact this
    have e:fN t y (bg t y k) k=bg t y k (t.ins.get k).a.toNat:=by rw [dI h1]; simp [e8,hc,cQ]
    have ih:ah 10 0 (cf (eR 1 eB ⟨t.ins.n,bg t y t.ins.n⟩)) (aj 10 8) (bh t y (fun i=>bif Nat.beq i k then bg t y k (t.ins.get k).a.toNat else bg t y k i) (k+1)):=by rw [← e]; exact ih
    exact ah.le (pE t y (t.ins.get k) (bg t y k) k) (by repeat' (first|exact trivial|refine cR rfl ?_)) (rc (rc (rc (rc (.cons (cw.of_eq (congrArg (fun z=>ae.box (lift (aT z))) hw)) .nil))))) rfl (Oa t y (t.ins.get k) (bg t y k) k hk hx ha ih)
   ·have hw:=cV hc
    have ha:cC (t.ins.get k).a t.ins.n=true:=by have:=key 0; simp [aR,fG,hc] at this; exact this
    have e:fN t y (bg t y k) k=bg t y k (t.ins.get k).a.toNat:=by rw [dI h1]; simp [e8,hc,cQ]
    have ih:ah 10 0 (cf (eR 1 eB ⟨t.ins.n,bg t y t.ins.n⟩)) (aj 10 8) (bh t y (fun i=>bif Nat.beq i k then bg t y k (t.ins.get k).a.toNat else bg t y k i) (k+1)):=by rw [← e]; exact ih
    exact ah.le (pc t y (t.ins.get k) (bg t y k) k) (by repeat' (first|exact trivial|refine cR rfl ?_)) (rc (rc (rc (rc (.cons (cw.of_eq (congrArg (fun z=>ae.box (lift (aT z))) hw)) .nil))))) rfl (M5 t y (t.ins.get k) (bg t y k) k hk hx ha ih)
   ·have hw:=cV hc
    have ha:cC (t.ins.get k).a t.ins.n=true:=by have:=key 0; simp [aR,fG,hc] at this; exact this
    have hb:cC (t.ins.get k).b t.ins.n=true:=by have:=key 1; simp [aR,fG,hc] at this; exact this
    have e:fN t y (bg t y k) k=(bg t y k (t.ins.get k).a.toNat&&bg t y k (t.ins.get k).b.toNat):=by rw [dI h1]; simp [e8,hc,cQ]
    have ih:ah 10 0 (cf (eR 1 eB ⟨t.ins.n,bg t y t.ins.n⟩)) (aj 10 8) (bh t y (fun i=>bif Nat.beq i k then (bg t y k (t.ins.get k).a.toNat&&bg t y k (t.ins.get k).b.toNat) else bg t y k i) (k+1)):=by rw [← e]; exact ih
    exact ah.le (pj t y (t.ins.get k) (bg t y k) k) (by repeat' (first|exact trivial|refine cR rfl ?_)) (rc (rc (rc (rc (.cons (cw.of_eq (congrArg (fun z=>ae.box (lift (aT z))) hw)) .nil))))) rfl (Pf t y (t.ins.get k) (bg t y k) k hk hx ha hb ih)
   ·have hw:=cV hc
    have ha:cC (t.ins.get k).a t.ins.n=true:=by have:=key 0; simp [aR,fG,hc] at this; exact this
    have e:fN t y (bg t y k) k=(iw t (t.ins.get k)&&bg t y k (t.ins.get k).a.toNat):=by rw [dI h1]; simp [e8,hc,cQ]
    have ih:ah 10 0 (cf (eR 1 eB ⟨t.ins.n,bg t y t.ins.n⟩)) (aj 10 8) (bh t y (fun i=>bif Nat.beq i k then (iw t (t.ins.get k)&&bg t y k (t.ins.get k).a.toNat) else bg t y k i) (k+1)):=by rw [← e]; exact ih
    exact ah.le (mY t y (t.ins.get k) (bg t y k) k) (by repeat' (first|exact trivial|refine cR rfl ?_)) (rc (rc (rc (rc (.cons (cw.of_eq (congrArg (fun z=>ae.box (lift (aT z))) hw)) .nil))))) rfl (Ln t y (t.ins.get k) (bg t y k) k hk hx ha ih)
   ·have hw:=cV hc
    rw [fD t y k (by rw [dI h1]; simp [e8,hc,cQ])] at ih
    exact ah.le (mO t y (t.ins.get k) (bg t y k) k) (by repeat' (first|exact trivial|refine cR rfl ?_)) (rc (rc (rc (rc (.cons (cw.of_eq (congrArg (fun z=>ae.box (lift (aT z))) hw)) .nil))))) rfl (Li t y (t.ins.get k) (bg t y k) k hk hx ih)
   ·have hw:=cV hc
    have ha:cC (t.ins.get k).a t.ins.n=true:=by have:=key 0; simp [aR,fG,hc] at this; exact this
    have hb:cC (t.ins.get k).b t.ins.n=true:=by have:=key 1; simp [aR,fG,hc] at this; exact this
    have e:fN t y (bg t y k) k=(la t&&(bg t y k (t.ins.get k).a.toNat&&bg t y k (t.ins.get k).b.toNat)):=by rw [dI h1]; simp [e8,hc,cQ]
    have ih:ah 10 0 (cf (eR 1 eB ⟨t.ins.n,bg t y t.ins.n⟩)) (aj 10 8) (bh t y (fun i=>bif Nat.beq i k then (la t&&(bg t y k (t.ins.get k).a.toNat&&bg t y k (t.ins.get k).b.toNat)) else bg t y k i) (k+1)):=by rw [← e]; exact ih
    exact ah.le (mm t y (t.ins.get k) (bg t y k) k) (by repeat' (first|exact trivial|refine cR rfl ?_)) (rc (rc (rc (rc (.cons (cw.of_eq (congrArg (fun z=>ae.box (lift (aT z))) hw)) .nil))))) rfl (Ix t y (t.ins.get k) (bg t y k) k hk hx ha hb ih)
   ·have hw:=cV hc
    rw [fD t y k (by rw [dI h1]; simp [e8,hc,cQ])] at ih
    exact ah.le (mI t y (t.ins.get k) (bg t y k) k) (by repeat' (first|exact trivial|refine cR rfl ?_)) (rc (rc (rc (rc (.cons (cw.of_eq (congrArg (fun z=>ae.box (lift (aT z))) hw)) .nil))))) rfl (LG t y (t.ins.get k) (bg t y k) k hk hx ih)
   ·have hw:=cV hc
    have ha:cC (t.ins.get k).a t.ins.n=true:=by have:=key 0; simp [aR,fG,hc] at this; exact this
    have e:fN t y (bg t y k) k=bg t y k (t.ins.get k).a.toNat:=by rw [dI h1]; simp [e8,hc,cQ]
    have ih:ah 10 0 (cf (eR 1 eB ⟨t.ins.n,bg t y t.ins.n⟩)) (aj 10 8) (bh t y (fun i=>bif Nat.beq i k then bg t y k (t.ins.get k).a.toNat else bg t y k i) (k+1)):=by rw [← e]; exact ih
    exact ah.le (mV t y (t.ins.get k) (bg t y k) k) (by repeat' (first|exact trivial|refine cR rfl ?_)) (rc (rc (rc (rc (.cons (cw.of_eq (congrArg (fun z=>ae.box (lift (aT z))) hw)) .nil))))) rfl (Ju t y (t.ins.get k) (bg t y k) k hk hx ha ih)
   ·have hw:=cV hc
    rw [fD t y k (by rw [dI h1]; simp [e8,hc,cQ])] at ih
    exact ah.le (mC t y (t.ins.get k) (bg t y k) k) (by repeat' (first|exact trivial|refine cR rfl ?_)) (rc (rc (rc (rc (.cons (cw.of_eq (congrArg (fun z=>ae.box (lift (aT z))) hw)) .nil))))) rfl (KI t y (t.ins.get k) (bg t y k) k hk hx ih)
   ·have hw:=cV hc
    rw [fD t y k (by rw [dI h1]; simp [e8,hc,cQ])] at ih
    exact ah.le (mT t y (t.ins.get k) (bg t y k) k) (by repeat' (first|exact trivial|refine cR rfl ?_)) (rc (rc (rc (rc (.cons (cw.of_eq (congrArg (fun z=>ae.box (lift (aT z))) hw)) .nil))))) rfl (JJ t y (t.ins.get k) (bg t y k) k hk hx ih)
   ·have hw:=cV hc
    rw [fD t y k (by rw [dI h1]; simp [e8,hc,cQ])] at ih
    exact ah.le (mD t y (t.ins.get k) (bg t y k) k) (by repeat' (first|exact trivial|refine cR rfl ?_)) (rc (rc (rc (rc (.cons (cw.of_eq (congrArg (fun z=>ae.box (lift (aT z))) hw)) .nil))))) rfl (Jj t y (t.ins.get k) (bg t y k) k hk hx ih)
   ·have hw:=cV hc
    rw [fD t y k (by rw [dI h1]; simp [e8,hc,cQ])] at ih
    exact ah.le (mU t y (t.ins.get k) (bg t y k) k) (by repeat' (first|exact trivial|refine cR rfl ?_)) (rc (rc (rc (rc (.cons (cw.of_eq (congrArg (fun z=>ae.box (lift (aT z))) hw)) .nil))))) rfl (J7 t y (t.ins.get k) (bg t y k) k hk hx ih)
   ·have hw:=cV hc
    rw [fD t y k (by rw [dI h1]; simp [e8,hc,cQ])] at ih
    exact ah.le (mE t y (t.ins.get k) (bg t y k) k) (by repeat' (first|exact trivial|refine cR rfl ?_)) (rc (rc (rc (rc (.cons (cw.of_eq (congrArg (fun z=>ae.box (lift (aT z))) hw)) .nil))))) rfl (Ly t y (t.ins.get k) (bg t y k) k hk hx ih)
   ·have hw:=cV hc
    rw [fD t y k (by rw [dI h1]; simp [e8,hc,cQ])] at ih
    exact ah.le (mF t y (t.ins.get k) (bg t y k) k) (by repeat' (first|exact trivial|refine cR rfl ?_)) (rc (rc (rc (rc (.cons (cw.of_eq (congrArg (fun z=>ae.box (lift (aT z))) hw)) .nil))))) rfl (Mb t y (t.ins.get k) (bg t y k) k hk hx ih)
   ·have hw:=cV hc
    rw [fD t y k (by rw [dI h1]; simp [e8,hc,cQ])] at ih
    exact ah.le (mz t y (t.ins.get k) (bg t y k) k) (by repeat' (first|exact trivial|refine cR rfl ?_)) (rc (rc (rc (rc (.cons (cw.of_eq (congrArg (fun z=>ae.box (lift (aT z))) hw)) .nil))))) rfl (Ms t y (t.ins.get k) (bg t y k) k hk hx ih)
 ·refine bD (X:=XH) (stop:=cz) (GG _ _ t y _ _ ?_)
  refine ay (fun h=>cE h) (fun h=>?_)
  exact kM (dP.sl fun i _ j hj=>dP.refl _)
theorem Hi {n:Nat} (h:0<n) (h2:n≤1000000):IntKind.i64.wrap ((n:Int)-1)=((n-1:Nat):Int):=by
 rw [show ((n:Int)-1)=((n-1:Nat):Int) by omega,kR (by omega)]
theorem L0 (t:ai) (hS:ed t) (hr:bW t=jH t):LC 10 [dU t] [] (eR 1 eB (gM t)) []:=by
 have hN:=hS.ins
 refine bw (X:=XH) (stop:=cz) UY (aP (by kernel_rfl)) (Vk _ _ t ⟨Me t hS,ay (fun h=>?_) (fun h=>?_)⟩)
 ·rw [show gM t=⟨0,fun _=>false⟩ from by unfold gM; rw [show (bW t != 0)=true from h]; rfl]
  exact fun E av w v q=>eN.nil 1 _ E av w v q
 have h0:bW t=0:=by simpa using h
 have hi:=HT (hr▸h0)
 have hn:0<t.ins.n:=by
  rw [hr] at h0
  have hb:nT t=true:=by
   unfold jH at h0
   revert h0
   cases decide ((t.ins.n:Int)>200)<;>cases decide ((t.aa.n:Int)>60)<;>cases nT t<;>simp
  unfold nT at hb
  simp at hb
  omega
 have hw:=Hi hn (by omega)
 refine aA (by rw [cG,Nat.ble_eq,Nat.ble_eq]; unfold maxLen; omega) (aA (cB _) ?_)
 have hw2:(IntKind.i64.wrap ((t.ins.n:Int)-1)).toNat=t.ins.n-1:=by rw [hw]; omega
 refine aA (by rw [hw]; exact au (by omega)) ?_
 refine bD (X:=XH) (stop:=cz) (PD _ _ t ?_)
 rw [hw2]
 refine ay (fun h5=>?_) (fun h5=>?_)
 ·rw [show gM t=⟨t.ins.n,fun _=>false⟩ from by unfold gM lh; rw [show (bW t != 0)=false from h,cond_false,show ((t.ins.get (t.ins.n-1)).op != 20)=true from h5]; rfl]
  exact kM (dP.sl fun i _ j hj=>by
   have hj:j=0:=by omega
   subst hj
   exact dP.refl _)
 ·rw [show gM t=⟨t.ins.n,bg t (lh t) t.ins.n⟩ from by unfold gM lh; rw [show (bW t != 0)=false from h,cond_false,show ((t.ins.get (t.ins.n-1)).op != 20)=false from h5]; rfl]
  have e20:(t.ins.get (t.ins.n-1)).op=20:=by simpa using h5
  have hl:=Ku (hi (t.ins.n-1) (by omega)) e20
  have hy:∀ k,k<t.ins.n→(t.ins.get k).op=1→k<(lh t).args.n:=fun k hk ho=>by
   have:=Pn (hi k hk) ho
   unfold lh
   omega
  exact ah.le (bh t (lh t) (bg t (lh t) 0) 0) (by repeat' (first|exact trivial|refine cR rfl ?_)) (rc (.cons (cw.arr fun i _ j hj=>by
   have hj:j=0:=by omega
   subst hj
   exact dP.refl _) (rc (rc .nil)))) rfl (Nt t (by unfold maxLen; omega) hi _ hy 0 (bB _))
open Go Go.V
noncomputable section
def YN (o:Nat→Bool) (u:Sq Int):Nat→Nat→Bool→Bool
 | 0,_,s=>s
 | m+1,j,s=>YN o u m (j+1) (bif s then o (u.get j).toNat else false)
def Uu (t:ai) (y x:af):Bool:=bif y.op==20 then !sL (YF t x) t.ins.n else false
def V5 (op:Int):Bool:=cQ op [2,3,4,5,6,7,8,9,14,10,12]
def Vv (t:ai) (y:af) (o:Nat→Bool) (k:Nat):Bool:=
 bif (t.ins.get k).op==1 then (bif y.op==20 then y.args.get k==(k:Int) else false) else
 bif V5 (t.ins.get k).op then YN o (aR (t.ins.get k)) (aR (t.ins.get k)).n 0 (Uu t y (t.ins.get k)) else false
def js (t:ai) (y:af):Nat→Nat→Bool
 | 0=>fun _=>false
 | k+1=>fun i=>bif Nat.blt i k then js t y k i else Vv t y (js t y k) k
end
theorem jg {a b:Nat} (h:a<b):Nat.blt a b=true:=by simpa [cX] using h
open Go Go.V
end Go.Proofs.YtghfgcfabbbbbaaDoor
namespace Go.Proofs.YtghfgcfabbbbbaaDoor
open Go Go.V
noncomputable section
end
open Go Go.V
theorem BQ:∀ (m k p p':Nat) (ins:Sq af) (ex:Sq ag),cZ ⟨p,ins,ex⟩ ⟨p',qQ m k ins,ex⟩ m 0
 | 0,k,p,p',ins,ex=>⟨bf _,bf _,fun h=>h,fun h=>h⟩
 | m+1,k,p,p',ins,ex=>by
   have h1:=cZ.add ⟨p,ins,ex⟩ p (x:=pI k) ⟨by show (0:Int)≤_; omega,bB _,bB _,bB _⟩
   have h2:=BQ m (k+1) p p' (bC ins (pI k)) ex
   exact (h1.trans h2).le (by omega) (by omega)
theorem AH (l:Sq Int) (fuel:Int) (param:Nat) (hP:param≤900):∀ (m:Nat) (s:dv),cZ s (ML l fuel param m s) (4*m) (2*m)
 | 0,s=>cZ.refl s
 | m+1,s=>((CK l fuel param hP s).trans (AH l fuel param hP m _)).le (by omega) (by omega)
theorem Gc (l:Sq Int) (ins:Sq af):∀ (m k p:Nat) (h:Sq Int),(rv l ins m k p h).n=h.n+m
 | 0,k,p,h=>rfl
 | m+1,k,p,h=>by
   unfold rv
   cases (nx l p 2).1==0 with
   | true=>
     show (rv l ins m _ _ _).n=_
     rw [Gc]
     show h.n+1+m=_
     omega
   | false=>
     show (rv l ins m _ _ _).n=_
     rw [Gc]
     show h.n+1+m=_
     omega
structure zT (t:ai):Prop where
 ins:t.ins.n≤900
 aa:t.aa.n≤900
 gi:∀ k,k<t.ins.n→oe (t.ins.get k)
 ge:∀ k,k<t.aa.n→uC (t.aa.get k)
theorem cZ.Uj {p:Nat} {s:dv} {c d:Nat} (h:cZ ⟨p,gX,nO⟩ s c d) (hc:c≤900) (hd:d≤900):zT ⟨⟨0,0⟩,s.ins,s.ex⟩:=by
 have g1:=h.gi fun k hk=>absurd hk (Nat.not_lt_zero k)
 have g2:=h.ge fun k hk=>absurd hk (Nat.not_lt_zero k)
 have g3:s.ins.n≤0+c:=h.ins
 have g4:s.ex.n≤0+d:=h.ex
 exact ⟨by show s.ins.n≤_; omega,by show s.ex.n≤_; omega,g1,g2⟩
theorem Hg (l:Sq Int):zT (made l):=by
 obtain ⟨d,hd,dp⟩:=il (l:=l) (p:=0) (n:=4) (by omega) (by omega)
 unfold made
 rw [hd]
 show zT (LY l (1+d) (nx l 0 4).2 (qQ (1+d) 0 gX) nO)
 have h1:=BQ (1+d) 0 0 0 gX nO
 generalize (nx l 0 4).2=p
 unfold LY
 have hf:=uE (l:=l) (p:=p) (n:=4) (by omega) (by omega)
 obtain ⟨e,he,hle⟩:=il (l:=l) (p:=(lv l (nx l p 4).2 (qQ (1+d) 0 gX) 0 (1+d)).2) (n:=14) (by omega) (by omega)
 rw [he]
 generalize hF:1+(nx l p 4).1=fuel
 have h2:cZ ⟨0,qQ (1+d) 0 gX,nO⟩ (MP l fuel (1+d) (nx l p 4).2 (qQ (1+d) 0 gX) nO) 1 1:=
  cZ.both _ _ (eZ (by omega)) (qk l _ _ _ _ (by omega))
 have h3:=(h1.trans h2).trans (AH l fuel (1+d) (by omega) e (MP l fuel (1+d) (nx l p 4).2 (qQ (1+d) 0 gX) nO))
 show zT (rh l fuel (1+d) (ML l fuel (1+d) e _))
 generalize ML l fuel (1+d) e (MP l fuel (1+d) (nx l p 4).2 (qQ (1+d) 0 gX) nO)=s at h3 ⊢
 unfold rh
 cases (nx l s.p 6).1==0 with
 | true=>exact cZ.Uj (h3.trans (cZ.both s 0 (eZ (by omega)) (qk l _ _ _ _ (by omega)))) (by omega) (by omega)
 | false=>
   refine cZ.Uj (h3.trans (cZ.add s 0 (x:={ cm 20 0 0 0 0 (-1) with args:=rv l s.ins (1+d) 0 (nx l s.p 6).2 (cx 0) }) ⟨by show (0:Int)≤_; omega,?_,bB _,bB _⟩)) (by omega) (by omega)
   show (rv l s.ins (1+d) 0 (nx l s.p 6).2 (cx 0)).n≤900
   rw [Gc]
   show 0+(1+d)≤900
   omega
open Go Go.V
structure NC (m:Nat) (x:af):Prop where
 n:x.n≤9223372036854775807
 args:x.args.n≤m
 names:x.names.n≤m
 str:x.k.s.size≤m
structure PE (m:Nat) (e:ag):Prop where
 frames:e.frames.n≤m
 vars:∀ j,j<e.frames.n→(e.frames.get j).vars.n≤m
 aC:e.aC.n≤m
 names:∀ j,j<e.aC.n→(e.aC.get j).names.n≤m
 items:∀ j,j<e.aC.n→(e.aC.get j).items.n≤m
 pos:0<e.frames.n
structure U0 (m:Nat) (t:ai):Prop where
 ins:t.ins.n≤m
 aa:t.aa.n≤m
 gi:∀ k,k<t.ins.n→NC m (t.ins.get k)
 ge:∀ k,k<t.aa.n→PE m (t.aa.get k)
theorem NC.le {m m':Nat} {x:af} (h:NC m x) (hm:m≤m'):NC m' x:=⟨h.n,bU h.args hm,bU h.names hm,bU h.str hm⟩
theorem PE.le {m m':Nat} {x:ag} (h:PE m x) (hm:m≤m'):PE m' x:=⟨bU h.frames hm,fun j q=>bU (h.vars j q) hm,bU h.aC hm,fun j q=>bU (h.names j q) hm,fun j q=>bU (h.items j q) hm,h.pos⟩
theorem U0.le {m m':Nat} {t:ai} (h:U0 m t) (hm:m≤m'):U0 m' t:=⟨bU h.ins hm,bU h.aa hm,fun k q=>(h.gi k q).le hm,fun k q=>(h.ge k q).le hm⟩
theorem U0.small {m:Nat} {t:ai} (h:U0 m t) (hm:m≤1000):ed t:=
 ⟨bU h.ins hm,bU h.aa hm,fun k q=>bU (h.gi k q).args hm,fun k q=>bU (h.gi k q).names hm,fun k q=>bU (h.gi k q).str hm,fun k q=>
  ⟨bU (h.ge k q).frames hm,fun j r=>bU ((h.ge k q).vars j r) hm,bU (h.ge k q).aC hm,fun j r=>bU ((h.ge k q).names j r) hm,fun j r=>bU ((h.ge k q).items j r) hm⟩⟩
end Go.Proofs.YtghfgcfabbbbbaaDoor
