/- Loops: what is to be shown. -/
import Derived.Test.YtgbbdaegmfjahaaP9
import Derived.Test.YtgbbdaegmfjahaaP7
import Derived.Test.YtgbbdaegmfjahaaP8
set_option linter.unusedVariables false
set_option linter.unusedSimpArgs false
set_option maxRecDepth 1000000
namespace Go.Proofs.Ytgbbdaegmfjahaa
open Go Go.V
noncomputable section
section
def GO:fN:={ F:=ext vh [(26,λ_ _=>(bool true,[],[]))] }
end
theorem B9 (x:aj):cp x x=true:=by
 unfold cp
 simp only [beq_self_eq_true,dR,bT,bW,Bool.and_self]
theorem kC {C:Prop} {n:Int} (h:(n != n)=true):C:=by simp at h
theorem rW {C:Prop} {b:Bool} (hb:b=true) (h:(!b)=true):C:=by rw [hb] at h; cases h
def Fy:Nat->Bool:=λi=>Nat.beq i 4||Nat.beq i 9
theorem aL2:Fn 26:={}
theorem ay5 (L:LP) (QD:D->Prop) (e:ah) (h:br (e.3 != e.3) (QD (bool false)) (br ((↑e.1.1:Int)!=(↑e.1.1:Int)) (QD (bool false)) (br ((↑e.2.1:Int)!=(↑e.2.1:Int)) (QD (bool false)) (L (ai 26 4) ⟨[de,kb,yF],[(cP e),(cP e)],[]⟩)))):fx GO 26 Fy L (bL QD) [qw e,qw e] []:=km h
def BI (e:ah) (k:Nat):VS:=⟨[w6,xA,(5,int k,[])],[(cP e),(cP e)],[]⟩
theorem QM (L:LP) (QD:D->Prop) (e:ah) (k:Nat) (h:br (decide ((↑k:Int)<(↑e.1.1:Int))) (nd (cM (↑k:Int) e.1.1) (nd (cM (↑k:Int) e.1.1) (br ((e.1.2 k).1 != (e.1.2 k).1) (QD (bool false)) (nd (cM (↑k:Int) e.1.1) (nd (cM (↑k:Int) e.1.1) (br ((e.1.2 k).2 != (e.1.2 k).2) (QD (bool false)) (nd (cM (↑k:Int) e.1.1) (nd (cM (↑k:Int) e.1.1) ((LC 44 [(.c (.im (.sl 1 ((e.1.2 k).3.1) (λi=>bA ((e.1.2 k).3.2 i))))),(.c (.im (.sl 1 ((e.1.2 k).3.1) (λi=>bA ((e.1.2 k).3.2 i)))))] [] (bool (bU (λa b=>a==b) (e.1.2 k).3 (e.1.2 k).3)) []/\br (!bU (λa b=>a==b) (e.1.2 k).3 (e.1.2 k).3) (QD (bool false)) (L (ai 26 4) ⟨[de,kb,(5,((int (IntKind.i64.wrap ((↑k:Int)+1))),[]))],[(cP e),(cP e),.dead],[]⟩))))))))))) (L (ai 26 9) ⟨[de,kb,(6,((int 0),[]))],[(cP e),(cP e)],[]⟩)):cB GO 26 Fy L (bL QD) 4 (BI e k):=km h
def B7 (e:ah) (k:Nat):VS:=⟨[w6,xA,(6,int k,[])],[(cP e),(cP e)],[]⟩
theorem QV (L:LP) (QD:D->Prop) (e:ah) (k:Nat) (h:br (decide ((↑k:Int)<(↑e.2.1:Int))) (nd (cM (↑k:Int) e.2.1) (nd (cM (↑k:Int) e.2.1) (br ((e.2.2 k).1 != (e.2.2 k).1) (QD (bool false)) (br ((e.2.2 k).2 != (e.2.2 k).2) (QD (bool false)) ((LC 45 [(.c (.im (.sl 1 ((e.2.2 k).3.1) (λi=>cw ((e.2.2 k).3.2 i))))),(.c (.im (.sl 1 ((e.2.2 k).3.1) (λi=>cw ((e.2.2 k).3.2 i)))))] [] (bool (bU jR (e.2.2 k).3 (e.2.2 k).3)) []/\br (!bU jR (e.2.2 k).3 (e.2.2 k).3) (QD (bool false)) ((LC 44 [(.c (.im (.sl 1 ((e.2.2 k).4.1) (λi=>bA ((e.2.2 k).4.2 i))))),(.c (.im (.sl 1 ((e.2.2 k).4.1) (λi=>bA ((e.2.2 k).4.2 i)))))] [] (bool (bU (λa b=>a==b) (e.2.2 k).4 (e.2.2 k).4)) []/\br (!bU (λa b=>a==b) (e.2.2 k).4 (e.2.2 k).4) (QD (bool false)) (L (ai 26 9) ⟨[de,kb,(6,((int (IntKind.i64.wrap ((↑k:Int)+1))),[]))],[(cP e),(cP e),(.box (lift (lY (e.2.2 k)))),(.box (lift (lY (e.2.2 k))))],[]⟩))))))))) (QD (bool true))):cB GO 26 Fy L (bL QD) 9 (B7 e k):=km h
theorem YW (e:ah) (hn:e.ax.n<=maxLen):∀ k,k<=e.ax.n->af 26 0 (bF (bool true)) (ai 26 9) (B7 e k):=by
 refine aU (λk hk ih=>?_) ?_
 .have hW:=dr hk hn
  refine aR (X:=GO) (stop:=Fy) (QV _ _ e k ?_)
  refine aq (λ_=>aC (a8 hk) (aC (a8 hk) (aq (λh=>kC h) λ_=>aq (λh=>kC h) λ_=>⟨Xa _ _,aq (λh=>rW (bW _) h) λ_=>⟨Ou _ _,aq (λh=>rW (bT _) h) λ_=>?_⟩⟩))) (λh=>(dec_lt h hk).elim)
  rw [hW]
  exact af.rename [0,1] rfl (af.lr (B7 e (k+1)) ih)
 .refine aR (X:=GO) (stop:=Fy) (QV _ _ e _ ?_)
  exact aq (λh=>bS h) (λ_=>bh.refl _)
theorem Zr (e:ah) (hn:e.frames.n<=maxLen) (ho:e.ax.n<=maxLen):∀ k,k<=e.frames.n->af 26 0 (bF (bool true)) (ai 26 4) (BI e k):=by
 refine aU (λk hk ih=>?_) ?_
 .have hW:=dr hk hn
  refine aR (X:=GO) (stop:=Fy) (QM _ _ e k ?_)
  have b:=a8 hk
  refine aq (λ_=>aC b (aC b (aq (λh=>kC h) λ_=>aC b (aC b (aq (λh=>kC h) λ_=>aC b (aC b ⟨Ou _ _,aq (λh=>rW (bT _) h) λ_=>?_⟩)))))) (λh=>(dec_lt h hk).elim)
  rw [hW]
  exact af.rename [0,1] rfl (af.lr (BI e (k+1)) ih)
 .refine aR (X:=GO) (stop:=Fy) (QM _ _ e _ ?_)
  exact aq (λh=>bS h) (λ_=>af.rename [0,1] rfl (af.lr (B7 e 0) (YW e ho 0 (bu _))))
theorem au9 (e:ah) (hn:e.frames.n<=maxLen) (ho:e.ax.n<=maxLen):LC 26 [qw e,qw e] [] (bool true) []:=by
 refine pv (X:=GO) (stop:=Fy) aL2 (ay5 _ _ e ?_)
 exact aq (λh=>kC h) λ_=>aq (λh=>kC h) λ_=>aq (λh=>kC h) λ_=>af.lr (BI e 0) (Zr e hn ho 0 (bu _))
def FG:Nat->Bool:=λi=>Nat.beq i 4||Nat.beq i 9
theorem az2:Fn 9:={}
theorem aI5 (L:LP) (QD:D->Prop) (t:ae) (h:br (!(t.1.1==t.1.1&&(t.1.2==t.1.2&&true))) (QD (bool false)) (br ((↑t.2.1:Int)!=(↑t.2.1:Int)) (QD (bool false)) (br ((↑t.3.1:Int)!=(↑t.3.1:Int)) (QD (bool false)) (L (ai 9 4) ⟨[de,kb,yF],[(cu t),(cu t)],[]⟩)))):fx GO 9 FG L (bL QD) [a7 t,a7 t] []:=km h
def C2 (t:ae) (k:Nat):VS:=⟨[w6,xA,(5,int k,[])],[(cu t),(cu t)],[]⟩
theorem OC (L:LP) (QD:D->Prop) (t:ae) (k:Nat) (h:br (decide ((↑k:Int)<(↑t.2.1:Int))) (nd (cM (↑k:Int) t.2.1) (nd (cM (↑k:Int) t.2.1) ((LC 25 [(rK t k),(rK t k)] [] (bool (cp (t.2.2 k) (t.2.2 k))) []/\br (!cp (t.2.2 k) (t.2.2 k)) (QD (bool false)) (L (ai 9 4) ⟨[de,kb,(5,((int (IntKind.i64.wrap ((↑k:Int)+1))),[]))],[(cu t),(cu t),.dead],[]⟩))))) (L (ai 9 9) ⟨[de,kb,(6,((int 0),[]))],[(cu t),(cu t)],[]⟩)):cB GO 9 FG L (bL QD) 4 (C2 t k):=km h
def CG (t:ae) (k:Nat):VS:=⟨[w6,xA,(6,int k,[])],[(cu t),(cu t)],[]⟩
theorem OY (L:LP) (QD:D->Prop) (t:ae) (k:Nat) (h:br (decide ((↑k:Int)<(↑t.3.1:Int))) (nd (cM (↑k:Int) t.3.1) (nd (cM (↑k:Int) t.3.1) ((LC 26 [(.a (lift (bn (t.3.2 k)))),(.a (lift (bn (t.3.2 k))))] [] (bool true) []/\L (ai 9 9) ⟨[de,kb,(6,((int (IntKind.i64.wrap ((↑k:Int)+1))),[]))],[(cu t),(cu t),.dead],[]⟩)))) (QD (bool true))):cB GO 9 FG L (bL QD) 9 (CG t k):=km h
theorem ZB (t:ae) (hS:bj t):∀ k,k<=t.aa.n->af 9 0 (bF (bool true)) (ai 9 9) (CG t k):=by
 have hn:t.aa.n<=maxLen:=cW hS.aa (by decide)
 refine aU (λk hk ih=>?_) ?_
 .have hW:=dr hk hn
  refine aR (X:=GO) (stop:=FG) (OY _ _ t k ?_)
  have b:=a8 hk
  have hE:=hS.ex k hk
  refine aq (λ_=>aC b (aC b ⟨au9 _ (cW hE.frames (by decide)) (cW hE.ax (by decide)),?_⟩)) (λh=>(dec_lt h hk).elim)
  rw [hW]
  exact af.rename [0,1] rfl (af.lr (CG t (k+1)) ih)
 .refine aR (X:=GO) (stop:=FG) (OY _ _ t _ ?_)
  exact aq (λh=>bS h) (λ_=>bh.refl _)
theorem YL (t:ae) (hS:bj t):∀ k,k<=t.ins.n->af 9 0 (bF (bool true)) (ai 9 4) (C2 t k):=by
 have hn:t.ins.n<=maxLen:=cW hS.ins (by decide)
 refine aU (λk hk ih=>?_) ?_
 .have hW:=dr hk hn
  refine aR (X:=GO) (stop:=FG) (OC _ _ t k ?_)
  have b:=a8 hk
  refine aq (λ_=>aC b (aC b ⟨as9 _ _,aq (λh=>rW (B9 _) h) λ_=>?_⟩)) (λh=>(dec_lt h hk).elim)
  rw [hW]
  exact af.rename [0,1] rfl (af.lr (C2 t (k+1)) ih)
 .refine aR (X:=GO) (stop:=FG) (OC _ _ t _ ?_)
  exact aq (λh=>bS h) (λ_=>af.rename [0,1] rfl (af.lr (CG t 0) (ZB t hS 0 (bu _))))
theorem ak8 (t:ae) (hS:bj t):LC 9 [a7 t,a7 t] [] (bool true) []:=by
 refine pv (X:=GO) (stop:=FG) az2 (aI5 _ _ t ?_)
 exact aq (λh=>rW (by simp) h) λ_=>aq (λh=>kC h) λ_=>aq (λh=>kC h) λ_=>af.lr (C2 t 0) (YL t hS 0 (bu _))
open Go Go.V
theorem EX:∀ (m k p p':Nat) (ins:Sq aj) (ex:Sq ah),dE ⟨p,ins,ex⟩ ⟨p',Py m k ins,ex⟩ m 0
 | 0,k,p,p',ins,ex=>⟨bG _,bG _,λh=>h,λh=>h⟩
 | m+1,k,p,p',ins,ex=>by
   have h1:=dE.add ⟨p,ins,ex⟩ p (x:=pI k) ⟨by show (0:Int)<=_; omega,bu _,bu _,bu _⟩
   have h2:=EX m (k+1) p p' (cj ins (pI k)) ex
   exact (h1.trans h2).le (by omega) (by omega)
theorem Gi (l:Sq Int) (fuel:Int) (param:Nat) (hP:param<=900):∀ (m:Nat) (s:eL),dE s (WG l fuel param m s) (4*m) (2*m)
 | 0,s=>dE.refl s
 | m+1,s=>((Fg l fuel param hP s).trans (Gi l fuel param hP m _)).le (by omega) (by omega)
theorem Pz (l:Sq Int) (ins:Sq aj):∀ (m k p:Nat) (h:Sq Int),(zW l ins m k p h).n=h.n+m
 | 0,k,p,h=>rfl
 | m+1,k,p,h=>by
   unfold zW
   cases (nx l p 2).1==0 with
   | true=>
     show (zW l ins m _ _ _).n=_
     rw [Pz]
     show h.n+1+m=_
     omega
   | false=>
     show (zW l ins m _ _ _).n=_
     rw [Pz]
     show h.n+1+m=_
     omega
structure CP (t:ae):Prop where
 ins:t.ins.n<=900
 aa:t.aa.n<=900
 gi:∀ k,k<t.ins.n->qp (t.ins.get k)
 ge:∀ k,k<t.aa.n->xX (t.aa.get k)
theorem dE.ai0 {p:Nat} {s:eL} {c d:Nat} (h:dE ⟨p,nR,yd⟩ s c d) (hc:c<=900) (hd:d<=900):CP ⟨⟨0,0⟩,s.ins,s.ex⟩:=by
 have g1:=h.gi λk hk=>absurd hk (Nat.not_lt_zero k)
 have g2:=h.ge λk hk=>absurd hk (Nat.not_lt_zero k)
 have g3:s.ins.n<=0+c:=h.ins
 have g4:s.ex.n<=0+d:=h.ex
 exact ⟨by show s.ins.n<=_; omega,by show s.ex.n<=_; omega,g1,g2⟩
theorem Mx (l:Sq Int):CP (made l):=by
 obtain ⟨d,hd,dB⟩:=mi (l:=l) (p:=0) (n:=4) (by omega) (by omega)
 unfold made
 rw [hd]
 show CP (Ss l (1+d) (nx l 0 4).2 (Py (1+d) 0 nR) yd)
 have h1:=EX (1+d) 0 0 0 nR yd
 generalize (nx l 0 4).2=p
 unfold Ss
 have hf:=Kw (l:=l) (p:=p) (n:=4) (by omega) (by omega)
 obtain ⟨e,he,hle⟩:=mi (l:=l) (p:=(lv l (nx l p 4).2 (Py (1+d) 0 nR) 0 (1+d)).2) (n:=14) (by omega) (by omega)
 rw [he]
 generalize hF:1+(nx l p 4).1=fuel
 have h2:dE ⟨0,Py (1+d) 0 nR,yd⟩ (Wy l fuel (1+d) (nx l p 4).2 (Py (1+d) 0 nR) yd) 1 1:=
  dE.both _ _ (fy (by omega)) (sZ l _ _ _ _ (by omega))
 have h3:=(h1.trans h2).trans (Gi l fuel (1+d) (by omega) e (Wy l fuel (1+d) (nx l p 4).2 (Py (1+d) 0 nR) yd))
 show CP (vJ l fuel (1+d) (WG l fuel (1+d) e _))
 generalize WG l fuel (1+d) e (Wy l fuel (1+d) (nx l p 4).2 (Py (1+d) 0 nR) yd)=s at h3 ⊢
 unfold vJ
 cases (nx l s.p 6).1==0 with
 | true=>exact dE.ai0 (h3.trans (dE.both s 0 (fy (by omega)) (sZ l _ _ _ _ (by omega)))) (by omega) (by omega)
 | false=>
   refine dE.ai0 (h3.trans (dE.add s 0 (x:={ dZ 20 0 0 0 0 (-1) with args:=zW l s.ins (1+d) 0 (nx l s.p 6).2 (bc 0) }) ⟨by show (0:Int)<=_; omega,?_,bu _,bu _⟩)) (by omega) (by omega)
   show (zW l s.ins (1+d) 0 (nx l s.p 6).2 (bc 0)).n<=900
   rw [Pz]
   show 0+(1+d)<=900
   omega
open Go Go.V
structure Ez (m:Nat) (x:aj):Prop where
 n:x.n<=9223372036854775807
 args:x.args.n<=m
 names:x.names.n<=m
 str:x.k.s.size<=m
structure EC (m:Nat) (e:ah):Prop where
 frames:e.frames.n<=m
 vars:∀ j,j<e.frames.n->(e.frames.get j).vars.n<=m
 ax:e.ax.n<=m
 names:∀ j,j<e.ax.n->(e.ax.get j).names.n<=m
 items:∀ j,j<e.ax.n->(e.ax.get j).items.n<=m
 pos:0<e.frames.n
structure DR (m:Nat) (t:ae):Prop where
 ins:t.ins.n<=m
 aa:t.aa.n<=m
 gi:∀ k,k<t.ins.n->Ez m (t.ins.get k)
 ge:∀ k,k<t.aa.n->EC m (t.aa.get k)
theorem Ez.le {m m':Nat} {x:aj} (h:Ez m x) (hm:m<=m'):Ez m' x:=⟨h.n,cW h.args hm,cW h.names hm,cW h.str hm⟩
theorem EC.le {m m':Nat} {x:ah} (h:EC m x) (hm:m<=m'):EC m' x:=⟨cW h.frames hm,λj q=>cW (h.vars j q) hm,cW h.ax hm,λj q=>cW (h.names j q) hm,λj q=>cW (h.items j q) hm,h.pos⟩
theorem DR.le {m m':Nat} {t:ae} (h:DR m t) (hm:m<=m'):DR m' t:=⟨cW h.ins hm,cW h.aa hm,λk q=>(h.gi k q).le hm,λk q=>(h.ge k q).le hm⟩
theorem DR.small {m:Nat} {t:ae} (h:DR m t) (hm:m<=1000):bj t:=
 ⟨cW h.ins hm,cW h.aa hm,λk q=>cW (h.gi k q).args hm,λk q=>cW (h.gi k q).names hm,λk q=>cW (h.gi k q).str hm,λk q=>
  ⟨cW (h.ge k q).frames hm,λj r=>cW ((h.ge k q).vars j r) hm,cW (h.ge k q).ax hm,λj r=>cW ((h.ge k q).names j r) hm,λj r=>cW ((h.ge k q).items j r) hm⟩⟩
theorem QR (l:Sq Int):DR 900 (made l):=by
 have h:=Mx l
 exact ⟨h.ins,h.aa,λk q=>⟨(h.gi k q).n,(h.gi k q).args,(h.gi k q).names,(h.gi k q).str⟩,λk q=>⟨(h.ge k q).frames,(h.ge k q).vars,(h.ge k q).ax,(h.ge k q).names,(h.ge k q).items,(h.ge k q).pos⟩⟩
theorem DR.num {m:Nat} {t:ae} (h:DR m t):∀ k,k<t.ins.n->(t.ins.get k).n<=9223372036854775807:=λk q=>(h.gi k q).n
theorem Pb {m:Nat} {t:ae} (h:DR m t) {k:Nat} {x:aj} (hx:k<t.ins.n->Ez (m+1) x):DR (m+1) (fw t k x):=by
 have h':=h.le (Nat.le_succ m)
 refine ⟨h'.ins,h'.aa,λi q=>?_,h'.ge⟩
 show Ez (m+1) (bif Nat.beq i k then x else t.ins.get i)
 cases hb:Nat.beq i k with
 | false=>exact h'.gi i q
 | true=>exact hx (by rw [<- Nat.eq_of_beq_eq_true hb]; exact q)
theorem Q8 {m:Nat} {t:ae} (h:DR m t) {k:Nat} {x:ah} (hx:k<t.aa.n->EC (m+1) x):DR (m+1) (rX t k x):=by
 have h':=h.le (Nat.le_succ m)
 refine ⟨h'.ins,h'.aa,h'.gi,λi q=>?_⟩
 show EC (m+1) (bif Nat.beq i k then x else t.aa.get i)
 cases hb:Nat.beq i k with
 | false=>exact h'.ge i q
 | true=>exact hx (by rw [<- Nat.eq_of_beq_eq_true hb]; exact q)
theorem QQ {m:Nat} {t:ae} (h:DR m t) (hm:2<=m) (hm2:m<=1000) (hn:0<t.ins.n) (q0 q1 q2:Int) (hq:q2<=9223372036854775807):DR (m+1) (bO t q0 q1 q2):=by
 have h':=h.le (Nat.le_succ m)
 have G:∀ {b:Bool} {x y:ae},DR (m+1) x->DR (m+1) y->DR (m+1) (bif b then x else y):=λ{b x y} h1 h2=>by cases b<;>assumption
 have I:∀ {k:Nat} {f:aj->aj},(∀ x,Ez m x->Ez (m+1) (f x))->DR (m+1) (fw t k (f (t.ins.get k))):=λhf=>Pb h λhk=>hf _ (h.gi _ hk)
 have E:∀ {k:Nat} {f:ah->ah},(∀ x,EC m x->EC (m+1) (f x))->DR (m+1) (SA t (rX t k (f (t.aa.get k)))):=λhf=>G (Q8 h λhk=>hf _ (h.ge _ hk)) h'
 unfold bO
 refine G ?_ (G ?_ (G ?_ (G ?_ (G ?_ (G ?_ (G ?_ (G ?_ (G ?_ (G ?_ (G ?_ (G ?_ (G ?_ (G ?_ h')))))))))))))
 .exact I (f:=λx=>{ x with op:=dY q2 23 }) λx hx=>let hx:=hx.le (Nat.le_succ m); ⟨hx.n,hx.args,hx.names,hx.str⟩
 .exact I (f:=λx=>{ x with a:=q2 }) λx hx=>let hx:=hx.le (Nat.le_succ m); ⟨hx.n,hx.args,hx.names,hx.str⟩
 .exact I (f:=λx=>{ x with b:=q2 }) λx hx=>let hx:=hx.le (Nat.le_succ m); ⟨hx.n,hx.args,hx.names,hx.str⟩
 .exact I (f:=λx=>{ x with n:=q2 }) λx hx=>let hx:=hx.le (Nat.le_succ m); ⟨hq,hx.args,hx.names,hx.str⟩
 .exact I (f:=λx=>{ x with exit:=IntKind.i64.wrap (dY q2 (IntKind.i64.wrap ((t.aa.n:Int)+2))-1) }) λx hx=>let hx:=hx.le (Nat.le_succ m); ⟨hx.n,hx.args,hx.names,hx.str⟩
 .exact I (f:=λx=>{ x with once := !x.once }) λx hx=>let hx:=hx.le (Nat.le_succ m); ⟨hx.n,hx.args,hx.names,hx.str⟩
 .exact I (f:=λx=>{ x with args:=mj x.args q2 }) λx hx=>⟨hx.n,Nat.succ_le_succ hx.args,Nat.le_succ_of_le hx.names,Nat.le_succ_of_le hx.str⟩
 .exact I (f:=λx=>{ x with names:=mj x.names (xzN (dY q2 3).toNat) }) λx hx=>⟨hx.n,Nat.le_succ_of_le hx.args,Nat.succ_le_succ hx.names,Nat.le_succ_of_le hx.str⟩
 .exact I (f:=λx=>{ x with k:=⟨dY q2 8,dY q2 3,⟨⟨[]⟩⟩⟩ }) λx hx=>let hx:=hx.le (Nat.le_succ m); ⟨hx.n,hx.args,hx.names,bu _⟩
 .exact E (f:=λx=>{ x with back:=q2 }) λx hx=>let hx:=hx.le (Nat.le_succ m); ⟨hx.frames,hx.vars,hx.ax,hx.names,hx.items,hx.pos⟩
 .refine E (f:=λx=>{ x with frames:=U9 x.frames 0 { x.frames.get 0 with vars:=mj (x.frames.get 0).vars q2 } }) λx hx=>⟨Nat.le_succ_of_le hx.frames,λj hj=>?_,Nat.le_succ_of_le hx.ax,λj hj=>Nat.le_succ_of_le (hx.names j hj),λj hj=>Nat.le_succ_of_le (hx.items j hj),hx.pos⟩
  show (bif Nat.beq j 0 then ({ x.frames.get 0 with vars:=mj (x.frames.get 0).vars q2 }:cK) else x.frames.get j).vars.n<=m+1
  cases Nat.beq j 0 with
  | true=>exact Nat.succ_le_succ (hx.vars 0 hx.pos)
  | false=>exact Nat.le_succ_of_le (hx.vars j hj)
 .refine E (f:=λx=>{ x with ax:=mj x.ax ⟨q2,0,zN,yf⟩ }) λx hx=>⟨Nat.le_succ_of_le hx.frames,λj hj=>Nat.le_succ_of_le (hx.vars j hj),Nat.succ_le_succ hx.ax,λj hj=>?_,λj hj=>?_,hx.pos⟩
  .show (bif Nat.blt j x.ax.n then x.ax.get j else (⟨q2,0,zN,yf⟩:cG)).names.n<=m+1
   cases hb:Nat.blt j x.ax.n with
   | true=>exact Nat.le_succ_of_le (hx.names j (by simpa [kD] using hb))
   | false=>show 2<=m+1; omega
  .show (bif Nat.blt j x.ax.n then x.ax.get j else (⟨q2,0,zN,yf⟩:cG)).items.n<=m+1
   cases hb:Nat.blt j x.ax.n with
   | true=>exact Nat.le_succ_of_le (hx.items j (by simpa [kD] using hb))
   | false=>show 2<=m+1; omega
 .have dB:=(nZ q2 t.ins.n hn (by have:=h.ins; omega)).2.2
  have hI:=h'.ins
  refine ⟨?_,h'.aa,λk hk=>?_,h'.ge⟩
  .show (dY q2 (Int.ofNat t.ins.n)).toNat<=m+1
   omega
  .have hk:k<(dY q2 (Int.ofNat t.ins.n)).toNat:=hk
   exact h'.gi k (by omega)
 .exact ⟨h'.ins,h'.aa,h'.gi,h'.ge⟩
theorem QX (l:Sq Int):0<(made l).ins.n:=by
 unfold made Ss
 generalize WG l _ _ _ _=s
 unfold vJ
 cases (nx l s.p 6).1==0 with
 | true=>exact Nat.zero_lt_succ _
 | false=>exact Nat.zero_lt_succ _
end
end Go.Proofs.Ytgbbdaegmfjahaa
