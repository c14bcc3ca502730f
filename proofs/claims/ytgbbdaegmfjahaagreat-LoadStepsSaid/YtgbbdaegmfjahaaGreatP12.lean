/- Loops: what is to be shown. -/
import Derived.Test.YtgbbdaegmfjahaaGreatP10
import Derived.Test.YtgbbdaegmfjahaaGreatP11
set_option linter.unusedVariables false
set_option linter.unusedSimpArgs false
set_option maxRecDepth 1000000
namespace Go.Proofs.YtgbbdaegmfjahaaGreat
open Go Go.V
noncomputable section
section
def X24 (m u2:ak) (e:Int):eU:={ F:=ext pY [(11,λ_ _=>(aO m,[],[])),(44,λ_ _=>(.t [(true,lift (aT u2)),(false,[ci e])],[],[]))] }
def XL8 (p b:ak) (s1 s2:Sq fK):eU:={ F:=ext pY [(23,λ_ _=>(bool true,[],[])),(24,λ_ _=>(aO p,[],[])),(17,λ_ _=>(aO b,[],[])),(26,λds _=>(fM 6 Ck (iy (dO ds 0)),[],[])),(27,λds _=>(fM 6 Ck (iy (dO ds 0)),[],[])),(25,λ_ _=>(bool true,[],[]))] }
end
def Ud:Nat->Bool:=λi=>Nat.beq i 3
theorem bB3:Fn 24:={}
abbrev zW:eQ:=(4,((.c (.rt 0 0 0)),[]))
abbrev zP:eQ:=(5,((.c (.rt 1 0 0)),[]))
section
variable (L:LP) (t:ak) (QD:D->Prop) (l:Sq Int) (n:Int) (k:Nat) (m u u2:ak) (e:Int)
theorem bo8 (h:(LC 11 [(j7 l)] [] (ez m) []/\L (af 24 3) ⟨[(dC n),zW,zP,yV],[ch,(aU m)],[]⟩)):ep (X24 m u2 e) 24 Ud L (bf QD) [fM 1 bn l,int n] []:=km h
def qU (l:Sq Int) (n:Int) (m u2:ak) (e:Int) (u:ak) (k:Nat):VS:=⟨[(1,int n,[]),(4,.c (.rt 0 0 0),[]),(5,.c (.rt 1 0 0),[]),(6,int k,[])],[.box [ci 0,ci 0,kY,kY],.box (lift (aT u))],[]⟩
theorem U8 (u:ak) (k:Nat) (h:br (decide ((↑k:Int)<3)) (nd (!IntKind.i64.wrap (IntKind.i64.wrap ((↑k:Int)*7)+1)==0) ((LC 47 [(int (IntKind.i64.wrap (n.tdiv (IntKind.i64.wrap (IntKind.i64.wrap ((↑k:Int)*7)+1))))),(gY u)] [] (int (ed (aI [D.c (C.im (I.v (Value.int IntKind.i64 (IntKind.i64.wrap (n.tdiv (IntKind.i64.wrap (IntKind.i64.wrap ((↑k:Int)*7)+1))))))),D.c (C.im (I.v (Value.int IntKind.i64 (↑u.2.1:Int))))] 0) (Int.ofNat u.2.1))) []/\nd (!IntKind.i64.wrap (IntKind.i64.wrap ((↑k:Int)*7)+1)==0) ((LC 47 [(int (IntKind.i64.wrap (n.tdiv (IntKind.i64.wrap (IntKind.i64.wrap ((↑k:Int)*7)+1))))),(gY u)] [] (int (ed (aI [D.c (C.im (I.v (Value.int IntKind.i64 (IntKind.i64.wrap (n.tdiv (IntKind.i64.wrap (IntKind.i64.wrap ((↑k:Int)*7)+1))))))),D.c (C.im (I.v (Value.int IntKind.i64 (↑u.2.1:Int))))] 0) (Int.ofNat u.2.1))) []/\(LC 47 [(int n),(int 3)] [] (int (ed n 3)) []/\br (ed n 3==0) ((LC 44 [(ez u),(.a [(ci 5),(ci (ed (aI [D.c (C.im (I.v (Value.int IntKind.i64 (IntKind.i64.wrap (n.tdiv (IntKind.i64.wrap (IntKind.i64.wrap ((↑k:Int)*7)+1))))))),D.c (C.im (I.v (Value.int IntKind.i64 (↑u.2.1:Int))))] 0) (Int.ofNat u.2.1))),(ci 0),(ci 0),(ci 0),dH])] [] (AK u2 e) []/\br (e==0) (nd (bQ (ed (aI [D.c (C.im (I.v (Value.int IntKind.i64 (IntKind.i64.wrap (n.tdiv (IntKind.i64.wrap (IntKind.i64.wrap ((↑k:Int)*7)+1))))))),D.c (C.im (I.v (Value.int IntKind.i64 (↑u.2.1:Int))))] 0) (Int.ofNat u.2.1)) u2.2.1) (br ((u2.2.2 (ed (aI [D.c (C.im (I.v (Value.int IntKind.i64 (IntKind.i64.wrap (n.tdiv (IntKind.i64.wrap (IntKind.i64.wrap ((↑k:Int)*7)+1))))))),D.c (C.im (I.v (Value.int IntKind.i64 (↑u.2.1:Int))))] 0) (Int.ofNat u.2.1)).toNat).1==2) (L (af 24 3) ⟨[(dC n),zW,zP,(6,((int (IntKind.i64.wrap ((↑k:Int)+1))),[]))],[ch,(aU u2),.dead,(.box [(ci 5),(ci (ed (aI [D.c (C.im (I.v (Value.int IntKind.i64 (IntKind.i64.wrap (n.tdiv (IntKind.i64.wrap (IntKind.i64.wrap ((↑k:Int)*7)+1))))))),D.c (C.im (I.v (Value.int IntKind.i64 (↑u.2.1:Int))))] 0) (Int.ofNat u.2.1))),(ci 0),(ci 0),(ci 0),dH]),(aU u2)],[]⟩) (L (af 24 3) ⟨[(dC n),zW,zP,(6,((int (IntKind.i64.wrap ((↑k:Int)+1))),[]))],[ch,(aU u),.dead,(.box [(ci 5),(ci (ed (aI [D.c (C.im (I.v (Value.int IntKind.i64 (IntKind.i64.wrap (n.tdiv (IntKind.i64.wrap (IntKind.i64.wrap ((↑k:Int)*7)+1))))))),D.c (C.im (I.v (Value.int IntKind.i64 (↑u.2.1:Int))))] 0) (Int.ofNat u.2.1))),(ci 0),(ci 0),(ci 0),dH]),(aU u2)],[]⟩))) (L (af 24 3) ⟨[(dC n),zW,zP,(6,((int (IntKind.i64.wrap ((↑k:Int)+1))),[]))],[ch,(aU u),.dead,(.box [(ci 5),(ci (ed (aI [D.c (C.im (I.v (Value.int IntKind.i64 (IntKind.i64.wrap (n.tdiv (IntKind.i64.wrap (IntKind.i64.wrap ((↑k:Int)*7)+1))))))),D.c (C.im (I.v (Value.int IntKind.i64 (↑u.2.1:Int))))] 0) (Int.ofNat u.2.1))),(ci 0),(ci 0),(ci 0),dH]),(aU u2)],[]⟩))) (L (af 24 3) ⟨[(dC n),zW,zP,(6,((int (IntKind.i64.wrap ((↑k:Int)+1))),[]))],[ch,(aU u),.dead,(.box [(ci 5),(ci (ed (aI [D.c (C.im (I.v (Value.int IntKind.i64 (IntKind.i64.wrap (n.tdiv (IntKind.i64.wrap (IntKind.i64.wrap ((↑k:Int)*7)+1))))))),D.c (C.im (I.v (Value.int IntKind.i64 (↑u.2.1:Int))))] 0) (Int.ofNat u.2.1))),(ci 0),(ci 0),(ci 0),dH])],[]⟩))))))) (QD (ez u))):b5 (X24 m u2 e) 24 Ud L (bf QD) 3 (qU l n m u2 e u k):=km h
theorem ar4 (kd:Int) (k:Nat) (j:Int) (v:jd) (hS:aM t) (h0:(dS t != 0)=true):LC 44 [aO t,va kd k j v] [] (.t [(true,[ci 0,ci 0,kY,kY]),(false,[ci 31])]) []:=by
 refine pv (X:=Gu .dead .dead false) (stop:=rY) ba0 (aZ3 _ _ t kd k j v ⟨MV t hS,ag (λ_=>aX.refl _) (λh=>?_)⟩)
 grind
def rC:ak×Int:=bif dS t != 0 then (rL,31) else bif Ns (t.ins.get k).op && !(t.ins.get k).once then (bif dS (xo t k)!=0 then (rL,1) else (xo t k,0)) else (rL,1)
theorem aG6 (hk:k<t.ins.n) (hS:aM t) (hu:aM (xo t k)):LC 44 [aO t,va 5 k 0 dk] [] (.t [(true,lift (aT (rC t k).1)),(false,[ci (rC t k).2])]) []:=by
 have z:∀ e:Int,aX (.t [(true,[ci 0,ci 0,kY,kY]),(false,[ci e])]) (.t [(true,lift (aT rL)),(false,[ci e])]):=λe=>H4 (.cons (dI.refl _) (.cons (dI.refl _) (.cons (dI.im ia) (.cons (dI.im ia) .nil))))
 cases h0:dS t != 0 with
 | true=>
   grind [rC,bt.post,ar4]
 | false=>
   have h:=aD4 t k hk hS (by simpa using h0) hu
   unfold xg at h
   cases h1:Ns (t.ins.get k).op && !(t.ins.get k).once with
   | false=>
     rw [show rC t k=(rL,1) from by unfold rC; rw [h0,h1]; rfl]
     rw [h1] at h
     exact bt.post h (z 1)
   | true=>
     rw [h1] at h
     unfold NX at h
     cases h2:dS (xo t k)!=0 with
     | true=>
       rw [show rC t k=(rL,1) from by unfold rC; rw [h0,h1,h2]; rfl]
       rw [h2] at h
       exact bt.post h (z 1)
     | false=>
       grind [rC]
theorem Wd {t:ak} {k:Nat} (h:((rC t k).2==0)=true):(rC t k).1=xo t k:=by
 grind [rC]
def GV (k:Nat):Int:=ed (IntKind.i64.wrap (n.tdiv (IntKind.i64.wrap (IntKind.i64.wrap ((k:Int)*7)+1)))) (Int.ofNat u.ins.n)
def nQ:ak:=bif ed n 3==0 then (bif (rC u (GV n u k).toNat).2==0 then (bif ((rC u (GV n u k).toNat).1.ins.get (GV n u k).toNat).op==2 then (rC u (GV n u k).toNat).1 else u) else u) else u
def itO (n:Int):Nat->Nat->ak->ak
 | 0,_,u=>u
 | m+1,k,u=>itO n m (k+1) (nQ n k u)
def Ng:ak:=itO n 3 0 (made l)
theorem GC {m:Nat} {t:ak} (h:BG m t) (k:Nat) (hk:k<t.ins.n):BG m (xo t k):=by
 refine ⟨h.ins,h.aa,λi hi=>?_,h.ge⟩
 show DQ m (bif Nat.beq i k then _ else _)
 have h1:=h.gi k hk
 cases Nat.beq i k with
 | true=>exact ⟨h1.n,h1.args,h1.names,h1.str⟩
 | false=>exact h.gi i hi
theorem TU {u:ak} (h0:0<u.ins.n) (h1:u.ins.n<=1000):bQ (GV n u k) u.ins.n=true/\∃ p:Nat,GV n u k=p/\p<u.ins.n:=by
 grind [kR,GV]
end
structure l0 (u:ak):Prop where
 b:BG 900 u
 pos:0<u.ins.n
theorem l0.step {u:ak} (h:l0 u) (n:Int) (k:Nat):l0 (nQ n k u):=by
 unfold nQ
 have hN:=h.b.ins
 obtain ⟨_,p,hp,hk⟩:=TU n k h.pos (by omega)
 cases ed n 3==0 with
 | false=>exact h
 | true=>
   cases h1:(rC u (GV n u k).toNat).2==0 with
   | false=>exact h
   | true=>
     have e:=Wd h1
     cases ((rC u (GV n u k).toNat).1.ins.get (GV n u k).toNat).op==2 with
     | false=>exact h
     | true=>
       show l0 (rC u (GV n u k).toNat).1
       rw [e,hp]
       exact ⟨GC h.b p hk,h.pos⟩
theorem l0.it (n:Int):∀ (m k:Nat) {u:ak},l0 u->l0 (itO n m k u)
 | 0,_,_,h=>h
 | m+1,k,_,h=>l0.it n m (k+1) (h.step n k)
theorem seven {k:Nat} (hk:k<3):(!IntKind.i64.wrap (IntKind.i64.wrap ((k:Int)*7)+1)==0)=true:=by
 match k,hk with
 | 0,_=>rfl
 | 1,_=>rfl
 | 2,_=>rfl
 | k+3,h=>exact absurd h (by omega)
theorem IQ (t:ak) (hS:aM t) (hn:∀ k,k<t.ins.n->(t.ins.get k).n<=9223372036854775807):(iy t).n<=maxLen:=by
 have hN:=hS.ins
 unfold iy
 cases h:cp t != 0 with
 | true=>exact bk _
 | false=>
   have hI:Inv t.ins.n t:=⟨hS,by simpa using h,hn,rfl⟩
   have h1:=uB t true t.ins.n 0 t.ins.n (t,aH gT) (by omega) hI
   have h2:=uB t false t.ins.n 0 t.ins.n _ (by omega) h1.1
   grind [aH,maxLen]
section
variable (l:Sq Int) (n:Int)
theorem aA1 (m:ak) (d:D):∀ k,k<=3->∀ u:ak,l0 u->d=aO (itO n (3-k) k u)->ae 24 0 (a7 d) (af 24 3) (qU l n m rL 1 u k):=by
 refine aN (λk hk ih=>?_) ?_
 .intro u hu hd
  have hN:=hu.b.ins
  have hW:=b6 hk (by decide:3<=maxLen)
  obtain ⟨hb,p,hp,hpk⟩:=TU n k hu.pos (by omega)
  have hp3:(GV n u k).toNat=p:=by rw [hp]; rfl
  have ih:ae 24 0 (a7 d) (af 24 3) (qU l n m rL 1 (nQ n k u) (k+1)):=ih (nQ n k u) (hu.step n k) (by
   rw [hd,show 3-k=(3-(k+1))+1 by omega]; rfl)
  have c1:LC 47 [int (IntKind.i64.wrap (n.tdiv (IntKind.i64.wrap (IntKind.i64.wrap ((k:Int)*7)+1)))),int u.ins.n] [] (int (GV n u k)) []:=jB _ _ (by have:=hu.pos; omega)
  have c2:LC 47 [int n,int 3] [] (int (ed n 3)) []:=jB _ _ (by decide)
  have c3:LC 44 [aO u,va 5 (GV n u k) 0 dk] [] (.t [(true,lift (aT (rC u p).1)),(false,[ci (rC u p).2])]) []:=by rw [hp]; exact aG6 u p hpk (hu.b.small (by omega)) ((GC hu.b p hpk).small (by omega))
  have nd3:((rC u p).2==0)=true->bQ (GV n u k) (rC u p).1.ins.n=true:=λh=>by rw [Wd h]; exact hb
  refine aK (X:=X24 m (rC u p).1 (rC u p).2) (stop:=Ud) (U8 _ _ l n m (rC u p).1 (rC u p).2 u k ?_)
  refine ag (λh0=>?_) (λh=>absurd (of_decide_eq_false h) (by omega))
  refine ai (by first|exact seven hk|exact nd3 (by assumption)) ?_
  refine ⟨c1,?_⟩
  refine ai (by first|exact seven hk|exact nd3 (by assumption)) ?_
  refine ⟨c1,?_⟩
  refine ⟨c2,?_⟩
  refine ag (λh1=>?_) (λh1=>?_)
  .refine ⟨c3,?_⟩
   refine ag (λh2=>?_) (λh2=>?_)
   .refine ai (by first|exact seven hk|exact nd3 (by assumption)) ?_
    refine ag (λh3=>?_) (λh3=>?_)
    .have g1:(ed n 3==0)=true:=h1
     have g2:((rC u p).2==0)=true:=h2
     have g3:(((rC u p).1.ins.get p).op==2)=true:=by have h:(((rC u p).1.ins.get (GV n u k).toNat).op==2)=true:=h3; rw [hp3] at h; exact h
     have e:nQ n k u=(rC u p).1:=by unfold nQ; grind
     rw [hW]
     exact ae.rename [0,1] rfl (ae.lr (qU l n m rL 1 (rC u p).1 (k+1)) (e▸ih))
    .have g1:(ed n 3==0)=true:=h1
     have g2:((rC u p).2==0)=true:=h2
     have g3:(((rC u p).1.ins.get p).op==2)=false:=by have h:(((rC u p).1.ins.get (GV n u k).toNat).op==2)=false:=h3; rw [hp3] at h; exact h
     have e:nQ n k u=u:=by unfold nQ; grind
     rw [hW]
     exact ae.rename [0,1] rfl (ae.lr (qU l n m rL 1 u (k+1)) (e▸ih))
   .have g1:(ed n 3==0)=true:=h1
    have g2:((rC u p).2==0)=false:=h2
    have e:nQ n k u=u:=by unfold nQ; grind
    rw [hW]
    exact ae.rename [0,1] rfl (ae.lr (qU l n m rL 1 u (k+1)) (e▸ih))
  .have g1:(ed n 3==0)=false:=h1
   have e:nQ n k u=u:=by unfold nQ; grind
   rw [hW]
   exact ae.rename [0,1] rfl (ae.lr (qU l n m rL 1 u (k+1)) (e▸ih))
 .intro u hu hd
  refine aK (X:=X24 m rL 1) (stop:=Ud) (U8 _ _ l n m rL 1 u 3 ?_)
  refine ag (λh=>absurd h (by decide)) (λh=>?_)
  rw [hd]
  exact aX.refl _
theorem ZD:l0 (Ng l n):=l0.it n 3 0 ⟨HJ l,GQ l⟩
theorem be1 (hl:l.n<=maxLen):LC 24 [fM 1 bn l,int n] [] (aO (Ng l n)) []:=by
 refine pv (X:=X24 (made l) rL 1) (stop:=Ud) bB3 (bo8 _ _ l n (made l) rL 1 ⟨bi7 l hl,?_⟩)
 exact ae.lr (qU l n (made l) rL 1 (made l) 0) (aA1 l n (made l) _ 0 (bk _) (made l) ⟨HJ l,GQ l⟩ rfl)
def sp8:Nat->Bool:=bH
theorem fn8:Fn 8:={}
abbrev qS (aj:ak):D:=.c (.im (.sl 6 ((iy aj).1) (λi=>Ck ((iy aj).2 i))))
theorem vc8 (L:LP) (QD:D->Prop) (l:Sq Int) (n:Int) (p b:ak) (s1 s2:Sq fK) (h:(LC 23 [] [] (bool true) []/\(LC 24 [(j7 l),(int n)] [] (ez p) []/\(LC 17 [(ez p),(.a [(ci n),(ci (IntKind.i64.wrap (n.tdiv 14))),(ci (IntKind.i64.wrap (n.tdiv 99)))])] [] (ez b) []/\(LC 26 [(ez p)] [] (qS p) []/\(LC 27 [(ez p)] [] (qS p) []/\(LC 25 [(qS p),(qS p)] [] (bool true) []/\(LC 26 [(ez b)] [] (qS b) []/\(LC 27 [(ez b)] [] (qS b) []/\(LC 25 [(qS b),(qS b)] [] (bool true) []/\QD (bool true))))))))))):ep (XL8 p b s1 s2) 8 sp8 L (bf QD) [fM 1 bn l,int n] []:=km h
theorem bf7 (hl:l.n<=maxLen):LC 8 [fM 1 bn l,int n] [] (bool true) []:=by
 have hp:=ZD l n
 have b1:=SE hp.b (by omega) (by omega) hp.pos n (IntKind.i64.wrap (n.tdiv 14)) (IntKind.i64.wrap (n.tdiv 99)) (yj _)
 have S0:=hp.b.small (by omega)
 have S1:=b1.small (by omega)
 refine rP (X:=XL8 (Ng l n) (b8 (Ng l n) n (IntKind.i64.wrap (n.tdiv 14)) (IntKind.i64.wrap (n.tdiv 99))) (aH gT) (aH gT)) (stop:=sp8) fn8 (aQ (by kernel_rfl)) (vc8 _ _ l n _ _ _ _ ⟨bg8,be1 l n hl,aY0 _ n _ _ S0 hp.pos (λe he=>(hp.b.ge e he).pos),al1 _ S0 hp.b.num,ap1 _ S0 hp.b.num,ai4 _ (IQ _ S0 hp.b.num),al1 _ S1 b1.num,ap1 _ S1 b1.num,ai4 _ (IQ _ S1 b1.num),aX.refl _⟩)
end
end
end Go.Proofs.YtgbbdaegmfjahaaGreat
