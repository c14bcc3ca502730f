/- Loops: what is to be shown. -/
import Derived.Test.YtapefhcmohbmaaaP8
set_option linter.unusedVariables false
set_option linter.unusedSimpArgs false
set_option maxRecDepth 1000000
namespace Go.Proofs.Ytapefhcmohbmaaa
open Go Go.V
noncomputable section
section
def jy (kd zr yD:Int) (v:iG):ae:=.box [ci kd,ci zr,ci yD,ci v.kind,ci v.n,.im (iS v.s)]
def lD (b:Bool):ae:=.box [.im (iB b)]
def F99:FuncId->List D->List ae->Out:=ext F65 [(31,λds rs=>(.c (.fh 54 [rs.length+1,rs.length]),[],[.box (lift (aJ (ff ds 0))),.box [.im (iI (aI ds 1))]]))]
def Yz (p:Bool) (kd zr yD:Int) (b:Bool):gr:={ F:=F99,S:=[1,2,8],B:=λ_ _ _=>p,R1:=λ_ _ _=>(.t [],[],[]),R2:=λ_ ds rs=>(.t [],[(1,jy kd zr yD dS),(2,lD b),(8,ED false (aR rs 8))],[]) }
def jj (t:af) (k j:Nat):Int×Int×Int×Bool:=bif cp t j k==2 then (bif iK (t.ins.get j).op then (2,(k:Int),(j:Int),true) else bif (t.ins.get j).op==11 then (2,(k:Int),(t.ins.get j).b,true) else (2,(k:Int),(t.ins.get j).c,true)) else (0,0,0,false)
def fT (t:af) (k j:Nat):Bool:=(iK (t.ins.get j).op||dE (t.ins.get j).op)&&(cp t j k==2||(cp t j k==1&&dE (t.ins.get j).op))
def tN (t:af) (k:Nat) (j:Int):Bool:=fT t k j.toNat
def uQ (t:af) (k:Nat) (j:Int):ae:=bif fT t k j.toNat then jy (jj t k j.toNat).1 (jj t k j.toNat).2.1 (jj t k j.toNat).2.2.1 dS else jy 0 0 0 dS
def uK (t:af) (k:Nat) (j:Int):ae:=bif fT t k j.toNat then lD (jj t k j.toNat).2.2.2 else lD false
def sR (t:af) (k:Nat):Bool:=bif (t.ins.get k).op==10 then bif (t.ins.get (t.ins.get k).a.toNat).op==16 then decide ((t.ins.get k).n<((t.ins.get (t.ins.get k).a.toNat).names.n:Int)) else false else false
def Gy (t:af) (k:Nat):D:=match nh t (tN t k) k with
 | some j=>jk (jj t k j).1 (jj t k j).2.1 (jj t k j).2.2.1 dS (jj t k j).2.2.2
 | none=>jk 1 k 0 BT (sR t k)
def Fx:aL:=[(2,.c (.rt 0 0 0),[]),(3,.c (.rt 3 0 0),[]),(4,.c (.rt 1 0 0),[]),(5,.c (.rt 2 0 0),[]),(6,.c (.rt 4 0 0),[]),(18,.c (.fh 54 [6,5]),[])]
end
def Ky:Nat->Bool:=λi=>Nat.beq i 2
theorem ah6:Fn 29:={}
theorem Z4 (L:LP) (QD:D->Prop) (p:Bool) (kd j3 ie:Int) (b:Bool) (t:af) (k:Nat) (h:nd (dm (↑k:Int) t.2.1) (L (ah 29 2) ⟨[dw,(3,((.c (.rt 1 0 0)),[])),(4,((.c (.rt 2 0 0)),[])),(5,((.c (.rt 3 0 0)),[])),Ge],[(bE t),(nT k),mc,(.box [dn]),(ju t k)],[]⟩)):fG (Yz p kd j3 ie b) 29 Ky L (cy QD) [bH t,int k] []:=km h
def FR (p:Bool) (kd j3 ie:Int) (b:Bool) (t:af) (k:Nat)  : VS:=⟨[iO,(3,.c (.rt 3 0 0),[]),(4,.c (.rt 1 0 0),[]),(5,.c (.rt 2 0 0),[]),(6,.c (.rt 4 0 0),[])],[.box (lift (aJ t)),jy 0 0 0 dS,lD false,.box [.im (iI k)],.box (lift (b8 (t.ins.get k)))],[]⟩
abbrev tp (aj:af) (aA:Nat):List D:=[(iv aj),(int (↑aA:Int))]
abbrev mC (aj:Nat):ae:=.box [(ci (Int.ofNat aj))]
abbrev tB:List D:=[(.c (.yl 8)),(.c (.rt 6 0 0)),(.c (.rt 5 0 0))]
abbrev Nx (aj:af) (aA:Nat):List ae:=[(bE aj),mc,(.box [dn]),(nT aA),(ju aj aA),(bE aj),(mC aA),.kF,(.loop 29 104 [(2,((.c (.rt 0 0 0)),[])),(3,((.c (.rt 3 0 0)),[])),(4,((.c (.rt 1 0 0)),[])),(5,((.c (.rt 2 0 0)),[])),(6,((.c (.rt 4 0 0)),[])),(18,((.c (.fh 54 [6,5])),[]))] [19,20] (pw 29) (pg 29) .ready none)]
abbrev Mq (aj:Nat):D:=.t [(.true,[(ci 1),(ci (↑aj:Int)),(ci 0),(ci 1),(ci 0),(.im (.v (.string ⟨⟨[]⟩⟩)))]),(.false,[(.im (.v (.bool false)))])]
theorem Ny (L:LP) (QD:D->Prop) (p:Bool) (kd j3 ie:Int) (b:Bool) (t:af) (k:Nat)  (h:(LC 31 (tp t k) [(bE t),mc,(.box [dn]),(nT k),(ju t k)] (.c (.fh 54 [6,5])) [(bE t),mc,(.box [dn]),(nT k),(ju t k),(bE t),(mC k)]/\br (p) ((LC 54 tB (Nx t k) (.t []) (Nx t k)/\br ((t.2.2 k).1==10) (nd (dm (t.2.2 k).2 t.2.1) (br ((t.2.2 (t.2.2 k).2.toNat).1==16) (nd (dm (t.2.2 k).2 t.2.1) (QD (.t [(.true,[(ci 1),(ci (↑k:Int)),(ci 0),(ci 1),(ci 0),(.im (.v (.string ⟨⟨[]⟩⟩)))]),(.false,[(.im (.v (.bool (decide ((t.2.2 k).5<(↑(t.2.2 (t.2.2 k).2.toNat).8.1:Int))))))])]))) (QD (Mq k)))) (QD (Mq k)))) ((LC 54 tB (Nx t k) (.t []) [(bE t),(.box [(ci kd),(ci j3),(ci ie),(ci 0),(ci 0),eR]),(.box [(.im (.v (.bool b)))]),(nT k),(ju t k),(bE t),(mC k),.kF,(.loop 29 104 [(2,((.c (.rt 0 0 0)),[])),(3,((.c (.rt 3 0 0)),[])),(4,((.c (.rt 1 0 0)),[])),(5,((.c (.rt 2 0 0)),[])),(6,((.c (.rt 4 0 0)),[])),(18,((.c (.fh 54 [6,5])),[]))] [19,20] (pw 29) (pg 29) .done (some .ret))]/\QD (.t [(.true,[(ci kd),(ci j3),(ci ie),(ci 0),(ci 0),(.im (.v (.string ⟨⟨[]⟩⟩)))]),(.false,[(.im (.v (.bool b)))])]))))):cW (Yz p kd j3 ie b) 29 Ky L (cy QD) 2 (FR p kd j3 ie b t k ):=km h
theorem mP {t:af} {cE:Int->Bool} {j:Nat}:∀ {k:Nat},nh t cE k=some j->cE (Int.ofNat j)=true
 | 0,h=>by cases h
 | k+1,h=>by
   unfold nh at h
   cases h0 : !(t.ins.get k).once with
   | false=>rw [h0] at h; exact mP h
   | true=>
     cases h1:cE (Int.ofNat k) with
     | false=>rw [h0,h1] at h; exact mP h
     | true=>
       grind
abbrev Nr (aj:D->List ae->Prop) (aA:af) (aB:Nat) (aT bp:ae) (bP:Nat):Prop:=aj (bool true) [(.box (lift (aJ (aA)))),(.box [(ci 0),(ci 0),(ci 0),(ci 0),(ci 0),(.im (.v (.string ⟨⟨[]⟩⟩)))]),(.box [(.im (.v (.bool false)))]),(.box [(ci (↑aB:Int))]),(.box (lift (b8 (aA.2.2 aB)))),(.box (lift (aJ (aA)))),(.box [(ci (↑aB:Int))]),aT,(.loop 29 104 [(2,((.c (.rt 0 0 0)),[])),(3,((.c (.rt 3 0 0)),[])),(4,((.c (.rt 1 0 0)),[])),(5,((.c (.rt 2 0 0)),[])),(6,((.c (.rt 4 0 0)),[])),(18,((.c (.fh 54 [6,5])),[]))] [19,20] (pw 29) (pg 29) .ready none),bp,(.box (lift (b8 (aA.2.2 bP))))]
abbrev ai7 (aj:af) (aA aB:Nat) (aT:D->List ae->Prop) (bp bP:ae):Prop:=br (cp aj aA aB==2) (aT (bool false) [(.box (lift (aJ (aj)))),(.box [(ci 2),(ci (↑aB:Int)),(ci ((aj.2.2 aA).4)),(ci 0),(ci 0),(.im (.v (.string ⟨⟨[]⟩⟩)))]),(.box [(.im (.v (.bool true)))]),(.box [(ci (↑aB:Int))]),(.box (lift (b8 (aj.2.2 aB)))),(.box (lift (aJ (aj)))),(.box [(ci (↑aB:Int))]),bp,(.loop 29 104 [(2,((.c (.rt 0 0 0)),[])),(3,((.c (.rt 3 0 0)),[])),(4,((.c (.rt 1 0 0)),[])),(5,((.c (.rt 2 0 0)),[])),(6,((.c (.rt 4 0 0)),[])),(18,((.c (.fh 54 [6,5])),[]))] [19,20] (pw 29) (pg 29) .done (some .ret)),bP,(.box (lift (b8 (aj.2.2 aA))))]) (br (cp aj aA aB==1) ((LC 33 [(iF aj aA)] [] (bool (dE (aj.2.2 aA).1)) []/\br (dE (aj.2.2 aA).1) (aT (bool false) [(.box (lift (aJ (aj)))),(.box [(ci 0),(ci 0),(ci 0),(ci 0),(ci 0),(.im (.v (.string ⟨⟨[]⟩⟩)))]),(.box [(.im (.v (.bool false)))]),(.box [(ci (↑aB:Int))]),(.box (lift (b8 (aj.2.2 aB)))),(.box (lift (aJ (aj)))),(.box [(ci (↑aB:Int))]),bp,(.loop 29 104 [(2,((.c (.rt 0 0 0)),[])),(3,((.c (.rt 3 0 0)),[])),(4,((.c (.rt 1 0 0)),[])),(5,((.c (.rt 2 0 0)),[])),(6,((.c (.rt 4 0 0)),[])),(18,((.c (.fh 54 [6,5])),[]))] [19,20] (pw 29) (pg 29) .done (some .ret)),bP,(.box (lift (b8 (aj.2.2 aA))))]) (Nr aT aj aB bp bP aA))) (Nr aT aj aB bp bP aA))
abbrev U7 (aj:af) (aA aB:Nat) (aT:D->List ae->Prop) (bp bP:ae):Prop:=br (cp aj aA aB==2) (br ((aj.2.2 aA).1==11) (aT (bool false) [(.box (lift (aJ (aj)))),(.box [(ci 2),(ci (↑aB:Int)),(ci ((aj.2.2 aA).3)),(ci 0),(ci 0),(.im (.v (.string ⟨⟨[]⟩⟩)))]),(.box [(.im (.v (.bool true)))]),(.box [(ci (↑aB:Int))]),(.box (lift (b8 (aj.2.2 aB)))),(.box (lift (aJ (aj)))),(.box [(ci (↑aB:Int))]),bp,(.loop 29 104 [(2,((.c (.rt 0 0 0)),[])),(3,((.c (.rt 3 0 0)),[])),(4,((.c (.rt 1 0 0)),[])),(5,((.c (.rt 2 0 0)),[])),(6,((.c (.rt 4 0 0)),[])),(18,((.c (.fh 54 [6,5])),[]))] [19,20] (pw 29) (pg 29) .done (some .ret)),bP,(.box (lift (b8 (aj.2.2 aA))))]) (ai7 aj aA aB aT bp bP)) (ai7 aj aA aB aT bp bP)
abbrev ZQ (aj:af) (aA aB:Nat) (aT:D->List ae->Prop) (bp bP:ae):Prop:=(LC 21 [(iv aj),(gS aA),(gS aB)] [] (int (cp aj aA aB)) []/\br (cp aj aA aB==2) ((LC 28 [(iF aj aA)] [] (bool (iK (aj.2.2 aA).1)) []/\br (iK (aj.2.2 aA).1) (aT (bool false) [(.box (lift (aJ (aj)))),(.box [(ci 2),(ci (↑aB:Int)),(ci (↑aA:Int)),(ci 0),(ci 0),(.im (.v (.string ⟨⟨[]⟩⟩)))]),(.box [(.im (.v (.bool true)))]),(.box [(ci (↑aB:Int))]),(.box (lift (b8 (aj.2.2 aB)))),(.box (lift (aJ (aj)))),(.box [(ci (↑aB:Int))]),bp,(.loop 29 104 [(2,((.c (.rt 0 0 0)),[])),(3,((.c (.rt 3 0 0)),[])),(4,((.c (.rt 1 0 0)),[])),(5,((.c (.rt 2 0 0)),[])),(6,((.c (.rt 4 0 0)),[])),(18,((.c (.fh 54 [6,5])),[]))] [19,20] (pw 29) (pg 29) .done (some .ret)),bP,(.box (lift (b8 (aj.2.2 aA))))]) (U7 aj aA aB aT bp bP))) (U7 aj aA aB aT bp bP))
theorem ab4 (QE:D->List ae->Prop) (t:af) (k j:Nat) (r5 x:ae) (h:(LC 28 [(iF t j)] [] (bool (iK (t.2.2 j).1)) []/\br (!iK (t.2.2 j).1) ((LC 33 [(iF t j)] [] (bool (dE (t.2.2 j).1)) []/\br (!dE (t.2.2 j).1) (Nr QE t k r5 x j) (ZQ t j k QE r5 x))) (ZQ t j k QE r5 x))):vcY J0 29 8 QE ((20,iJ (t.ins.get j),[])::(19,int j,[])::Fx) [.box (lift (aJ t)),jy 0 0 0 dS,lD false,.box [.im (iI k)],.box (lift (b8 (t.ins.get k))),.box (lift (aJ t)),.box [.im (iI k)],r5,.loop 29 104 Fx [19,20] (pw 29) (pg 29) .ready none,x]:=km h
theorem y99 (t:af) (k j:Nat) (r5 x:ae) (hj:j<k) (hk:k<t.ins.n) (hS:bk t) (hm:oC t):lW lE Try.prog 8 [int j,iJ (t.ins.get j)] [.box (lift (aJ t)),jy 0 0 0 dS,lD false,.box [.im (iI k)],.box (lift (b8 (t.ins.get k))),.box (lift (aJ t)),.box [.im (iI k)],r5,.loop 29 104 Fx [19,20] (pw 29) (pg 29) .ready none,x] (bool (!tN t k (Int.ofNat j))) [.box (lift (aJ t)),uQ t k (Int.ofNat j),uK t k (Int.ofNat j),.box [.im (iI k)],.box (lift (b8 (t.ins.get k))),.box (lift (aJ t)),.box [.im (iI k)],r5,.loop 29 104 Fx [19,20] (pw 29) (pg 29) (bif !tN t k (Int.ofNat j) then .ready else .done) (bif !tN t k (Int.ofNat j) then none else some .ret),x]:=by
 have h65:LC 21 [bH t,int j,int k] [] (int (cp t j k)) []:=by
  grind [U2]
 refine Uf (X:=J0) (f:=29) (vf:=Fx) (zN:=((20,iJ (t.ins.get j),[])::(19,int j,[])::Fx)) (ps:=[19,20]) (by kernel_rfl) (by kernel_rfl) (ab4 _ t k j r5 x ?_)
 refine ⟨v8 _,?_⟩
 refine aq (λh0=>?_) (λh0=>?_)
 .refine ⟨tQ _,?_⟩
  refine aq (λh1=>?_) (λh1=>?_)
  .have g0:iK (t.ins.get j).op=false:=by grind
   have g1:dE (t.ins.get j).op=false:=by grind
   have e1:fT t k j=false:=by grind [fT]
   rw [show tN t k (Int.ofNat j)=false from e1,show uQ t k (Int.ofNat j)=jy 0 0 0 dS from by show (bif fT t k j then _ else _)=_; rw [e1]; rfl,show uK t k (Int.ofNat j)=lD false from by show (bif fT t k j then _ else _)=_; rw [e1]; rfl]
   exact ⟨10,aH rfl,aH rfl,rfl,rfl,bf.refl _,by repeat' (first|exact trivial|refine ⟨.inl (.inl rfl),?_⟩|refine ⟨.inr rfl,?_⟩|refine ⟨.inl (.inr ⟨_,_,_,_,_,_,_,_,_,_,rfl,rfl⟩),?_⟩|done)⟩
  .refine ⟨h65,?_⟩
   refine aq (λh2=>?_) (λh2=>?_)
   .refine ⟨v8 _,?_⟩
    refine aq (λh3=>(by grind)) (λh3=>?_)
    refine aq (λh4=>?_) (λh4=>Bool.noConfusion (h2.symm.trans h4))
    refine aq (λh5=>?_) (λh5=>?_)
    .have g0:iK (t.ins.get j).op=false:=by grind
     have g1:dE (t.ins.get j).op=true:=by grind
     have g2:(cp t j k==2)=true:=h2
     have g3:(iK (t.ins.get j).op)=false:=h3
     have g4:(cp t j k==2)=true:=h4
     have g5:((t.ins.get j).op==11)=true:=h5
     have e1:fT t k j=true:=by grind [fT]
     have e2:jj t k j=(2,(k:Int),(t.ins.get j).b,true):=by grind [jj]
     rw [show tN t k (Int.ofNat j)=true from e1,show uQ t k (Int.ofNat j)=jy 2 (k:Int) (t.ins.get j).b dS from by show (bif fT t k j then jy (jj t k j).1 (jj t k j).2.1 (jj t k j).2.2.1 dS else _)=_; rw [e1,e2]; rfl,show uK t k (Int.ofNat j)=lD true from by show (bif fT t k j then lD (jj t k j).2.2.2 else _)=_; rw [e1,e2]; rfl]
     exact ⟨10,aH rfl,aH rfl,rfl,rfl,bf.refl _,by repeat' (first|exact trivial|refine ⟨.inl (.inl rfl),?_⟩|refine ⟨.inr rfl,?_⟩|refine ⟨.inl (.inr ⟨_,_,_,_,_,_,_,_,_,_,rfl,rfl⟩),?_⟩|done)⟩
    .refine aq (λh6=>?_) (λh6=>Bool.noConfusion (h2.symm.trans h6))
     have g0:iK (t.ins.get j).op=false:=by grind
     have g1:dE (t.ins.get j).op=true:=by grind
     have g2:(cp t j k==2)=true:=h2
     have g3:(iK (t.ins.get j).op)=false:=h3
     have g4:(cp t j k==2)=true:=h4
     have g5:((t.ins.get j).op==11)=false:=h5
     have g6:(cp t j k==2)=true:=h6
     have e1:fT t k j=true:=by grind [fT]
     have e2:jj t k j=(2,(k:Int),(t.ins.get j).c,true):=by grind [jj]
     rw [show tN t k (Int.ofNat j)=true from e1,show uQ t k (Int.ofNat j)=jy 2 (k:Int) (t.ins.get j).c dS from by show (bif fT t k j then jy (jj t k j).1 (jj t k j).2.1 (jj t k j).2.2.1 dS else _)=_; rw [e1,e2]; rfl,show uK t k (Int.ofNat j)=lD true from by show (bif fT t k j then lD (jj t k j).2.2.2 else _)=_; rw [e1,e2]; rfl]
     exact ⟨10,aH rfl,aH rfl,rfl,rfl,bf.refl _,by repeat' (first|exact trivial|refine ⟨.inl (.inl rfl),?_⟩|refine ⟨.inr rfl,?_⟩|refine ⟨.inl (.inr ⟨_,_,_,_,_,_,_,_,_,_,rfl,rfl⟩),?_⟩|done)⟩
   .refine aq (λh3=>Bool.noConfusion (h3.symm.trans h2)) (λh3=>?_)
    refine aq (λh4=>Bool.noConfusion (h4.symm.trans h2)) (λh4=>?_)
    refine aq (λh5=>?_) (λh5=>?_)
    .refine ⟨tQ _,?_⟩
     refine aq (λh6=>?_) (λh6=>(by grind))
     have g0:iK (t.ins.get j).op=false:=by grind
     have g1:dE (t.ins.get j).op=true:=by grind
     have g2:(cp t j k==2)=false:=h2
     have g3:(cp t j k==2)=false:=h3
     have g4:(cp t j k==2)=false:=h4
     have g5:(cp t j k==1)=true:=h5
     have g6:(dE (t.ins.get j).op)=true:=h6
     have g99:(cp t j k==2)=false:=by grind
     have e1:fT t k j=true:=by grind [fT]
     have e2:jj t k j=(0,0,0,false):=by grind [jj]
     rw [show tN t k (Int.ofNat j)=true from e1,show uQ t k (Int.ofNat j)=jy 0 0 0 dS from by show (bif fT t k j then jy (jj t k j).1 (jj t k j).2.1 (jj t k j).2.2.1 dS else _)=_; rw [e1,e2]; rfl,show uK t k (Int.ofNat j)=lD false from by show (bif fT t k j then lD (jj t k j).2.2.2 else _)=_; rw [e1,e2]; rfl]
     exact ⟨10,aH rfl,aH rfl,rfl,rfl,bf.refl _,by repeat' (first|exact trivial|refine ⟨.inl (.inl rfl),?_⟩|refine ⟨.inr rfl,?_⟩|refine ⟨.inl (.inr ⟨_,_,_,_,_,_,_,_,_,_,rfl,rfl⟩),?_⟩|done)⟩
    .have g0:iK (t.ins.get j).op=false:=by grind
     have g1:dE (t.ins.get j).op=true:=by grind
     have g2:(cp t j k==2)=false:=h2
     have g3:(cp t j k==2)=false:=h3
     have g4:(cp t j k==2)=false:=h4
     have g5:(cp t j k==1)=false:=h5
     have e1:fT t k j=false:=by grind [fT]
     rw [show tN t k (Int.ofNat j)=false from e1,show uQ t k (Int.ofNat j)=jy 0 0 0 dS from by show (bif fT t k j then _ else _)=_; rw [e1]; rfl,show uK t k (Int.ofNat j)=lD false from by show (bif fT t k j then _ else _)=_; rw [e1]; rfl]
     exact ⟨10,aH rfl,aH rfl,rfl,rfl,bf.refl _,by repeat' (first|exact trivial|refine ⟨.inl (.inl rfl),?_⟩|refine ⟨.inr rfl,?_⟩|refine ⟨.inl (.inr ⟨_,_,_,_,_,_,_,_,_,_,rfl,rfl⟩),?_⟩|done)⟩
 .refine ⟨h65,?_⟩
  refine aq (λh1=>?_) (λh1=>?_)
  .refine ⟨v8 _,?_⟩
   refine aq (λh2=>?_) (λh2=>(by grind))
   have g0:iK (t.ins.get j).op=true:=by grind
   have g1:(cp t j k==2)=true:=h1
   have g2:(iK (t.ins.get j).op)=true:=h2
   have e1:fT t k j=true:=by grind [fT]
   have e2:jj t k j=(2,(k:Int),(j:Int),true):=by grind [jj]
   rw [show tN t k (Int.ofNat j)=true from e1,show uQ t k (Int.ofNat j)=jy 2 (k:Int) (j:Int) dS from by show (bif fT t k j then jy (jj t k j).1 (jj t k j).2.1 (jj t k j).2.2.1 dS else _)=_; rw [e1,e2]; rfl,show uK t k (Int.ofNat j)=lD true from by show (bif fT t k j then lD (jj t k j).2.2.2 else _)=_; rw [e1,e2]; rfl]
   exact ⟨10,aH rfl,aH rfl,rfl,rfl,bf.refl _,by repeat' (first|exact trivial|refine ⟨.inl (.inl rfl),?_⟩|refine ⟨.inr rfl,?_⟩|refine ⟨.inl (.inr ⟨_,_,_,_,_,_,_,_,_,_,rfl,rfl⟩),?_⟩|done)⟩
  .refine aq (λh2=>Bool.noConfusion (h2.symm.trans h1)) (λh2=>?_)
   refine aq (λh3=>Bool.noConfusion (h3.symm.trans h1)) (λh3=>?_)
   refine aq (λh4=>?_) (λh4=>?_)
   .refine ⟨tQ _,?_⟩
    refine aq (λh5=>?_) (λh5=>?_)
    .have g0:iK (t.ins.get j).op=true:=by grind
     have g1:(cp t j k==2)=false:=h1
     have g2:(cp t j k==2)=false:=h2
     have g3:(cp t j k==2)=false:=h3
     have g4:(cp t j k==1)=true:=h4
     have g5:(dE (t.ins.get j).op)=true:=h5
     have g99:(cp t j k==2)=false:=by grind
     have e1:fT t k j=true:=by grind [fT]
     have e2:jj t k j=(0,0,0,false):=by grind [jj]
     rw [show tN t k (Int.ofNat j)=true from e1,show uQ t k (Int.ofNat j)=jy 0 0 0 dS from by show (bif fT t k j then jy (jj t k j).1 (jj t k j).2.1 (jj t k j).2.2.1 dS else _)=_; rw [e1,e2]; rfl,show uK t k (Int.ofNat j)=lD false from by show (bif fT t k j then lD (jj t k j).2.2.2 else _)=_; rw [e1,e2]; rfl]
     exact ⟨10,aH rfl,aH rfl,rfl,rfl,bf.refl _,by repeat' (first|exact trivial|refine ⟨.inl (.inl rfl),?_⟩|refine ⟨.inr rfl,?_⟩|refine ⟨.inl (.inr ⟨_,_,_,_,_,_,_,_,_,_,rfl,rfl⟩),?_⟩|done)⟩
    .have g0:iK (t.ins.get j).op=true:=by grind
     have g1:(cp t j k==2)=false:=h1
     have g2:(cp t j k==2)=false:=h2
     have g3:(cp t j k==2)=false:=h3
     have g4:(cp t j k==1)=true:=h4
     have g5:(dE (t.ins.get j).op)=false:=h5
     have e1:fT t k j=false:=by grind [fT]
     rw [show tN t k (Int.ofNat j)=false from e1,show uQ t k (Int.ofNat j)=jy 0 0 0 dS from by show (bif fT t k j then _ else _)=_; rw [e1]; rfl,show uK t k (Int.ofNat j)=lD false from by show (bif fT t k j then _ else _)=_; rw [e1]; rfl]
     exact ⟨10,aH rfl,aH rfl,rfl,rfl,bf.refl _,by repeat' (first|exact trivial|refine ⟨.inl (.inl rfl),?_⟩|refine ⟨.inr rfl,?_⟩|refine ⟨.inl (.inr ⟨_,_,_,_,_,_,_,_,_,_,rfl,rfl⟩),?_⟩|done)⟩
   .have g0:iK (t.ins.get j).op=true:=by grind
    have g1:(cp t j k==2)=false:=h1
    have g2:(cp t j k==2)=false:=h2
    have g3:(cp t j k==2)=false:=h3
    have g4:(cp t j k==1)=false:=h4
    have e1:fT t k j=false:=by grind [fT]
    rw [show tN t k (Int.ofNat j)=false from e1,show uQ t k (Int.ofNat j)=jy 0 0 0 dS from by show (bif fT t k j then _ else _)=_; rw [e1]; rfl,show uK t k (Int.ofNat j)=lD false from by show (bif fT t k j then _ else _)=_; rw [e1]; rfl]
    exact ⟨10,aH rfl,aH rfl,rfl,rfl,bf.refl _,by repeat' (first|exact trivial|refine ⟨.inl (.inl rfl),?_⟩|refine ⟨.inr rfl,?_⟩|refine ⟨.inl (.inr ⟨_,_,_,_,_,_,_,_,_,_,rfl,rfl⟩),?_⟩|done)⟩
theorem ad4 (t:af) (k:Nat) (hk:k<t.ins.n) (hS:bk t) (hm:oC t) (ha:(t.ins.get k).op=10->dm (t.ins.get k).a t.ins.n=true):LC 29 [bH t,int k] [] (Gy t k) []:=by
 have c:=HC (tN t k) (uQ t k) (uK t k) t k (.box (lift (aJ t))) (jy 0 0 0 dS) (lD false) (.box [.im (iI k)]) (.box (lift (b8 (t.ins.get k)))) .kF 29 104 Fx [19,20] (pw 29) (pg 29) (λj x hj _=>y99 t k j .kF x hj hk hS hm) (by omega) hS.ins ⟨.inl rfl,.inl rfl,.inl rfl,.inl rfl,.inl rfl,.inl rfl,.inl rfl,.inl rfl,rE rfl,trivial⟩
  (λj h=>by
   have h:fT t k j=false:=h
   exact ⟨by show (bif fT t k j then _ else _)=_; rw [h]; rfl,by show (bif fT t k j then _ else _)=_; rw [h]; rfl⟩)
  (λj=>by
   refine ⟨?_,?_⟩
   .show gK 9 (bif fT t k j then _ else _)=true
    cases fT t k j<;>rfl
   .show gK 9 (bif fT t k j then _ else _)=true
    cases fT t k j<;>rfl)
 cases hb:nh t (tN t k) k with
 | none=>
   rw [hb] at c
   rw [show Gy t k=jk 1 k 0 BT (sR t k) from by unfold Gy; rw [hb]]
   refine pv (X:=Yz true 0 0 0 false) (stop:=Ky) ah6 (Z4 _ _ true 0 0 0 false t k (ay (aP hk) ?_))
   refine ag.rename [0,2,3,1,4] rfl (ag.lr (FR true 0 0 0 false t k) (bt (X:=Yz true 0 0 0 false) (stop:=Ky) (Ny _ _ true 0 0 0 false t k ⟨bB.jm (sL t k) [] _ rfl rfl,aq (λ_=>⟨c,aq (λh1=>ay (ha (eq_of_beq h1)) (aq (λh2=>ay (ha (eq_of_beq h1)) ?_) (λh2=>?_))) (λh1=>?_)⟩) (λh=>Bool.noConfusion h)⟩)))
   .have h1:((t.ins.get k).op==10)=true:=h1
    have h2:((t.ins.get (t.ins.get k).a.toNat).op==16)=true:=h2
    unfold sR
    rw [h1,h2]
    exact bf.refl _
   .have h1:((t.ins.get k).op==10)=true:=h1
    have h2:((t.ins.get (t.ins.get k).a.toNat).op==16)=false:=h2
    unfold sR
    rw [h1,h2]
    exact bf.refl _
   .have h1:((t.ins.get k).op==10)=false:=h1
    unfold sR
    rw [h1]
    exact bf.refl _
 | some j=>
   rw [hb] at c
   have lC:fT t k j=true:=mP hb
   generalize ho:jj t k j=o at *
   have e1:uQ t k (Int.ofNat j)=jy o.1 o.2.1 o.2.2.1 dS:=by show (bif fT t k j then jy (jj t k j).1 (jj t k j).2.1 (jj t k j).2.2.1 dS else _)=_; rw [lC,ho]; rfl
   have e2:uK t k (Int.ofNat j)=lD o.2.2.2:=by show (bif fT t k j then lD (jj t k j).2.2.2 else _)=_; rw [lC,ho]; rfl
   simp only [Ow] at c
   rw [e1,e2] at c
   rw [show Gy t k=jk o.1 o.2.1 o.2.2.1 dS o.2.2.2 from by grind [Gy]]
   refine pv (X:=Yz false o.1 o.2.1 o.2.2.1 o.2.2.2) (stop:=Ky) ah6 (Z4 _ _ false o.1 o.2.1 o.2.2.1 o.2.2.2 t k (ay (aP hk) ?_))
   refine ag.rename [0,2,3,1,4] rfl (ag.lr (FR false o.1 o.2.1 o.2.2.1 o.2.2.2 t k) (bt (X:=Yz false o.1 o.2.1 o.2.2.1 o.2.2.2) (stop:=Ky) (Ny _ _ false o.1 o.2.1 o.2.2.1 o.2.2.2 t k ⟨bB.jm (sL t k) [] _ rfl rfl,aq (λh=>Bool.noConfusion h) (λ_=>⟨c,?_⟩)⟩)))
   exact bf.refl _
open Go Go.V
section
def F60 (d:D):FuncId->List D->List ae->Out:=ext F99 [(29,λ_ _=>(d,[],[]))]
def T8 (p:Bool) (k:Nat) (kd zr yD:Int) (v:iG) (b:Bool):gr:={ F:=F60 (jk kd zr yD v b),S:=[1,2,8],B:=λ_ _ _=>p,R1:=λ_ _ _=>(.t [],[],[]),R2:=λ_ ds rs=>(.t [],[(1,jy 3 k 0 dS),(2,lD true),(8,ED false (aR rs 8))],[]) }
def rC (c:Tmp):aL:=[(4,.c (.rt 1 0 0),[]),(5,.c (.rt 2 0 0),[]),(6,.c (.rt 3 0 0),[]),(7,.c (.rt 4 0 0),[]),(c,.c (.fh 54 [6,5]),[])]
def UO:Code->List (List Tmp×Code×Code)
 | .rangeFunc _ ps a b=>[(ps.toList,a,b)]
 | .seq a b=>UO a++UO b
 | .cond _ a b=>UO a++UO b
 | .block _ a=>UO a
 | .loop a=>UO a
 | _=>[]
def Qx (f:FuncId):Code:=match UO (nt f) with
 | _::x::_=>x.2.1
 | _=>.skip
def Oa (f:FuncId):Code:=match UO (nt f) with
 | _::x::_=>x.2.2
 | _=>.skip
def Xu (X:gr) (f:FuncId) (r:Nat) (Q:D->List ae->Prop) (a b:Code) (sl:aL) (rs:List ae):Prop:=
 tg lE Try.prog X hints (va f).ntmps f (some r) cD (λ_ _=>False) (Qm r Q) 10000 false [.code a,.beginRound,.code b] ⟨sl,rs,[]⟩
def q5:Sq Int:=⟨5,λi=>rI (flat 1 [Go.V.I.v (Value.int IntKind.i64 8),Go.V.I.v (Value.int IntKind.i64 9),Go.V.I.v (Value.int IntKind.i64 12),Go.V.I.v (Value.int IntKind.i64 13),Go.V.I.v (Value.int IntKind.i64 14)] i)⟩
def cV (t:af) (k j:Nat):Bool:=(t.ins.get j).op==7&&((t.ins.get j).a==(t.ins.get k).a && !lY (t.ins.get k) (t.ins.get j))
def dx (t:af) (k j:Nat):Bool:=(t.ins.get j).a==(t.ins.get k).a&&mb (t.ins.get j).op q5
def tY (S:af->Nat->Nat->Bool) (t:af) (k:Nat) (j:Int):Bool:=S t k j.toNat
def tI (S:af->Nat->Nat->Bool) (t:af) (k:Nat) (j:Int):ae:=bif S t k j.toNat then jy 3 k 0 dS else jy 0 0 0 dS
def tv (S:af->Nat->Nat->Bool) (t:af) (k:Nat) (j:Int):ae:=bif S t k j.toNat then lD true else lD false
def yj (S:af->Nat->Nat->Bool) (t:af) (k:Nat):Bool:=match nh t (tY S t k) k with
 | some _=>true
 | none=>false
def rT (t:af) (k:Nat):D:=bif (t.ins.get k).once then jk 3 k 0 dS false else bif iK (t.ins.get k).op then Gy t k else bif (t.ins.get k).op==7 then
 (bif (t.ins.get (t.ins.get k).a.toNat).op==16 then (bif !lY (t.ins.get (t.ins.get k).a.toNat) (t.ins.get k) then jk 3 k 0 dS true else jk 3 k 0 dS (yj cV t k)) else jk 3 k 0 dS (yj cV t k))
 else bif (t.ins.get k).op==8 then jk 3 k 0 dS (yj dx t k) else jk 3 k 0 dS false
end
def Ef:Nat->Bool:=λi=>Nat.beq i 11||Nat.beq i 16
theorem am4:Fn 17:={}
abbrev Qk (aj:LP) (aA:Nat) (aB:af):Prop:=aj (ah 17 11) ⟨[(js aA),dw,(4,((.c (.rt 1 0 0)),[])),(5,((.c (.rt 2 0 0)),[])),(6,((.c (.rt 3 0 0)),[])),og,(51,((bool false),[]))],[(bE aB),mc,(.box [dn]),(ju aB aA),(kR aA),(.box (lift (b8 (aB.2.2 (aB.2.2 aA).2.toNat))))],[]⟩
abbrev Gm (aj:af) (aA:Nat):List ae:=[(bE aj),mc,(.box [dn]),(ju aj aA),(kR aA)]
theorem as5 (L:LP) (QD:D->Prop) (p:Bool) (t:af) (k:Nat) (kd j3 ie:Int) (v:iG) (b:Bool) (h:nd (dm (↑k:Int) t.2.1) (br ((t.2.2 k).11) (QD (pA k)) ((LC 28 [(iF t k)] [] (bool (iK (t.2.2 k).1)) []/\br (iK (t.2.2 k).1) ((LC 29 (tp t k) [] (.t [(.true,[(ci kd),(ci j3),(ci ie),(ci v.1),(ci v.2),(.im (.v (.string v.3)))]),(.false,[(.im (.v (.bool b)))])]) []/\QD (.t [(.true,[(ci kd),(ci j3),(ci ie),(ci v.1),(ci v.2),(.im (.v (.string v.3)))]),(.false,[(.im (.v (.bool b)))])]))) (br ((t.2.2 k).1==7) (nd (dm (t.2.2 k).2 t.2.1) (br ((t.2.2 (t.2.2 k).2.toNat).1==16) ((LC 30 [(.a (lift (b8 (t.2.2 (t.2.2 k).2.toNat)))),(.a (lift (b8 (t.2.2 k))))] [] (bool (lY (t.2.2 (t.2.2 k).2.toNat) (t.2.2 k))) []/\br (!lY (t.2.2 (t.2.2 k).2.toNat) (t.2.2 k)) (QD (Im k)) (Qk L k t))) (Qk L k t))) (br ((t.2.2 k).1==8) (L (ah 17 16) ⟨[(js k),dw,qf,(5,((.c (.rt 2 0 0)),[])),(6,((.c (.rt 3 0 0)),[])),og,(75,((bool true),[]))],(Gm t k),[]⟩) (QD (pA k)))))))):fG (T8 p k kd j3 ie v b) 17 Ef L (cy QD) [bH t,int k] []:=km h
abbrev MP (aj:Nat) (aA:af):VS:=⟨[(1,int aj,[]),iO,(4,.c (.rt 1 0 0),[]),(5,.c (.rt 2 0 0),[]),(6,.c (.rt 3 0 0),[]),(7,.c (.rt 4 0 0),[])],[.box (lift (aJ aA)),jy 0 0 0 dS,lD false,.box (lift (b8 (aA.ins.get aj))),jy 3 aj 0 dS],[]⟩
def vg (p:Bool) (t:af) (k:Nat) (kd j3 ie:Int) (v:iG) (b:Bool)  : VS:=(MP k t)
abbrev L9 (aj:af) (aA:Nat):List ae:=[(bE aj),mc,(.box [dn]),(ju aj aA),(kR aA),(bE aj),(mC aA),.kF,(.loop 17 97 [(4,((.c (.rt 1 0 0)),[])),(5,((.c (.rt 2 0 0)),[])),(6,((.c (.rt 3 0 0)),[])),(7,((.c (.rt 4 0 0)),[])),(55,((.c (.fh 54 [6,5])),[]))] [56,57] (pw 17) (pg 17) .ready none)]
theorem IW (L:LP) (QD:D->Prop) (p:Bool) (t:af) (k:Nat) (kd j3 ie:Int) (v:iG) (b:Bool)  (h:(LC 31 (tp t k) (Gm t k) (.c (.fh 54 [6,5])) [(bE t),mc,(.box [dn]),(ju t k),(kR k),(bE t),(mC k)]/\br (p) ((LC 54 tB (L9 t k) (.t []) (L9 t k)/\QD (pA k))) ((LC 54 tB (L9 t k) (.t []) [(bE t),(kR k),(.box [(.im (.v (.bool true)))]),(ju t k),(kR k),(bE t),(mC k),.kF,(.loop 17 97 [(4,((.c (.rt 1 0 0)),[])),(5,((.c (.rt 2 0 0)),[])),(6,((.c (.rt 3 0 0)),[])),(7,((.c (.rt 4 0 0)),[])),(55,((.c (.fh 54 [6,5])),[]))] [56,57] (pw 17) (pg 17) .done (some .ret))]/\QD (Im k))))):cW (T8 p k kd j3 ie v b) 17 Ef L (cy QD) 11 (vg p t k kd j3 ie v b ):=km h
def Cq (p:Bool) (t:af) (k:Nat) (kd j3 ie:Int) (v:iG) (b:Bool)  : VS:=(MP k t)
abbrev MK (aj:af) (aA:Nat):List ae:=[(bE aj),mc,(.box [dn]),(ju aj aA),(kR aA),(bE aj),(mC aA),.kF,(.loop 17 97 [(4,((.c (.rt 1 0 0)),[])),(5,((.c (.rt 2 0 0)),[])),(6,((.c (.rt 3 0 0)),[])),(7,((.c (.rt 4 0 0)),[])),(81,((.c (.fh 54 [6,5])),[]))] [82,83] (Qx 17) (Oa 17) .ready none)]
theorem I2 (L:LP) (QD:D->Prop) (p:Bool) (t:af) (k:Nat) (kd j3 ie:Int) (v:iG) (b:Bool)  (h:(LC 31 (tp t k) (Gm t k) (.c (.fh 54 [6,5])) [(bE t),mc,(.box [dn]),(ju t k),(kR k),(bE t),(mC k)]/\br (p) ((LC 54 tB (MK t k) (.t []) (MK t k)/\QD (pA k))) ((LC 54 tB (MK t k) (.t []) [(bE t),(kR k),(.box [(.im (.v (.bool true)))]),(ju t k),(kR k),(bE t),(mC k),.kF,(.loop 17 97 [(4,((.c (.rt 1 0 0)),[])),(5,((.c (.rt 2 0 0)),[])),(6,((.c (.rt 3 0 0)),[])),(7,((.c (.rt 4 0 0)),[])),(81,((.c (.fh 54 [6,5])),[]))] [82,83] (Qx 17) (Oa 17) .done (some .ret))]/\QD (Im k))))):cW (T8 p k kd j3 ie v b) 17 Ef L (cy QD) 16 (Cq p t k kd j3 ie v b ):=km h
theorem LX {X:gr} {f:FuncId} {r:Nat} {vf zN:aL} {ps:List Tmp} {ds:List D} {rs:List ae} {d:D} {aG:List ae} (ca cb:Code) (hr:rs[r]?=some (.loop f (va f).ntmps vf ps ca cb .ready none)) (HR:KO (va f).ntmps ps ds vf=some zN) (h:Xu X f r (Go.V.Ends rs d aG) ca cb zN rs):lW lE Try.prog r ds rs d aG:=
 yP pB hr HR λb cs hb=>ve (L:=λ_ _=>False) pB mixed hb (λ_ _ q=>q.elim) (λ_ _ q=>q) 10000 h
theorem Xv (v:Int):LC 32 [.c (.im (.sl 1 5 (flat 1 [Go.V.I.v (Value.int IntKind.i64 8),Go.V.I.v (Value.int IntKind.i64 9),Go.V.I.v (Value.int IntKind.i64 12),Go.V.I.v (Value.int IntKind.i64 13),Go.V.I.v (Value.int IntKind.i64 14)]))),int v] [] (bool (mb v q5)) []:=
 bB.pre (CZ _ v) (.cons (qW (dK.sl λi hi j hj=>by
  have hj:j=0:=by omega
  subst hj
  have hi:i<5:=hi
  match i,hi with
  | 0,_=>exact dK.refl _
  | 1,_=>exact dK.refl _
  | 2,_=>exact dK.refl _
  | 3,_=>exact dK.refl _
  | 4,_=>exact dK.refl _)) (.cons (bf.refl _) .nil))
theorem D3 {S:af->Nat->Nat->Bool} {t:af} {k:Nat} (h:nh t (tY S t k) k=none):yj S t k=false:=by unfold yj; rw [h]
theorem C8 {S:af->Nat->Nat->Bool} {t:af} {k j:Nat} (h:nh t (tY S t k) k=some j):yj S t k=true:=by unfold yj; rw [h]
theorem Ni (t:af) (k:Nat):∃ kd zr yD v b,Gy t k=jk kd zr yD v b:=by
 unfold Gy
 cases nh t (tN t k) k with
 | none=>grind
 | some j=>grind
abbrev MZ (aj:D->List ae->Prop) (aA:af) (aB:Nat) (aT bp:ae) (bP:Nat):Prop:=aj (bool true) [(.box (lift (aJ (aA)))),(.box [(ci 0),(ci 0),(ci 0),(ci 0),(ci 0),(.im (.v (.string ⟨⟨[]⟩⟩)))]),(.box [(.im (.v (.bool false)))]),(.box (lift (b8 (aA.2.2 aB)))),(.box [(ci 3),(ci (↑aB:Int)),(ci 0),(ci 0),(ci 0),(.im (.v (.string ⟨⟨[]⟩⟩)))]),(.box (lift (aJ (aA)))),(.box [(ci (↑aB:Int))]),aT,(.loop 17 97 [(4,((.c (.rt 1 0 0)),[])),(5,((.c (.rt 2 0 0)),[])),(6,((.c (.rt 3 0 0)),[])),(7,((.c (.rt 4 0 0)),[])),(55,((.c (.fh 54 [6,5])),[]))] [56,57] (pw 17) (pg 17) .ready none),bp,(.box (lift (b8 (aA.2.2 bP))))]
theorem RR (QE:D->List ae->Prop) (t:af) (k j:Nat) (r5 x:ae) (h:br ((t.2.2 j).1==7) (br ((t.2.2 j).2==(t.2.2 k).2) ((LC 30 [(.a (lift (b8 (t.2.2 k)))),(.a (lift (b8 (t.2.2 j))))] [] (bool (lY (t.2.2 k) (t.2.2 j))) []/\br (!lY (t.2.2 k) (t.2.2 j)) (QE (bool false) [(.box (lift (aJ (t)))),(.box [(ci 3),(ci (↑k:Int)),(ci 0),(ci 0),(ci 0),(.im (.v (.string ⟨⟨[]⟩⟩)))]),(.box [(.im (.v (.bool true)))]),(.box (lift (b8 (t.2.2 k)))),(.box [(ci 3),(ci (↑k:Int)),(ci 0),(ci 0),(ci 0),(.im (.v (.string ⟨⟨[]⟩⟩)))]),(.box (lift (aJ (t)))),(.box [(ci (↑k:Int))]),r5,(.loop 17 97 [(4,((.c (.rt 1 0 0)),[])),(5,((.c (.rt 2 0 0)),[])),(6,((.c (.rt 3 0 0)),[])),(7,((.c (.rt 4 0 0)),[])),(55,((.c (.fh 54 [6,5])),[]))] [56,57] (pw 17) (pg 17) .done (some .ret)),x,(.box (lift (b8 (t.2.2 j))))]) (MZ QE t k r5 x j))) (MZ QE t k r5 x j)) (MZ QE t k r5 x j)):Xu J0 17 8 QE (pw 17) (pg 17) ((57,iJ (t.ins.get j),[])::(56,int j,[])::rC 55) [.box (lift (aJ t)),jy 0 0 0 dS,lD false,.box (lift (b8 (t.ins.get k))),jy 3 k 0 dS,.box (lift (aJ t)),.box [.im (iI k)],r5,.loop 17 97 (rC 55) [56,57] (pw 17) (pg 17) .ready none,x]:=km h
theorem ae2 (t:af) (k j:Nat) (r5 x:ae):lW lE Try.prog 8 [int j,iJ (t.ins.get j)] [.box (lift (aJ t)),jy 0 0 0 dS,lD false,.box (lift (b8 (t.ins.get k))),jy 3 k 0 dS,.box (lift (aJ t)),.box [.im (iI k)],r5,.loop 17 97 (rC 55) [56,57] (pw 17) (pg 17) .ready none,x] (bool (!tY cV t k (Int.ofNat j))) [.box (lift (aJ t)),tI cV t k (Int.ofNat j),tv cV t k (Int.ofNat j),.box (lift (b8 (t.ins.get k))),jy 3 k 0 dS,.box (lift (aJ t)),.box [.im (iI k)],r5,.loop 17 97 (rC 55) [56,57] (pw 17) (pg 17) (bif !tY cV t k (Int.ofNat j) then .ready else .done) (bif !tY cV t k (Int.ofNat j) then none else some .ret),x]:=by
 refine LX (X:=J0) (f:=17) (vf:=rC 55) (zN:=((57,iJ (t.ins.get j),[])::(56,int j,[])::rC 55)) (ps:=[56,57]) (pw 17) (pg 17) (by kernel_rfl) (by kernel_rfl) (RR _ t k j r5 x ?_)
 refine aq (λh0=>?_) (λh0=>?_)
 .refine aq (λh1=>?_) (λh1=>?_)
  .refine ⟨Hj _ _,?_⟩
   refine aq (λh2=>?_) (λh2=>?_)
   .have g0:((t.ins.get j).op==7)=true:=h0
    have g1:((t.ins.get j).a==(t.ins.get k).a)=true:=h1
    have g2:lY (t.ins.get k) (t.ins.get j)=false:=by grind
    have e1:cV t k j=true:=by grind [cV]
    rw [show tY cV t k (Int.ofNat j)=true from e1,show tI cV t k (Int.ofNat j)=jy 3 k 0 dS from by show (bif cV t k j then _ else _)=_; rw [e1]; rfl,show tv cV t k (Int.ofNat j)=lD true from by show (bif cV t k j then _ else _)=_; rw [e1]; rfl]
    exact ⟨10,aH rfl,aH rfl,rfl,rfl,bf.refl _,by repeat' (first|exact trivial|refine ⟨.inl (.inl rfl),?_⟩|refine ⟨.inr rfl,?_⟩|refine ⟨.inl (.inr ⟨_,_,_,_,_,_,_,_,_,_,rfl,rfl⟩),?_⟩|done)⟩
   .have g0:((t.ins.get j).op==7)=true:=h0
    have g1:((t.ins.get j).a==(t.ins.get k).a)=true:=h1
    have g2:lY (t.ins.get k) (t.ins.get j)=true:=by grind
    have e1:cV t k j=false:=by grind [cV]
    rw [show tY cV t k (Int.ofNat j)=false from e1,show tI cV t k (Int.ofNat j)=jy 0 0 0 dS from by show (bif cV t k j then _ else _)=_; rw [e1]; rfl,show tv cV t k (Int.ofNat j)=lD false from by show (bif cV t k j then _ else _)=_; rw [e1]; rfl]
    exact ⟨10,aH rfl,aH rfl,rfl,rfl,bf.refl _,by repeat' (first|exact trivial|refine ⟨.inl (.inl rfl),?_⟩|refine ⟨.inr rfl,?_⟩|refine ⟨.inl (.inr ⟨_,_,_,_,_,_,_,_,_,_,rfl,rfl⟩),?_⟩|done)⟩
  .have g0:((t.ins.get j).op==7)=true:=h0
   have g1:((t.ins.get j).a==(t.ins.get k).a)=false:=h1
   have e1:cV t k j=false:=by grind [cV]
   rw [show tY cV t k (Int.ofNat j)=false from e1,show tI cV t k (Int.ofNat j)=jy 0 0 0 dS from by show (bif cV t k j then _ else _)=_; rw [e1]; rfl,show tv cV t k (Int.ofNat j)=lD false from by show (bif cV t k j then _ else _)=_; rw [e1]; rfl]
   exact ⟨10,aH rfl,aH rfl,rfl,rfl,bf.refl _,by repeat' (first|exact trivial|refine ⟨.inl (.inl rfl),?_⟩|refine ⟨.inr rfl,?_⟩|refine ⟨.inl (.inr ⟨_,_,_,_,_,_,_,_,_,_,rfl,rfl⟩),?_⟩|done)⟩
 .have g0:((t.ins.get j).op==7)=false:=h0
  have e1:cV t k j=false:=by grind [cV]
  rw [show tY cV t k (Int.ofNat j)=false from e1,show tI cV t k (Int.ofNat j)=jy 0 0 0 dS from by show (bif cV t k j then _ else _)=_; rw [e1]; rfl,show tv cV t k (Int.ofNat j)=lD false from by show (bif cV t k j then _ else _)=_; rw [e1]; rfl]
  exact ⟨10,aH rfl,aH rfl,rfl,rfl,bf.refl _,by repeat' (first|exact trivial|refine ⟨.inl (.inl rfl),?_⟩|refine ⟨.inr rfl,?_⟩|refine ⟨.inl (.inr ⟨_,_,_,_,_,_,_,_,_,_,rfl,rfl⟩),?_⟩|done)⟩
theorem Ii (t:af) (k:Nat) (hk:k<t.ins.n) (hS:bk t) (kd j3 ie:Int) (v:iG) (b:Bool):ag 17 0 (cw (jk 3 k 0 dS (yj cV t k))) (ah 17 11) (vg false t k kd j3 ie v b):=by
 have c:=HC (tY cV t k) (tI cV t k) (tv cV t k) t k (.box (lift (aJ t))) (jy 0 0 0 dS) (lD false) (.box (lift (b8 (t.ins.get k)))) (jy 3 k 0 dS) .kF 17 97 (rC 55) [56,57] (pw 17) (pg 17) (λj x hj _=>ae2 t k j .kF x) (by omega) hS.ins ⟨.inl rfl,.inl rfl,.inl rfl,.inl rfl,.inl rfl,.inl rfl,.inl rfl,.inl rfl,rE rfl,trivial⟩
  (λj h=>by
   have h:cV t k j=false:=h
   exact ⟨by show (bif cV t k j then _ else _)=_; rw [h]; rfl,by show (bif cV t k j then _ else _)=_; rw [h]; rfl⟩)
  (λj=>by
   refine ⟨?_,?_⟩
   .show gK 9 (bif cV t k j then _ else _)=true
    cases cV t k j<;>rfl
   .show gK 9 (bif cV t k j then _ else _)=true
    cases cV t k j<;>rfl)
 cases hb:nh t (tY cV t k) k with
 | none=>
   rw [hb] at c
   rw [D3 hb]
   exact bt (X:=T8 true k kd j3 ie v b) (stop:=Ef) (IW _ _ true t k kd j3 ie v b ⟨bB.jm (sL t k) [] _ rfl rfl,aq (λ_=>⟨c,bf.refl _⟩) (λh=>Bool.noConfusion h)⟩)
 | some j=>
   rw [hb] at c
   rw [C8 hb]
   have lC:cV t k j=true:=mP hb
   simp only [Ow] at c
   rw [show tI cV t k (Int.ofNat j)=jy 3 k 0 dS from by show (bif cV t k j then _ else _)=_; rw [lC]; rfl,show tv cV t k (Int.ofNat j)=lD true from by show (bif cV t k j then _ else _)=_; rw [lC]; rfl] at c
   exact bt (X:=T8 false k kd j3 ie v b) (stop:=Ef) (IW _ _ false t k kd j3 ie v b ⟨bB.jm (sL t k) [] _ rfl rfl,aq (λh=>Bool.noConfusion h) (λ_=>⟨c,bf.refl _⟩)⟩)
theorem R6 (QE:D->List ae->Prop) (t:af) (k j:Nat) (r5 x:ae) (h:br ((t.2.2 j).2==(t.2.2 k).2) ((LC 32 [(.c (.im (.sl 1 5 (flat 1 [I.v (Value.int IntKind.i64 8),I.v (Value.int IntKind.i64 9),I.v (Value.int IntKind.i64 12),I.v (Value.int IntKind.i64 13),I.v (Value.int IntKind.i64 14)])))),(iF t j)] [] (bool (mb (t.2.2 j).1 { n:=5,get:=λi=>rI (flat 1 [I.v (Value.int IntKind.i64 8),I.v (Value.int IntKind.i64 9),I.v (Value.int IntKind.i64 12),I.v (Value.int IntKind.i64 13),I.v (Value.int IntKind.i64 14)] i) })) []/\br (mb (t.2.2 j).1 { n:=5,get:=λi=>rI (flat 1 [I.v (Value.int IntKind.i64 8),I.v (Value.int IntKind.i64 9),I.v (Value.int IntKind.i64 12),I.v (Value.int IntKind.i64 13),I.v (Value.int IntKind.i64 14)] i) }) (QE (bool false) [(.box (lift (aJ (t)))),(.box [(ci 3),(ci (↑k:Int)),(ci 0),(ci 0),(ci 0),(.im (.v (.string ⟨⟨[]⟩⟩)))]),(.box [(.im (.v (.bool true)))]),(.box (lift (b8 (t.2.2 k)))),(.box [(ci 3),(ci (↑k:Int)),(ci 0),(ci 0),(ci 0),(.im (.v (.string ⟨⟨[]⟩⟩)))]),(.box (lift (aJ (t)))),(.box [(ci (↑k:Int))]),r5,(.loop 17 97 [(4,((.c (.rt 1 0 0)),[])),(5,((.c (.rt 2 0 0)),[])),(6,((.c (.rt 3 0 0)),[])),(7,((.c (.rt 4 0 0)),[])),(81,((.c (.fh 54 [6,5])),[]))] [82,83] (Qx 17) (Oa 17) .done (some .ret)),x,(.box (lift (b8 (t.2.2 j)))),(.row 3 1 5 [(ci 8),(ci 9),(ci 12),(ci 13),(ci 14)])]) (QE (bool true) [(.box (lift (aJ (t)))),(.box [(ci 0),(ci 0),(ci 0),(ci 0),(ci 0),(.im (.v (.string ⟨⟨[]⟩⟩)))]),(.box [(.im (.v (.bool false)))]),(.box (lift (b8 (t.2.2 k)))),(.box [(ci 3),(ci (↑k:Int)),(ci 0),(ci 0),(ci 0),(.im (.v (.string ⟨⟨[]⟩⟩)))]),(.box (lift (aJ (t)))),(.box [(ci (↑k:Int))]),r5,(.loop 17 97 [(4,((.c (.rt 1 0 0)),[])),(5,((.c (.rt 2 0 0)),[])),(6,((.c (.rt 3 0 0)),[])),(7,((.c (.rt 4 0 0)),[])),(81,((.c (.fh 54 [6,5])),[]))] [82,83] (Qx 17) (Oa 17) .ready none),x,(.box (lift (b8 (t.2.2 j)))),(.row 3 1 5 [(ci 8),(ci 9),(ci 12),(ci 13),(ci 14)])]))) (QE (bool true) [(.box (lift (aJ (t)))),(.box [(ci 0),(ci 0),(ci 0),(ci 0),(ci 0),(.im (.v (.string ⟨⟨[]⟩⟩)))]),(.box [(.im (.v (.bool false)))]),(.box (lift (b8 (t.2.2 k)))),(.box [(ci 3),(ci (↑k:Int)),(ci 0),(ci 0),(ci 0),(.im (.v (.string ⟨⟨[]⟩⟩)))]),(.box (lift (aJ (t)))),(.box [(ci (↑k:Int))]),r5,(.loop 17 97 [(4,((.c (.rt 1 0 0)),[])),(5,((.c (.rt 2 0 0)),[])),(6,((.c (.rt 3 0 0)),[])),(7,((.c (.rt 4 0 0)),[])),(81,((.c (.fh 54 [6,5])),[]))] [82,83] (Qx 17) (Oa 17) .ready none),x,(.box (lift (b8 (t.2.2 j))))])):Xu J0 17 8 QE (Qx 17) (Oa 17) ((83,iJ (t.ins.get j),[])::(82,int j,[])::rC 81) [.box (lift (aJ t)),jy 0 0 0 dS,lD false,.box (lift (b8 (t.ins.get k))),jy 3 k 0 dS,.box (lift (aJ t)),.box [.im (iI k)],r5,.loop 17 97 (rC 81) [82,83] (Qx 17) (Oa 17) .ready none,x]:=km h
theorem Zc (t:af) (k j:Nat) (r5 x:ae):lW lE Try.prog 8 [int j,iJ (t.ins.get j)] [.box (lift (aJ t)),jy 0 0 0 dS,lD false,.box (lift (b8 (t.ins.get k))),jy 3 k 0 dS,.box (lift (aJ t)),.box [.im (iI k)],r5,.loop 17 97 (rC 81) [82,83] (Qx 17) (Oa 17) .ready none,x] (bool (!tY dx t k (Int.ofNat j))) [.box (lift (aJ t)),tI dx t k (Int.ofNat j),tv dx t k (Int.ofNat j),.box (lift (b8 (t.ins.get k))),jy 3 k 0 dS,.box (lift (aJ t)),.box [.im (iI k)],r5,.loop 17 97 (rC 81) [82,83] (Qx 17) (Oa 17) (bif !tY dx t k (Int.ofNat j) then .ready else .done) (bif !tY dx t k (Int.ofNat j) then none else some .ret),x]:=by
 refine LX (X:=J0) (f:=17) (vf:=rC 81) (zN:=((83,iJ (t.ins.get j),[])::(82,int j,[])::rC 81)) (ps:=[82,83]) (Qx 17) (Oa 17) (by kernel_rfl) (by kernel_rfl) (R6 _ t k j r5 x ?_)
 refine aq (λh0=>?_) (λh0=>?_)
 .refine ⟨Xv _,?_⟩
  refine aq (λh1=>?_) (λh1=>?_)
  .have g0:((t.ins.get j).a==(t.ins.get k).a)=true:=h0
   have g1:(mb (t.ins.get j).op q5)=true:=h1
   have e1:dx t k j=true:=by grind [dx]
   rw [show tY dx t k (Int.ofNat j)=true from e1,show tI dx t k (Int.ofNat j)=jy 3 k 0 dS from by show (bif dx t k j then _ else _)=_; rw [e1]; rfl,show tv dx t k (Int.ofNat j)=lD true from by show (bif dx t k j then _ else _)=_; rw [e1]; rfl]
   exact ⟨10,aH rfl,aH rfl,rfl,rfl,bf.refl _,by repeat' (first|exact trivial|refine ⟨.inl (.inl rfl),?_⟩|refine ⟨.inr rfl,?_⟩|refine ⟨.inl (.inr ⟨_,_,_,_,_,_,_,_,_,_,rfl,rfl⟩),?_⟩|done)⟩
  .have g0:((t.ins.get j).a==(t.ins.get k).a)=true:=h0
   have g1:(mb (t.ins.get j).op q5)=false:=h1
   have e1:dx t k j=false:=by grind [dx]
   rw [show tY dx t k (Int.ofNat j)=false from e1,show tI dx t k (Int.ofNat j)=jy 0 0 0 dS from by show (bif dx t k j then _ else _)=_; rw [e1]; rfl,show tv dx t k (Int.ofNat j)=lD false from by show (bif dx t k j then _ else _)=_; rw [e1]; rfl]
   exact ⟨10,aH rfl,aH rfl,rfl,rfl,bf.refl _,by repeat' (first|exact trivial|refine ⟨.inl (.inl rfl),?_⟩|refine ⟨.inr rfl,?_⟩|refine ⟨.inl (.inr ⟨_,_,_,_,_,_,_,_,_,_,rfl,rfl⟩),?_⟩|done)⟩
 .have g0:((t.ins.get j).a==(t.ins.get k).a)=false:=h0
  have e1:dx t k j=false:=by grind [dx]
  rw [show tY dx t k (Int.ofNat j)=false from e1,show tI dx t k (Int.ofNat j)=jy 0 0 0 dS from by show (bif dx t k j then _ else _)=_; rw [e1]; rfl,show tv dx t k (Int.ofNat j)=lD false from by show (bif dx t k j then _ else _)=_; rw [e1]; rfl]
  exact ⟨10,aH rfl,aH rfl,rfl,rfl,bf.refl _,by repeat' (first|exact trivial|refine ⟨.inl (.inl rfl),?_⟩|refine ⟨.inr rfl,?_⟩|refine ⟨.inl (.inr ⟨_,_,_,_,_,_,_,_,_,_,rfl,rfl⟩),?_⟩|done)⟩
theorem RO (t:af) (k:Nat) (hk:k<t.ins.n) (hS:bk t) (kd j3 ie:Int) (v:iG) (b:Bool):ag 17 0 (cw (jk 3 k 0 dS (yj dx t k))) (ah 17 16) (Cq false t k kd j3 ie v b):=by
 have c:=HC (tY dx t k) (tI dx t k) (tv dx t k) t k (.box (lift (aJ t))) (jy 0 0 0 dS) (lD false) (.box (lift (b8 (t.ins.get k)))) (jy 3 k 0 dS) .kF 17 97 (rC 81) [82,83] (Qx 17) (Oa 17) (λj x hj _=>Zc t k j .kF x) (by omega) hS.ins ⟨.inl rfl,.inl rfl,.inl rfl,.inl rfl,.inl rfl,.inl rfl,.inl rfl,.inl rfl,rE rfl,trivial⟩
  (λj h=>by
   have h:dx t k j=false:=h
   exact ⟨by show (bif dx t k j then _ else _)=_; rw [h]; rfl,by show (bif dx t k j then _ else _)=_; rw [h]; rfl⟩)
  (λj=>by
   refine ⟨?_,?_⟩
   .show gK 9 (bif dx t k j then _ else _)=true
    cases dx t k j<;>rfl
   .show gK 9 (bif dx t k j then _ else _)=true
    cases dx t k j<;>rfl)
 cases hb:nh t (tY dx t k) k with
 | none=>
   rw [hb] at c
   rw [D3 hb]
   exact bt (X:=T8 true k kd j3 ie v b) (stop:=Ef) (I2 _ _ true t k kd j3 ie v b ⟨bB.jm (sL t k) [] _ rfl rfl,aq (λ_=>⟨c,bf.refl _⟩) (λh=>Bool.noConfusion h)⟩)
 | some j=>
   rw [hb] at c
   rw [C8 hb]
   have lC:dx t k j=true:=mP hb
   simp only [Ow] at c
   rw [show tI dx t k (Int.ofNat j)=jy 3 k 0 dS from by show (bif dx t k j then _ else _)=_; rw [lC]; rfl,show tv dx t k (Int.ofNat j)=lD true from by show (bif dx t k j then _ else _)=_; rw [lC]; rfl] at c
   exact bt (X:=T8 false k kd j3 ie v b) (stop:=Ef) (I2 _ _ false t k kd j3 ie v b ⟨bB.jm (sL t k) [] _ rfl rfl,aq (λh=>Bool.noConfusion h) (λ_=>⟨c,bf.refl _⟩)⟩)
theorem Zd (t:af) (k:Nat) (hk:k<t.ins.n) (hS:bk t) (hm:oC t) (ha:(t.ins.get k).op=10->dm (t.ins.get k).a t.ins.n=true) (ha7:(t.ins.get k).op=7->dm (t.ins.get k).a t.ins.n=true):LC 17 [bH t,int k] [] (rT t k) []:=by
 obtain ⟨kd,j3,ie,v,b,hd⟩:=Ni t k
 have h99:LC 29 [bH t,int k] [] (jk kd j3 ie v b) []:=hd▸ad4 t k hk hS hm ha
 refine pv (X:=T8 false k kd j3 ie v b) (stop:=Ef) am4 (as5 _ _ false t k kd j3 ie v b ?_)
 refine ay (by first|exact aP hk|exact ha7 (eq_of_beq h2)) ?_
 refine aq (λh0=>?_) (λh0=>?_)
 .have g0:((t.ins.get k).once)=true:=h0
  have e:rT t k=jk 3 k 0 dS false:=by grind [rT]
  rw [e]
  exact bf.refl _
 .refine ⟨v8 _,?_⟩
  refine aq (λh1=>?_) (λh1=>?_)
  .refine ⟨h99,?_⟩
   have g0:((t.ins.get k).once)=false:=h0
   have g1:(iK (t.ins.get k).op)=true:=h1
   have e:rT t k=Gy t k:=by grind [rT]
   rw [e,hd]
   exact bf.refl _
  .refine aq (λh2=>?_) (λh2=>?_)
   .refine ay (by grind) ?_
    refine aq (λh3=>?_) (λh3=>?_)
    .refine ⟨Hj _ _,?_⟩
     refine aq (λh4=>?_) (λh4=>?_)
     .have g0:((t.ins.get k).once)=false:=h0
      have g1:(iK (t.ins.get k).op)=false:=h1
      have g2:((t.ins.get k).op==7)=true:=h2
      have g3:((t.ins.get (t.ins.get k).a.toNat).op==16)=true:=h3
      have g4:(!lY (t.ins.get (t.ins.get k).a.toNat) (t.ins.get k))=true:=h4
      have e:rT t k=jk 3 k 0 dS true:=by grind [rT]
      rw [e]
      exact bf.refl _
     .have g0:((t.ins.get k).once)=false:=h0
      have g1:(iK (t.ins.get k).op)=false:=h1
      have g2:((t.ins.get k).op==7)=true:=h2
      have g3:((t.ins.get (t.ins.get k).a.toNat).op==16)=true:=h3
      have g4:(!lY (t.ins.get (t.ins.get k).a.toNat) (t.ins.get k))=false:=h4
      have e:rT t k=jk 3 k 0 dS (yj cV t k):=by grind [rT]
      rw [e]
      exact ag.rename [0,1,2,3,4] rfl (ag.lr (vg false t k kd j3 ie v b) (Ii t k hk hS kd j3 ie v b))
    .have g0:((t.ins.get k).once)=false:=h0
     have g1:(iK (t.ins.get k).op)=false:=h1
     have g2:((t.ins.get k).op==7)=true:=h2
     have g3:((t.ins.get (t.ins.get k).a.toNat).op==16)=false:=h3
     have e:rT t k=jk 3 k 0 dS (yj cV t k):=by grind [rT]
     rw [e]
     exact ag.rename [0,1,2,3,4] rfl (ag.lr (vg false t k kd j3 ie v b) (Ii t k hk hS kd j3 ie v b))
   .refine aq (λh3=>?_) (λh3=>?_)
    .have g0:((t.ins.get k).once)=false:=h0
     have g1:(iK (t.ins.get k).op)=false:=h1
     have g2:((t.ins.get k).op==7)=false:=h2
     have g3:((t.ins.get k).op==8)=true:=h3
     have e:rT t k=jk 3 k 0 dS (yj dx t k):=by grind [rT]
     rw [e]
     exact ag.rename [0,1,2,3,4] rfl (ag.lr (Cq false t k kd j3 ie v b) (RO t k hk hS kd j3 ie v b))
    .have g0:((t.ins.get k).once)=false:=h0
     have g1:(iK (t.ins.get k).op)=false:=h1
     have g2:((t.ins.get k).op==7)=false:=h2
     have g3:((t.ins.get k).op==8)=false:=h3
     have e:rT t k=jk 3 k 0 dS false:=by grind [rT]
     rw [e]
     exact bf.refl _
open Go Go.V
section
structure gm where
 kd:Int
 pos:Int
 src:Int
 v:iG
def EE (r:gm) (b:Bool):D:=jk r.kd r.pos r.src r.v b
def Fk (d:D):gm×Bool:=match d with
 | .t [(true,[c0,c1,c2,c3,c4,c5]),(false,[c6])]=>(⟨bX (cI c0),bX (cI c1),bX (cI c2),⟨bX (cI c3),bX (cI c4),SC (cI c5)⟩⟩,Vc (cI c6))
 | _=>(⟨0,0,0,dS⟩,false)
def iD (u:af) (r:gm):af:=
 bif r.kd==1 then uT u (iH u.ins r.pos.toNat (jH (u.ins.get r.pos.toNat).once)).get u.aa.get else
 bif r.kd==2 then uT u (iH (aN (fB r.pos r.src) u.ins u.ins.n) r.pos.toNat dN).get (aN (gx r.pos r.src) u.aa u.aa.n).get else
 uT u (iH u.ins r.pos.toNat dN).get u.aa.get
end
structure Inv (n:Nat) (u:af):Prop where
 small:bk u
 ok:bM u=0
 num:∀ k,k<u.ins.n->(u.ins.get k).n<=9223372036854775807
 n:u.ins.n=n
theorem Inv.right {n:Nat} {u:af} (h:Inv n u):ot u=0:=by rw [<- qZ u h.num]; exact h.ok
theorem Inv.mem {n:Nat} {u:af} (h:Inv n u):oC u:=Kb h.right
theorem Inv.ins {n:Nat} {u:af} (h:Inv n u) {k:Nat} (hk:k<n):qj u k=true:=zp h.right k (by rw [h.n]; exact hk)
theorem Inv.used {n:Nat} {u:af} (h:Inv n u) {k j:Nat} (hk:k<n) (hj:j<(aV (u.ins.get k)).n):∃ i:Nat,(aV (u.ins.get k)).get j=(i:Int)/\i<k/\wK (u.ins.get i).op=true/\((u.ins.get i).op==17)=false:=by
 have h1:=h.ins hk
 grind [qj,LI,e7,u16,eW]
theorem Zp {x:ak} {c:Int} (h:x.op=c) (h1:fV c=1) (h2:(c==20)=false):(aV x).n=1/\(aV x).get 0=x.a:=by
 unfold aV
 grind
theorem YW {x:ak} {c:Int} (h:x.op=c) (h1:fV c=2) (h2:(c==20)=false):(aV x).n=2/\(aV x).get 1=x.b:=by
 unfold aV
 grind
theorem YY {x:ak} {c:Int} (h:x.op=c) (h1:fV c=3) (h2:(c==20)=false):(aV x).n=3/\(aV x).get 2=x.c:=by
 unfold aV
 grind
theorem Y1 (op:Int) (h:wK op=true):eV op [1,2,3,4,10,12,14,16,17]=true:=by rw [Tm]; exact h
theorem qh {u:af} (hS:bk u) {k:Nat} {x:ak} (h1:x.args.n<=1000) (h2:x.names.n<=1000) (h3:x.k.s.size<=1000) {s:Sq ak} {es:Sq ai} (hn:s.n=u.ins.n) (hm:es.n=u.aa.n) (hs:∀ i,i<u.ins.n->(s.get i).args.n<=1000/\(s.get i).names.n<=1000/\(s.get i).k.s.size<=1000) (he:∀ i,i<u.aa.n->jd (es.get i)):bk (uT u (iH s k x).get es.get):=by
 refine ⟨hS.ins,hS.aa,λi hi=>?_,λi hi=>?_,λi hi=>?_,he⟩
 .show (bif Nat.beq i k then x else s.get i).args.n<=1000
  cases Nat.beq i k with
  | true=>exact h1
  | false=>exact (hs i hi).1
 .show (bif Nat.beq i k then x else s.get i).names.n<=1000
  cases Nat.beq i k with
  | true=>exact h2
  | false=>exact (hs i hi).2.1
 .show (bif Nat.beq i k then x else s.get i).k.s.size<=1000
  cases Nat.beq i k with
  | true=>exact h3
  | false=>exact (hs i hi).2.2
theorem lO {α:Type} {f:α->α} {P:α->Prop} {s:Sq α} {m:Nat} (h:∀ i,i<s.n->P (s.get i)) (hf:∀ x,P x->P (f x)):∀ i,i<s.n->P ((aN f s m).get i):=by
 intro i hi
 show P (bif Nat.blt i m then f (s.get i) else s.get i)
 grind
theorem JR {a b:Int} {e:ai} (h:jd e):jd (gx a b e):=
 ⟨h.frames,lO (P:=λx:cA=>x.vars.n<=1000) h.vars λ_ q=>q,h.aC,lO (P:=λx:dh=>x.names.n<=1000) h.names λ_ q=>q,lO (P:=λx:dh=>x.items.n<=1000) h.items λ_ q=>q⟩
theorem zt {u:af} (hS:bk u) (r:gm):bk (iD u r):=by
 have h0:∀ i,i<u.ins.n->(u.ins.get i).args.n<=1000/\(u.ins.get i).names.n<=1000/\(u.ins.get i).k.s.size<=1000:=λi hi=>⟨hS.args i hi,hS.names i hi,hS.str i hi⟩
 unfold iD
 cases r.kd==1 with
 | true=>exact qh hS (bn _) (bn _) (bn _) rfl rfl h0 hS.ex
 | false=>cases r.kd==2 with
   | true=>exact qh hS (bn _) (bn _) (bn _) (s:=aN (fB r.pos r.src) u.ins u.ins.n) (es:=aN (gx r.pos r.src) u.aa u.aa.n) rfl rfl (lO (P:=λx:ak=>x.args.n<=1000/\x.names.n<=1000/\x.k.s.size<=1000) h0 λ_ q=>q) (lO hS.ex λ_ q=>JR q)
   | false=>exact qh hS (bn _) (bn _) (bn _) rfl rfl h0 hS.ex
theorem Ce {u:af} (h:∀ k,k<u.ins.n->(u.ins.get k).n<=9223372036854775807) (r:gm):∀ k,k<u.ins.n->((iD u r).ins.get k).n<=9223372036854775807:=by
 have up:∀ {s:Sq ak} {p:Nat} {x:ak},x.n=0->(∀ k,k<u.ins.n->(s.get k).n<=9223372036854775807)->∀ k,k<u.ins.n->((iH s p x).get k).n<=9223372036854775807:=λ{s p x} hx hs k hk=>by
  show (bif Nat.beq k p then x else s.get k).n<=_
  grind
 unfold iD
 cases r.kd==1 with
 | true=>exact up rfl h
 | false=>cases r.kd==2 with
   | true=>exact up rfl (lO (P:=λx:ak=>x.n<=9223372036854775807) h λ_ q=>q)
   | false=>exact up rfl h
theorem CY (u:af) (r:gm):(iD u r).ins.n=u.ins.n:=by
 unfold iD
 cases r.kd==1 with
 | true=>rfl
 | false=>cases r.kd==2<;>rfl
theorem Inv.next {n:Nat} {u:af} (h:Inv n u) {r:gm} (h0:bM (iD u r)=0):Inv n (iD u r):=
 ⟨zt h.small r,h0,λk hk=>Ce h.num r k (by rw [CY] at hk; exact hk),by rw [CY]; exact h.n⟩
def Fit (u:af) (k:Nat) (r:gm):Prop:=
 (r=⟨3,(k:Int),0,dS⟩/\((u.ins.get k).op=7∨(u.ins.get k).op=8∨(u.ins.get k).op=11∨(u.ins.get k).op=13)) ∨
 (r=⟨1,(k:Int),0,BT⟩/\(u.ins.get k).op=10) ∨
 ∃ j:Nat,r=⟨2,(k:Int),(j:Int),dS⟩/\j<k/\iK (u.ins.get k).op=true/\wK (u.ins.get j).op=true/\((u.ins.get j).op==17)=false
theorem B6 {op:Int} (h:iK op=true):op=10∨op=12:=by
 grind [iK]
theorem Fit.rewrite {n:Nat} {u:af} (hI:Inv n u) {k:Nat} (hk:k<n) {r:gm} (h:Fit u k r):LC 19 [bH u,EP r.kd r.pos r.src r.v] [] (LD (iD u r)) []:=by
 have hk:k<u.ins.n:=by rw [hI.n]; exact hk
 have hs:=zt hI.small r
 rcases h with ⟨rfl,ho⟩|⟨rfl,ho⟩|⟨j,rfl,hj,h1,h2,h3⟩
 .exact Qi u _ _ 3 k 0 dS hI.small hk hI.ok hs (WJ u k hk hI.small ho)
 .exact Qi u _ _ 1 k 0 BT hI.small hk hI.ok hs (Vp u k hk hI.small ho)
 .have h4:=B6 h1
  exact Qi u _ _ 2 k j dS hI.small hk hI.ok hs (W4 u k hk hI.small j hj (by rcases h4 with e|e<;>rw [e]<;>rfl) (Y1 _ h2) (by grind) h3 (by grind))
open Go Go.V
theorem CM {t:af} {cE:Int->Bool} {j:Nat}:∀ {k:Nat},nh t cE k=some j->j<k
 | 0,h=>by cases h
 | k+1,h=>by
   unfold nh at h
   cases h0 : !(t.ins.get k).once with
   | false=>rw [h0] at h; exact Nat.lt_succ_of_lt (CM h)
   | true=>
     cases h1:cE (Int.ofNat k) with
     | false=>rw [h0,h1] at h; exact Nat.lt_succ_of_lt (CM h)
     | true=>
       grind
theorem oT {op:Int} (h:dE op=true):op=11∨op=13:=by
 grind [dE]
theorem VQ {n:Nat} {u:af} (hI:Inv n u) {k:Nat} (hk:k<n) (Q9:iK (u.ins.get k).op=true):∃ r b,Gy u k=EE r b/\(b=true->Fit u k r):=by
 unfold Gy
 cases hb:nh u (tN u k) k with
 | none=>
   refine ⟨⟨1,k,0,BT⟩,sR u k,rfl,λh=>.inr (.inl ⟨rfl,?_⟩)⟩
   grind [sR]
 | some j=>
   have hj:=CM hb
   have hs:fT u k j=true:=mP hb
   refine ⟨⟨(jj u k j).1,(jj u k j).2.1,(jj u k j).2.2.1,dS⟩,(jj u k j).2.2.2,rfl,λh=>.inr (.inr ?_)⟩
   unfold jj at h ⊢
   cases h2:cp u j k==2 with
   | false=>rw [h2] at h; cases h
   | true=>
     simp only [cond_true]
     cases h3:iK (u.ins.get j).op with
     | true=>
       simp only [cond_true]
       exact ⟨j,rfl,hj,Q9,by rcases B6 h3 with e|e<;>rw [e]<;>rfl,by rcases B6 h3 with e|e<;>rw [e]<;>rfl⟩
     | false=>
       simp only [cond_false]
       have h4:dE (u.ins.get j).op=true:=by
        grind [fT]
       cases h5:(u.ins.get j).op==11 with
       | true=>
         simp only [cond_true]
         obtain ⟨q1,q2⟩:=YW (eq_of_beq h5) rfl rfl
         obtain ⟨i,g1,g2,g3,g4⟩:=hI.used (k:=j) (j:=1) (by omega) (by rw [q1]; omega)
         grind
       | false=>
         simp only [cond_false]
         have h6:(u.ins.get j).op=13:=by
          grind [oT]
         obtain ⟨q1,q2⟩:=YY h6 rfl rfl
         obtain ⟨i,g1,g2,g3,g4⟩:=hI.used (k:=j) (j:=2) (by omega) (by rw [q1]; omega)
         grind
theorem PV {n:Nat} {u:af} (hI:Inv n u) {k:Nat} (hk:k<n):∃ r b,rT u k=EE r b/\(b=true->Fit u k r):=by
 unfold rT
 have no:∃ r b,jk 3 k 0 dS false=EE r b/\(b=true->Fit u k r):=⟨⟨3,k,0,dS⟩,false,rfl,λh=>by cases h⟩
 cases (u.ins.get k).once with
 | true=>exact no
 | false=>
   simp only [cond_false]
   cases h1:iK (u.ins.get k).op with
   | true=>exact VQ hI hk h1
   | false=>
     simp only [cond_false]
     cases h2:(u.ins.get k).op==7 with
     | true=>
       have yes:∀ b,∃ r b',jk 3 k 0 dS b=EE r b'/\(b'=true->Fit u k r):=λb=>⟨⟨3,k,0,dS⟩,b,rfl,λ_=>.inl ⟨rfl,.inl (eq_of_beq h2)⟩⟩
       simp only [cond_true]
       cases (u.ins.get (u.ins.get k).a.toNat).op==16 with
       | true=>
         simp only [cond_true]
         cases !lY (u.ins.get (u.ins.get k).a.toNat) (u.ins.get k) with
         | true=>exact yes _
         | false=>exact yes _
       | false=>exact yes _
     | false=>
       simp only [cond_false]
       cases h3:(u.ins.get k).op==8 with
       | true=>exact ⟨⟨3,k,0,dS⟩,yj dx u k,rfl,λ_=>.inl ⟨rfl,.inr (.inl (eq_of_beq h3))⟩⟩
       | false=>exact no
theorem Inv.ah7 {n:Nat} {u:af} (hI:Inv n u) {k:Nat} (hk:k<n) {c:Int} (h:(u.ins.get k).op=c) (h1:fV c=1) (h2:(c==20)=false):dm (u.ins.get k).a u.ins.n=true:=by
 obtain ⟨q1,q2⟩:=Zp h h1 h2
 obtain ⟨i,g1,g2,_,_⟩:=hI.used (k:=k) (j:=0) hk (by rw [q1]; omega)
 rw [q2] at g1
 rw [g1]
 exact aP (by rw [hI.n]; omega)
theorem ab7 {n:Nat} {u:af} (hI:Inv n u) {k:Nat} (hk:k<n):∃ r b,Fk (rT u k)=(r,b)/\LC 17 [bH u,int k] [] (EE r b) []/\(b=true->Fit u k r):=by
 obtain ⟨r,b,h1,h2⟩:=PV hI hk
 refine ⟨r,b,by rw [h1]; rfl,?_,h2⟩
 rw [<- h1]
 exact Zd u k (by rw [hI.n]; exact hk) hI.small hI.mem (λh=>hI.ah7 hk h rfl rfl) (λh=>hI.ah7 hk h rfl rfl)
theorem Y2 {n:Nat} {u:af} (hI:Inv n u) {k:Nat} (hk:k<n):LC 18 [bH u,int k] [] (EE ⟨3,k,0,dS⟩ (ec u k)) []/\(ec u k=true->Fit u k ⟨3,k,0,dS⟩):=by
 refine ⟨ag2 u k (by rw [hI.n]; exact hk) hI.small hI.mem,λh=>.inl ⟨rfl,?_⟩⟩
 grind [ec,oT]
open Go Go.V
structure Lh (σ:Int->Int) (x x':ak):Prop where
 op:x'.op=x.op
 LN:aY x=true->aY x'=true
 un:(aV x').n=(aV x).n
 ug:∀ j,j<(aV x).n->(aV x').get j=σ ((aV x).get j)
 once:x'.once=x.once
 exit:x'.exit=x.exit
 k:x'.k=x.k
 n:x'.n=x.n
 names:x'.names=x.names
 args:x'.args.n=x.args.n
theorem Lh.refl (x:ak):Lh id x x:=⟨rfl,id,rfl,λ_ _=>rfl,rfl,rfl,rfl,rfl,rfl,rfl⟩
structure zi (σ:Int->Int) (e e':ai):Prop where
 fn:e'.frames.n=e.frames.n
 back:e'.back=e.back
 aC:e'.aC.n=e.aC.n
 fr:∀ j,j<e.frames.n->(e'.frames.get j).fn=(e.frames.get j).fn/\(e'.frames.get j).line=(e.frames.get j).line/\(e'.frames.get j).vars.n=(e.frames.get j).vars.n/\∀ i,i<(e.frames.get j).vars.n->(e'.frames.get j).vars.get i=σ ((e.frames.get j).vars.get i)
theorem zi.refl (e:ai):zi id e e:=⟨rfl,rfl,rfl,λ_ _=>⟨rfl,rfl,rfl,λ_ _=>rfl⟩⟩
structure Wo (x:ak):Prop where
 op1:x.op≠1
 ax0:x.op≠20
 ends:ib x=false
 LN:aY x=true
 use:(aV x).n=0
 once:x.once=false
 exit:x.exit = -1
 lv:eX x.op≠2
 UI:RD x
theorem bO.trans {t t':af} {P k:Nat} (h:bO t P) (hk:k<t.ins.n) (hP:P<=k) (he:ib (t.ins.get k)=false) (σ:Int->Int) (hm:σ (-1) = -1) (hv:∀ v m,m<=t.ins.n->fN t.ins v m->fN t'.ins (σ v) m)
  (hp:t'.place=t.place) (hn:t'.ins.n=t.ins.n) (hx:t'.aa.n=t.aa.n) (hi:∀ i,i<t.ins.n->i≠k->Lh σ (t.ins.get i) (t'.ins.get i)) (hg:Wo (t'.ins.get k)) (hE:∀ e,e<t.aa.n->zi σ (t.aa.get e) (t'.aa.get e)):bO t' P:=by
 refine ⟨by rw [hn]; exact h.n200,by rw [hx]; exact h.n60,by rw [hn]; exact h.n0,by rw [hp]; exact h.fn,by rw [hp]; exact h.line,by rw [hn]; exact h.pn,λi gI=>?_,λi gI=>?_,λi gI=>?_⟩
 all_goals
  rw [hn] at gI
 .by_cases e:i=k
  .subst e
   exact ⟨λq=>absurd q (by omega),λ_=>hg.op1,hg.LN,λj hj=>absurd (hg.use▸hj) (Nat.not_lt_zero j),hg.once,.inl ⟨hg.exit,hg.lv⟩,hg.UI⟩
  .have q:=h.all i gI
   have L:=hi i gI e
   refine ⟨by rw [L.op,L.k]; exact q.DO,by rw [L.op]; exact q.O6,L.LN q.LN,λj hj=>?_,by rw [L.once]; exact q.once,?_,?_⟩
   .rw [L.un] at hj
    rw [L.ug j hj]
    exact hv _ _ (by omega) (q.use j hj)
   .rw [L.exit,L.op]
    refine q.exi.imp id ?_
    rintro ⟨e',q1,q2,q3,q4,q5⟩
    have LE:=hE e' q2
    refine ⟨e',q1,by rw [hx]; exact q2,q3,⟨by rw [LE.fn]; exact q4.f0,by rw [LE.fn]; exact q4.f6,by rw [LE.back]; exact q4.back,by rw [LE.aC]; exact q4.aC,λj hj=>?_⟩,λj hj=>?_⟩
    .rw [LE.fn] at hj
     obtain ⟨a1,a2,a3,a4⟩:=LE.fr j hj
     obtain ⟨b1,b2,b3,b4⟩:=q4.fr j hj
     refine ⟨by rw [a1]; exact b1,by rw [a2]; exact b2,by rw [a3]; exact b3,λw hw=>?_⟩
     rw [a3] at hw
     rw [a4 w hw]
     rcases b4 w hw with c|c
     .left; rw [c,hm]
     .right; exact hv _ _ (by omega) c
    .by_cases ej:j=k
     .subst ej
      rw [hg.exit]; omega
     .rw [(hi j (by omega) ej).exit]
      exact q5 j hj
   .intro hs
    rw [L.op] at hs
    rw [L.n,L.names]
    exact q.UI hs
 .by_cases e:i=k
  .subst e
   rw [hg.ends,hn,<- h.ends i gI,he]
  .rw [hn,<- h.ends i gI]
   unfold ib
   rw [(hi i gI e).op]
 .by_cases e:i=k
  .subst e
   exact λq=>absurd q hg.ax0
  .rw [(hi i gI e).op,(hi i gI e).args]
   exact h.loop i gI
theorem DE {a b v:Int} (h:v≠a):sw a b v=v:=by
 unfold sw
 rw [beq_false_of_ne h]; rfl
theorem Tn (a b:Int) (x:ak) (hn:x.n<=9223372036854775807):Lh (sw a b) x (fB a b x):=by
 have hm:=jW x.op
 refine ⟨rfl,λh=>?_,?_,λj hj=>?_,rfl,rfl,rfl,rfl,rfl,rfl⟩
 .rw [jo _ hn] at h
  rw [jo _ (show (fB a b x).n<=_ from hn)]
  unfold a8 at h ⊢
  rw [di,di] at h
  obtain ⟨h1,h2,h3⟩:=h
  rw [di,di]
  refine ⟨h1,?_,h3⟩
  unfold nB at h2 ⊢
  unfold fB nz
  rcases hm with e|e|e|e<;>rw [e] at h2 ⊢<;>simp at h2 ⊢<;>exact h2
 .unfold aV fB nz
  cases x.op==20<;>rfl
 .unfold aV at hj ⊢
  unfold fB nz
  cases ho:x.op==20 with
  | true=>
    rw [ho] at hj
    have hj:j<x.args.n:=hj
    show (bif Nat.blt j x.args.n then sw a b (x.args.get j) else x.args.get j)=_
    rw [da hj]; rfl
  | false=>
    rw [ho] at hj
    have hj:j<(fV x.op).toNat:=hj
    simp only [cond_false]
    rcases hm with e|e|e|e
    .rw [e] at hj; exact absurd hj (Nat.not_lt_zero j)
    .rw [e] at hj ⊢
     have hj:j<1:=hj
     match j,hj with
     | 0,_=>rfl
    .rw [e] at hj ⊢
     have hj:j<2:=hj
     match j,hj with
     | 0,_=>rfl
     | 1,_=>rfl
    .rw [e] at hj ⊢
     have hj:j<3:=hj
     match j,hj with
     | 0,_=>rfl
     | 1,_=>rfl
     | 2,_=>rfl
theorem su {α:Type} {f:α->α} {s:Sq α} {m i:Nat} (h:i<m):(aN f s m).get i=f (s.get i):=by
 show (bif Nat.blt i m then _ else _)=_
 rw [da h]; rfl
theorem MJ (a b:Int) (e:ai):zi (sw a b) e (gx a b e):=
 ⟨rfl,rfl,rfl,λj hj=>by
  have e1:(gx a b e).frames.get j=K5 a b (e.frames.get j):=su hj
  rw [e1]
  refine ⟨rfl,rfl,rfl,λi hi=>?_⟩
  show (bif Nat.blt i (e.frames.get j).vars.n then sw a b ((e.frames.get j).vars.get i) else _)=_
  rw [da hi]; rfl⟩
theorem kT {s:Sq ak} {k:Nat} {x:ak}:(iH s k x).get k=x:=by
 show (bif Nat.beq k k then x else _)=_
 rw [gu]; rfl
theorem gh {s:Sq ak} {k i:Nat} {x:ak} (h:i≠k):(iH s k x).get i=s.get i:=by
 show (bif Nat.beq i k then x else _)=_
 rw [Co h]; rfl
theorem Ix:Wo dN:=⟨by decide,by decide,rfl,by rw [jo _ (by decide)]; rfl,rfl,rfl,rfl,by decide,lT rfl rfl⟩
theorem Nt:Wo (jH false):=⟨by decide,by decide,rfl,by rw [jo _ (by decide)]; kernel_rfl,rfl,rfl,rfl,by decide,lT rfl rfl⟩
def uM (op:Int):Prop:=op=7∨op=8∨op=10∨op=11∨op=12∨op=13
theorem uM.ends {x:ak} (h:uM x.op):ib x=false:=by
 unfold ib
 rcases h with e|e|e|e|e|e<;>rw [e]<;>rfl
theorem bO.le {t:af} {P k:Nat} (h:bO t P) (hk:k<t.ins.n) (ho:(t.ins.get k).op≠1):P<=k:=by
 by_cases hc:P<=k
 .exact hc
 .exact absurd ((h.all k hk).DO (by omega)).1 ho
theorem uM.one {op:Int} (h:uM op):op≠1:=by
 rcases h with e|e|e|e|e|e<;>rw [e]<;>decide
theorem Fit.ZL {u:af} {k:Nat} {r:gm} (h:Fit u k r):uM (u.ins.get k).op:=by
 rcases h with ⟨_,h⟩|⟨_,h⟩|⟨j,_,_,h,_⟩
 .rcases h with e|e|e|e<;>rw [e]<;>simp [uM]
 .rw [h]; simp [uM]
 .rcases B6 h with e|e<;>rw [e]<;>simp [uM]
theorem bO.fit {u:af} {P k:Nat} (h:bO u P) (hn:∀ k,k<u.ins.n->(u.ins.get k).n<=9223372036854775807) (hk:k<u.ins.n) {r:gm} (hf:Fit u k r):bO (iD u r) P:=by
 have m6:=hf.ZL
 have hP:=h.le hk m6.one
 have ho:=(h.all k hk).once
 rcases hf with ⟨rfl,hop⟩|⟨rfl,hop⟩|⟨j,rfl,hj,h1,h2,h3⟩
 .have e:iD u ⟨3,(k:Int),0,dS⟩=⟨u.place,iH u.ins k dN,u.aa⟩:=rfl
  rw [e]
  refine h.trans hk hP m6.ends id rfl (λv m _ q=>?_) rfl rfl rfl (λi _ hi=>by rw [show (iH u.ins k dN).get i=u.ins.get i from gh hi]; exact Lh.refl _) (by rw [show (iH u.ins k dN).get k=dN from kT]; exact Ix) (λe _=>zi.refl _)
  obtain ⟨i,q1,q2,q3,q4⟩:=q
  have hi:i≠k:=λe=>by
   subst e
   rcases hop with w|w|w|w<;>rw [w] at q3<;>exact absurd q3 (by decide)
  exact ⟨i,q1,q2,by rw [gh hi]; exact q3,by rw [gh hi]; exact q4⟩
 .have e:iD u ⟨1,(k:Int),0,BT⟩=⟨u.place,iH u.ins k (jH (u.ins.get k).once),u.aa⟩:=rfl
  rw [e,ho]
  refine h.trans hk hP m6.ends id rfl (λv m _ q=>?_) rfl rfl rfl (λi _ hi=>by rw [show (iH u.ins k (jH false)).get i=u.ins.get i from gh hi]; exact Lh.refl _) (by rw [show (iH u.ins k (jH false)).get k=jH false from kT]; exact Nt) (λe _=>zi.refl _)
  obtain ⟨i,q1,q2,q3,q4⟩:=q
  by_cases hi:i=k
  .subst hi
   exact ⟨i,q1,q2,by rw [kT]; rfl,by rw [kT]; rfl⟩
  .exact ⟨i,q1,q2,by rw [gh hi]; exact q3,by rw [gh hi]; exact q4⟩
 .have e:iD u ⟨2,(k:Int),(j:Int),dS⟩=⟨u.place,iH (aN (fB k j) u.ins u.ins.n) k dN,aN (gx k j) u.aa u.aa.n⟩:=rfl
  rw [e]
  have gi:∀ i,i<u.ins.n->i≠k->(iH (aN (fB k j) u.ins u.ins.n) k dN).get i=fB k j (u.ins.get i):=λi h1 h2=>by rw [gh h2,su h1]
  refine h.trans hk hP m6.ends (sw k j) (DE (by omega)) (λv m hm q=>?_) rfl rfl rfl (λi hi CA=>by rw [gi i hi CA]; exact Tn _ _ _ (hn i hi)) (by rw [show (iH (aN (fB k j) u.ins u.ins.n) k dN).get k=dN from kT]; exact Ix) (λe he=>by rw [show (aN (gx k j) u.aa u.aa.n).get e=gx k j (u.aa.get e) from su he]; exact MJ _ _ _)
  obtain ⟨i,q1,q2,q3,q4⟩:=q
  by_cases hi:i=k
  .subst hi
   refine ⟨j,by rw [q1]; unfold sw; simp,by omega,?_,?_⟩
   .rw [gi j (by omega) (by omega)]; exact h2
   .rw [gi j (by omega) (by omega)]; exact h3
  .refine ⟨i,by rw [q1]; exact DE (by omega),q2,?_,?_⟩
   .rw [gi i (by omega) hi]; exact q3
   .rw [gi i (by omega) hi]; exact q4
open Go Go.V
theorem bO.ab {u:af} {P i:Nat} (h:bO u P) (hn:∀ k,k<u.ins.n->(u.ins.get k).n<=9223372036854775807) (hi:i<u.ins.n):((u.ins.get i).a=0∨fN u.ins (u.ins.get i).a i)/\((u.ins.get i).b=0∨fN u.ins (u.ins.get i).b i):=by
 have q:=h.all i hi
 have f:=q.LN
 rw [jo _ (hn i hi)] at f
 have hu:=q.use
 have hm:=jW (u.ins.get i).op
 have h20:(u.ins.get i).op=20->fV (u.ins.get i).op=0:=λe=>by rw [e]; rfl
 generalize u.ins.get i=x at f hu hm h20 ⊢
 unfold a8 nB at f
 simp only [di,Bool.not_eq_true',Bool.or_eq_false_iff,Bool.and_eq_false_iff,bne_eq_false_iff_eq,decide_eq_false_iff_not] at f
 obtain ⟨_,⟨fa,fb,_⟩,_⟩:=f
 have hc:(fV x.op=0->x.a=0/\x.b=0):=λe=>⟨fa.resolve_left (by omega),fb.resolve_left (by omega)⟩
 unfold aV at hu
 cases ho:x.op==20 with
 | true=>
   obtain ⟨e1,e2⟩:=hc (h20 (eq_of_beq ho))
   exact ⟨.inl e1,.inl e2⟩
 | false=>
   rw [ho] at hu
   simp only [cond_false] at hu
   rcases hm with e|e|e|e
   .obtain ⟨e1,e2⟩:=hc e
    exact ⟨.inl e1,.inl e2⟩
   .rw [e] at hu
    exact ⟨.inr (hu 0 (by decide)),.inl (fb.resolve_left (by omega))⟩
   .rw [e] at hu
    exact ⟨.inr (hu 0 (by decide)),.inr (hu 1 (by decide))⟩
   .rw [e] at hu
    exact ⟨.inr (hu 0 (by decide)),.inr (hu 1 (by decide))⟩
theorem qz {u:af} {v:Int} {i:Nat} (h:v=0∨fN u.ins v i):v.toNat<=i:=by
 rcases h with e|⟨j,e,h1,_⟩
 .rw [e]; exact bn _
 .rw [e]; show j<=i; omega
theorem WA {x y:ak} (hx:RD x) (hy:RD y) (ox:x.op=7∨x.op=16) (oy:y.op=7∨y.op=16):lY x y=false:=by
 obtain ⟨a1,a2⟩:=hx ox
 obtain ⟨b1,b2⟩:=hy oy
 unfold lY
 rw [a1,a2,b1,b2,bN]
 rfl
theorem ab0 {u:af} {P:Nat} (h:bO u P) {a b:Int} {i:Nat} (ha:a.toNat<u.ins.n) (hb:b.toNat<u.ins.n) (hi:i<=u.ins.n):ZD u a b i=false:=by
 have key:∀ {c:Int},c.toNat<u.ins.n->pK u c i≥0->((yi u (pK u c i)).op=7∨(yi u (pK u c i)).op=16)/\RD (yi u (pK u c i)):=by
  intro c hc h0
  unfold pK at h0 ⊢
  cases Q8:(u.ins.get c.toNat).op==16 with
  | true=>
    rw [Q8] at h0
    simp only [cond_true] at h0 ⊢
    rw [show yi u c=u.ins.get c.toNat from by unfold yi; rw [decide_eq_true h0]; rfl]
    exact ⟨.inr (eq_of_beq Q8),(h.all _ hc).UI⟩
  | false=>
    rw [Q8] at h0
    simp only [cond_false] at h0 ⊢
    rcases o0 (M8 u c) i with ⟨e,_⟩|⟨k,e,h1,h2,_⟩
    .rw [e] at h0; exact absurd h0 (by decide)
    .rw [e,show yi u (k:Int)=u.ins.get k from by unfold yi; rw [decide_eq_true (by omega:(k:Int)≥0)]; rfl]
     unfold M8 at h2
     rw [di] at h2
     exact ⟨.inl (eq_of_beq h2.1),(h.all k (by omega)).UI⟩
 unfold ZD
 by_cases h1:pK u a i≥0
 .by_cases h2:pK u b i≥0
  .obtain ⟨p1,p2⟩:=key ha h1
   obtain ⟨q1,q2⟩:=key hb h2
   rw [WA p2 q2 p1 q1,Bool.and_false,Bool.and_false]
  .rw [decide_eq_false h2,Bool.false_and,Bool.and_false]
 .rw [decide_eq_false h1,Bool.false_and]
def XJ (g:Nat->ak) (a b:Int):Bool:=bif a==b then false else bif (g (if b>a then b else a).toNat).op==16 then true else bif (g a.toNat).op==16&&(g b.toNat).op==16 then true else false
def Qh (g:Nat->ak) (b c:Int):Bool:=(g b.toNat).op==2&&((g c.toNat).op==2&&((g b.toNat).k.kind==3&&((g c.toNat).k.kind==3&&(g b.toNat).k.n != (g c.toNat).k.n)))
def A8 (g:Nat->ak) (x y:ak):Int:=bif (!jS x.op||(!jS y.op || !(fD x.op==fD y.op)))||(fD x.op&&x.n != y.n) then 0 else bif x.a==y.a&&(fD x.op||x.b==y.b) then 2 else bif x.a==y.a then (bif Qh g x.b y.b then 0 else 1) else bif XJ g x.a y.a then 0 else 1
theorem wG {u:af} {P p q:Nat} (h:bO u P) (hn:∀ k,k<u.ins.n->(u.ins.get k).n<=9223372036854775807) (hp:p<u.ins.n) (hq:q<u.ins.n):cp u p q=A8 u.ins.get (u.ins.get p) (u.ins.get q):=by
 have e:Un u (u.ins.get p).a (u.ins.get q).a p=XJ u.ins.get (u.ins.get p).a (u.ins.get q).a:=by
  unfold Un XJ
  rw [ab0 h (Nat.lt_of_le_of_lt (qz (h.ab hn hp).1) hp) (Nat.lt_of_le_of_lt (qz (h.ab hn hq).1) hq) (Nat.le_of_lt hp)]
 unfold cp r7 r9
 rw [e]
 rfl
structure Refs (g g':Nat->ak) (x:ak):Prop where
 a:g' x.a.toNat=g x.a.toNat
 b:g' x.b.toNat=g x.b.toNat
theorem zn {g g':Nat->ak} {x y:ak} (hx:Refs g g' x) (hy:Refs g g' y):A8 g' x y=A8 g x y:=by
 have e1:Qh g' x.b y.b=Qh g x.b y.b:=by unfold Qh; rw [hx.b,hy.b]
 have e2:XJ g' x.a y.a=XJ g x.a y.a:=by
  unfold XJ
  rw [hx.a,hy.a]
  have:g' (if y.a>x.a then y.a else x.a).toNat=g (if y.a>x.a then y.a else x.a).toNat:=by
   split
   .exact hy.a
   .exact hx.a
  rw [this]
 unfold A8
 rw [e1,e2]
theorem O0 {g:Nat->ak} {x y:ak} (h:A8 g x y=2) (z:ak):A8 g x z=A8 g y z:=by
 unfold A8 at h
 cases h0:(!jS x.op||(!jS y.op || !(fD x.op==fD y.op)))||(fD x.op&&x.n != y.n) with
 | true=>rw [h0] at h; cases h
 | false=>
   rw [h0] at h
   simp only [cond_false] at h
   cases h1:x.a==y.a&&(fD x.op||x.b==y.b) with
   | false=>
     rw [h1] at h
     simp only [cond_false] at h
     exfalso
     revert h
     cases x.a==y.a<;>cases Qh g x.b y.b<;>cases XJ g x.a y.a<;>simp
   | true=>
     simp only [Bool.or_eq_false_iff,Bool.not_eq_false',Bool.and_eq_false_iff,beq_iff_eq,bne_eq_false_iff_eq] at h0
     simp only [di,Bool.or_eq_true,beq_iff_eq] at h1
     obtain ⟨⟨m1,m2,m3⟩,m4⟩:=h0
     obtain ⟨a1,a2⟩:=h1
     unfold A8
     rw [m1,m2,<- m3,a1]
     cases hm:fD x.op with
     | true=>
       rw [hm] at m4
       rw [m4.resolve_left (by decide)]
       simp
       have hz:jS z.op=true->fD z.op=true∨fD z.op=false:=λ_=>by cases fD z.op<;>simp
       cases hb:fD z.op with
       | false=>simp
       | true=>
         simp
         cases hn:y.n==z.n<;>cases ha:y.a==z.a<;>simp_all
     | false=>
       rw [hm] at a2
       rw [a2.resolve_left (by decide)]
       simp
open Go Go.V
section
def YS (r:gm):List Go.V.I:=[iI r.kd,iI r.pos,iI r.src,iI r.v.kind,iI r.v.n,iS r.v.s]
def Gt (r:gm):Nat->Go.V.I:=YD (YS r)
def rwR (s:Sq gm):ae:=.arr 44 6 s.n (λi=>Gt (s.get i))
def Yr (f:FuncId):C:=.im (.fn f 0 λ_=>.v (.bool false))
def Mo (s:Sq gm) (x:gm):Sq gm:=dV s ⟨1,λ_=>x⟩
def vk (p:Bool) (u:af) (k:Nat):gm×Bool:=bif p then Fk (rT u k) else (⟨3,(k:Int),0,dS⟩,ec u k)
def nJ (p:Bool) (k:Nat) (x:af×Sq gm):af×Sq gm:=bif (vk p x.1 k).2 then bif bM (iD x.1 (vk p x.1 k).1)!=0 then x else (iD x.1 (vk p x.1 k).1,Mo x.2 (vk p x.1 k).1) else x
def uN (p:Bool):Nat->Nat->af×Sq gm->af×Sq gm
 | 0,_,x=>x
 | m+1,k,x=>uN p m (k+1) (nJ p k x)
def pS:gm:=⟨0,0,0,dS⟩
def Yw:af:=⟨⟨0,0⟩,aK dN,aK ⟨aK ⟨0,0,aK 0⟩,aK zV,0⟩⟩
def eC (t:af):Sq gm:=bif bM t != 0 then aK pS else (uN false t.ins.n 0 (uN true t.ins.n 0 (t,aK pS))).2
def Lw (r:gm) (b:Bool) (u2:af) (e:Int):gr:={ F:=ext yg [(16,λds _=>(int (bM (ff ds 0)),[],[])),(17,λ_ _=>(EE r b,[],[])),(18,λ_ _=>(EE r b,[],[])),(19,λ_ _=>(.t [(true,lift (aJ u2)),(false,[ci e])],[],[]))] }
end
def uU:Nat->Bool:=λi=>Nat.beq i 8
theorem at4:Fn 6:={}
abbrev PX:C:=.im (.fn 17 0 (λx=>I.v (Value.bool false)))
abbrev A7:gn:=(5,((.c PX),[]))
abbrev nR:gn:=(14,((.c (.sa 1 2)),[]))
abbrev CL:gn:=(16,((int 0),[]))
abbrev Oh:C:=.im (.fn 18 0 (λx=>I.v (Value.bool false)))
abbrev xu:ae:=.row 57 1 2 [PX,Oh]
theorem ax5 (L:LP) (QD:D->Prop) (r:gm) (b:Bool) (u2:af) (e:Int) (t:af) (h:(LC 16 [(iv t)] [] (int (bM t)) []/\br (bM t != 0) (QD (.c dO)) (L (ah 6 8) ⟨[eH,(3,((.c dO),[])),A7,nR,(15,((int (↑2:Int)),[])),CL,(22,((gX t),[])),(23,((int 0),[]))],[(bE t),xu],[]⟩))):fG (Lw r b u2 e) 6 uU L (cy QD) [bH t] []:=km h
def kP (r:gm) (b:Bool) (u2:af) (e:Int) (t:af) (n:Nat) (u:af) (s:Sq gm) (k:Nat):VS:=⟨[lz,(3,.c (.sa 2 s.n),[]),(5,.c (Yr 17),[]),(14,.c (.sa 1 2),[]),(15,int 2,[]),(16,int 0,[]),(22,int n,[]),(23,int k,[])],[.box (lift (aJ u)),.row 57 1 2 [Yr 17,Yr 18],rwR s],[]⟩
abbrev LQ (aj:gm) (aA:Bool):D:=.t [(.true,[(ci aj.kd),(ci aj.pos),(ci aj.src),(ci aj.v.1),(ci aj.v.2),(.im (.v (.string aj.v.3)))]),(.false,[(.im (.v (.bool aA)))])]
abbrev xI (aj:Sq gm):gn:=(3,((.c (.sa 2 aj.1)),[]))
abbrev pR:gn:=(15,((int 2),[]))
abbrev sW (aj:Nat):gn:=(22,((int (↑aj:Int)),[]))
abbrev ye (aj:Sq gm):ae:=.arr 44 6 aj.1 (λi=>Gt (aj.2 i))
abbrev tV (aj:gm):List C:=[(ci aj.kd),(ci aj.pos),(ci aj.src),(ci aj.v.1),(ci aj.v.2),(.im (.v (.string aj.v.3)))]
abbrev T9 (aj:af) (aA:gm) (aB:Sq gm):List ae:=[(bE aj),xu,.dead,(.box (tV aA)),(bE aj),(.row 44 6 1 (tV aA)),(.arr 44 6 (aB.1+1) (kB aB.1 (λi=>Gt (aB.2 i)) (1,flat 6 [I.v (Value.int IntKind.i64 aA.kd),I.v (Value.int IntKind.i64 aA.pos),I.v (Value.int IntKind.i64 aA.src),I.v (Value.int IntKind.i64 aA.v.1),I.v (Value.int IntKind.i64 aA.v.2),iS aA.v.3]).snd))]
abbrev AY:gn:=(5,((.c Oh),[]))
theorem vp (L:LP) (QD:D->Prop) (r:gm) (b:Bool) (u2:af) (e:Int) (t:af) (n:Nat) (u:af) (s:Sq gm) (k:Nat) (h:br (decide ((↑k:Int)<(↑n:Int))) ((LC 17 (tp u k) [] (LQ r b) []/\br (!b) (L (ah 6 8) ⟨[eH,(xI s),A7,nR,pR,CL,(sW n),(23,((int (IntKind.i64.wrap ((↑k:Int)+1))),[]))],[(bE u),xu,(ye s),(.box (tV r))],[]⟩) ((LC 19 [(iv u),(.a (tV r))] [] (.t [(.true,(lift (aJ (u2)))),(.false,[(ci e)])]) []/\br (e==0) (nd (dU (s.1+1) 56) (nd (s.1.beq s.1) (L (ah 6 8) ⟨[eH,(3,((.c (.sa 6 (.succ s.1))),[])),A7,nR,pR,CL,(sW n),(23,((int (IntKind.i64.wrap ((↑k:Int)+1))),[]))],(T9 u2 r s),[]⟩))) (L (ah 6 8) ⟨[eH,(xI s),A7,nR,pR,CL,(sW n),(23,((int (IntKind.i64.wrap ((↑k:Int)+1))),[]))],[(bE u),xu,(ye s),(.box (tV r)),(bE u2)],[]⟩))))) (L (ah 6 8) ⟨[eH,(xI s),AY,nR,pR,(16,((int (IntKind.i64.wrap (0+1))),[])),(22,((gX u),[])),(23,((int 0),[]))],[(bE u),xu,(ye s)],[]⟩)):cW (Lw r b u2 e) 6 uU L (cy QD) 8 (kP r b u2 e t n u s k):=km h
def jQ (r:gm) (b:Bool) (u2:af) (e:Int) (t:af) (n:Nat) (u:af) (s:Sq gm) (k:Nat):VS:=⟨[lz,(3,.c (.sa 2 s.n),[]),(5,.c (Yr 18),[]),(14,.c (.sa 1 2),[]),(15,int 2,[]),(16,int 1,[]),(22,int n,[]),(23,int k,[])],[.box (lift (aJ u)),.row 57 1 2 [Yr 17,Yr 18],rwR s],[]⟩
abbrev qw (aj:Sq gm):D:=.c (.im (.sl 6 aj.1 (λi=>Gt (aj.2 i))))
theorem vv (L:LP) (QD:D->Prop) (r:gm) (b:Bool) (u2:af) (e:Int) (t:af) (n:Nat) (u:af) (s:Sq gm) (k:Nat) (h:br (decide ((↑k:Int)<(↑n:Int))) ((LC 18 (tp u k) [] (LQ r b) []/\br (!b) (L (ah 6 8) ⟨[eH,(xI s),AY,nR,pR,(16,((int 1),[])),(sW n),(23,((int (IntKind.i64.wrap ((↑k:Int)+1))),[]))],[(bE u),xu,(ye s),(.box (tV r))],[]⟩) ((LC 19 [(iv u),(.a (tV r))] [] (.t [(.true,(lift (aJ (u2)))),(.false,[(ci e)])]) []/\br (e==0) (nd (dU (s.1+1) 56) (nd (s.1.beq s.1) (L (ah 6 8) ⟨[eH,(3,((.c (.sa 6 (.succ s.1))),[])),AY,nR,pR,(16,((int 1),[])),(sW n),(23,((int (IntKind.i64.wrap ((↑k:Int)+1))),[]))],(T9 u2 r s),[]⟩))) (L (ah 6 8) ⟨[eH,(xI s),AY,nR,pR,(16,((int 1),[])),(sW n),(23,((int (IntKind.i64.wrap ((↑k:Int)+1))),[]))],[(bE u),xu,(ye s),(.box (tV r)),(bE u2)],[]⟩))))) (QD (qw s))):cW (Lw r b u2 e) 6 uU L (cy QD) 8 (jQ r b u2 e t n u s k):=km h
theorem ab9 (t:af) (n c0:Nat) (hn:n<=1000) (hc:c0<=1000) (d:D):∀ k,k<=n->∀ x:af×Sq gm,Inv n x.1->x.2.n<=c0+k->d=iR 6 Gt (uN false (n-k) k x).2->ag 6 0 (cw d) (ah 6 8) (jQ pS false t 0 t n x.1 x.2 k):=by
 refine bc (λk hk ih=>?_) ?_
 .rintro ⟨u,s⟩ hI hs hf
  have hI:Inv n u:=hI
  have hs:s.n<=c0+k:=hs
  have hW:=dy hk (by unfold maxLen; omega:_<=maxLen)
  have e0:n-k=(n-(k+1))+1:=by omega
  rw [e0] at hf
  obtain ⟨h1,h2⟩:=Y2 hI hk
  generalize hr0:(⟨3,(k:Int),0,dS⟩:gm)=r at h1 h2
  generalize hb0:ec u k=b at h1 h2
  have hpd:vk false u k=(r,b):=by show ((⟨3,(k:Int),0,dS⟩:gm),ec u k)=_; rw [hr0,hb0]
  have go:∀ x':af×Sq gm,nJ false k (u,s)=x'->Inv n x'.1->x'.2.n<=c0+(k+1)->ag 6 0 (cw d) (ah 6 8) (jQ pS false t 0 t n x'.1 x'.2 (k+1)):=λx' hx h1 h2=>ih x' h1 h2 (by
   grind [uN])
  have same:b=false->ag 6 0 (cw d) (ah 6 8) (jQ pS false t 0 t n u s (k+1)):=λhb=>go (u,s) (by
   show (bif (vk false u k).2 then _ else _)=_
   rw [hpd,hb]; rfl) hI (by show s.n<=_; omega)
  cases hb:b with
  | false=>
    rw [hb] at h1
    refine bt (X:=Lw r false t 0) (stop:=uU) (vv _ _ r false t 0 t n u s k ?_)
    refine aq (λh0=>⟨h1,aq (λ_=>?_) (λh=>Bool.noConfusion h)⟩) (λh=>(dec_lt h hk).elim)
    rw [hW]
    exact ag.rename [0,1,2] rfl (ag.lr (jQ pS false t 0 t n u s (k+1)) (same hb))
  | true=>
    rw [hb] at h1
    have hw:=(h2 hb).rewrite hI hk
    cases hr:bM (iD u r)!=0 with
    | true=>
      have hw:LC 19 [bH u,EP r.kd r.pos r.src r.v] [] (.t [(true,lift (aJ Yw)),(false,[ci 1])]) []:=bB.post hw (by unfold LD; rw [hr]; exact Rj (.cons (dT.refl _) (.cons (dT.refl _) (.cons (dT.im kx) (.cons (dT.im kx) .nil)))))
      refine bt (X:=Lw r true Yw 1) (stop:=uU) (vv _ _ r true Yw 1 t n u s k ?_)
      refine aq (λh0=>⟨h1,aq (λh=>Bool.noConfusion h) (λ_=>⟨hw,aq (λh=>absurd h (by decide)) (λ_=>?_)⟩)⟩) (λh=>(dec_lt h hk).elim)
      rw [hW]
      exact ag.rename [0,1,2] rfl (ag.lr (jQ pS false t 0 t n u s (k+1)) (go (u,s) (by
       show (bif (vk false u k).2 then (bif bM (iD u (vk false u k).1)!=0 then _ else _) else _)=_
       rw [hpd,hb,hr]; rfl) hI (by show s.n<=_; omega)))
    | false=>
      have hw:LC 19 [bH u,EP r.kd r.pos r.src r.v] [] (.t [(true,lift (aJ (iD u r))),(false,[ci 0])]) []:=bB.post hw (by unfold LD; rw [hr]; exact bf.refl _)
      have h0r:bM (iD u r)=0:=by simpa using hr
      refine bt (X:=Lw r true (iD u r) 0) (stop:=uU) (vv _ _ r true (iD u r) 0 t n u s k ?_)
      refine aq (λh0=>⟨h1,aq (λh=>Bool.noConfusion h) (λ_=>⟨hw,aq (λ_=>ay (eE (by show s.n+1<=_; omega) (by omega)) (ay (gu _) ?_)) (λh=>absurd h (by decide))⟩)⟩) (λh=>(dec_lt h hk).elim)
      rw [hW]
      exact ag.rename [0,1,6] rfl (ag.lf (jQ pS false t 0 t n (iD u r) (Mo s r) (k+1)) (rc (rc (.cons (vo 44 6 s r Gt (YS r) λj hj=>by rw [rQ (l:=YS r) hj]; exact dK.refl _) .nil))) (go (iD u r,Mo s r) (by
       show (bif (vk false u k).2 then (bif bM (iD u (vk false u k).1)!=0 then _ else _) else _)=_
       rw [hpd,hb,hr]; rfl) (hI.next h0r) (by show s.n+1<=_; omega)))
 .rintro ⟨u,s⟩ hI hs hf
  rw [Nat.sub_self] at hf
  refine bt (X:=Lw pS false t 0) (stop:=uU) (vv _ _ pS false t 0 t n u s n ?_)
  refine aq (λh=>cj h) (λh=>?_)
  rw [hf]
  exact bf.refl _
theorem Z7 (t:af) (n c0:Nat) (hn:n<=1000) (hc:c0<=1000) (d:D):∀ k,k<=n->∀ x:af×Sq gm,Inv n x.1->x.2.n<=c0+k->(∀ y:af×Sq gm,uN true (n-k) k x=y->ag 6 0 (cw d) (ah 6 8) (jQ pS false t 0 t n y.1 y.2 0))->ag 6 0 (cw d) (ah 6 8) (kP pS false t 0 t n x.1 x.2 k):=by
 refine bc (λk hk ih=>?_) ?_
 .rintro ⟨u,s⟩ hI hs hf
  have hI:Inv n u:=hI
  have hs:s.n<=c0+k:=hs
  have hW:=dy hk (by unfold maxLen; omega:_<=maxLen)
  have e0:n-k=(n-(k+1))+1:=by omega
  rw [e0] at hf
  obtain ⟨r,b,hpd,h1,h2⟩:=ab7 hI hk
  have hpd:vk true u k=(r,b):=hpd
  have go:∀ x':af×Sq gm,nJ true k (u,s)=x'->Inv n x'.1->x'.2.n<=c0+(k+1)->ag 6 0 (cw d) (ah 6 8) (kP pS false t 0 t n x'.1 x'.2 (k+1)):=λx' hx h1 h2=>ih x' h1 h2 (by
   grind [uN])
  have same:b=false->ag 6 0 (cw d) (ah 6 8) (kP pS false t 0 t n u s (k+1)):=λhb=>go (u,s) (by
   show (bif (vk true u k).2 then _ else _)=_
   rw [hpd,hb]; rfl) hI (by show s.n<=_; omega)
  cases hb:b with
  | false=>
    rw [hb] at h1
    refine bt (X:=Lw r false t 0) (stop:=uU) (vp _ _ r false t 0 t n u s k ?_)
    refine aq (λh0=>⟨h1,aq (λ_=>?_) (λh=>Bool.noConfusion h)⟩) (λh=>(dec_lt h hk).elim)
    rw [hW]
    exact ag.rename [0,1,2] rfl (ag.lr (kP pS false t 0 t n u s (k+1)) (same hb))
  | true=>
    rw [hb] at h1
    have hw:=(h2 hb).rewrite hI hk
    cases hr:bM (iD u r)!=0 with
    | true=>
      have hw:LC 19 [bH u,EP r.kd r.pos r.src r.v] [] (.t [(true,lift (aJ Yw)),(false,[ci 1])]) []:=bB.post hw (by unfold LD; rw [hr]; exact Rj (.cons (dT.refl _) (.cons (dT.refl _) (.cons (dT.im kx) (.cons (dT.im kx) .nil)))))
      refine bt (X:=Lw r true Yw 1) (stop:=uU) (vp _ _ r true Yw 1 t n u s k ?_)
      refine aq (λh0=>⟨h1,aq (λh=>Bool.noConfusion h) (λ_=>⟨hw,aq (λh=>absurd h (by decide)) (λ_=>?_)⟩)⟩) (λh=>(dec_lt h hk).elim)
      rw [hW]
      exact ag.rename [0,1,2] rfl (ag.lr (kP pS false t 0 t n u s (k+1)) (go (u,s) (by
       show (bif (vk true u k).2 then (bif bM (iD u (vk true u k).1)!=0 then _ else _) else _)=_
       rw [hpd,hb,hr]; rfl) hI (by show s.n<=_; omega)))
    | false=>
      have hw:LC 19 [bH u,EP r.kd r.pos r.src r.v] [] (.t [(true,lift (aJ (iD u r))),(false,[ci 0])]) []:=bB.post hw (by unfold LD; rw [hr]; exact bf.refl _)
      have h0r:bM (iD u r)=0:=by simpa using hr
      refine bt (X:=Lw r true (iD u r) 0) (stop:=uU) (vp _ _ r true (iD u r) 0 t n u s k ?_)
      refine aq (λh0=>⟨h1,aq (λh=>Bool.noConfusion h) (λ_=>⟨hw,aq (λ_=>ay (eE (by show s.n+1<=_; omega) (by omega)) (ay (gu _) ?_)) (λh=>absurd h (by decide))⟩)⟩) (λh=>(dec_lt h hk).elim)
      rw [hW]
      exact ag.rename [0,1,6] rfl (ag.lf (kP pS false t 0 t n (iD u r) (Mo s r) (k+1)) (rc (rc (.cons (vo 44 6 s r Gt (YS r) λj hj=>by rw [rQ (l:=YS r) hj]; exact dK.refl _) .nil))) (go (iD u r,Mo s r) (by
       show (bif (vk true u k).2 then (bif bM (iD u (vk true u k).1)!=0 then _ else _) else _)=_
       rw [hpd,hb,hr]; rfl) (hI.next h0r) (by show s.n+1<=_; omega)))
 .rintro ⟨u,s⟩ hI hs hf
  rw [Nat.sub_self] at hf
  refine bt (X:=Lw pS false t 0) (stop:=uU) (vp _ _ pS false t 0 t n u s n ?_)
  refine aq (λh=>cj h) (λh=>?_)
  have hn2:u.2.1=n:=hI.n
  subst hn2
  exact ag.lr (jQ pS false t 0 t u.2.1 u s 0) (hf (u,s) rfl)
theorem Je (t:af):∀ (p:Bool) (m k n:Nat) (x:af×Sq gm),k+m<=n->Inv n x.1->Inv n (uN p m k x).1/\(uN p m k x).2.n<=x.2.n+m
 | p,0,k,n,x,_,hI=>⟨hI,bl _⟩
 | p,m+1,k,n,x,hk,hI=>by
   have key:Inv n (nJ p k x).1/\(nJ p k x).2.n<=x.2.n+1:=by
    unfold nJ
    cases (vk p x.1 k).2 with
    | false=>grind
    | true=>
      cases hr:bM (iD x.1 (vk p x.1 k).1)!=0 with
      | true=>grind
      | false=>exact ⟨hI.next (by simpa using hr),bl _⟩
   obtain ⟨h1,h2⟩:=Je t p m (k+1) n (nJ p k x) (by omega) key.1
   grind [uN]
theorem T3 (t:af) (hS:bk t) (hn:∀ k,k<t.ins.n->(t.ins.get k).n<=9223372036854775807):LC 6 [bH t] [] (iR 6 Gt (eC t)) []:=by
 have hN:=hS.ins
 refine pv (X:=Lw pS false t 0) (stop:=uU) at4 (ax5 _ _ pS false t 0 t ⟨I6 t hS,aq (λh=>?_) (λh=>?_)⟩)
 .have h:(bM t != 0)=true:=h
  rw [show eC t=aK pS from by unfold eC; rw [h]; rfl]
  exact λE av w v q=>dT.nil 6 _ E av w v q
 .have h:(bM t != 0)=false:=h
  rw [show eC t=(uN false t.ins.n 0 (uN true t.ins.n 0 (t,aK pS))).2 from by unfold eC; rw [h]; rfl]
  have hI:Inv t.ins.n t:=⟨hS,by simpa using h,hn,rfl⟩
  have hA:=Je t true t.ins.n 0 t.ins.n (t,aK pS) (by omega) hI
  refine ag.IJ 3 44 6 rfl (ag.lf (kP pS false t 0 t t.ins.n t (aK pS) 0) (rc (rc (.cons (tD 44 6 _ _) .nil))) (Z7 t t.ins.n 0 hN (bn _) _ 0 (bn _) (t,aK pS) hI (bl _) ?_))
  grind [aK,ab9]
open Go Go.V
section
def X53 (u:af):gr:={ F:=ext yg [(16,λds _=>(int (bM (ff ds 0)),[],[])),(20,λds rs=>(Bo (ff ds 0) rs.length (rs.length+1),[],[bA (ff ds 0).ins,ew (ff ds 0).aa])),(19,λ_ _=>(.t [(true,lift (aJ u)),(false,[ci 0])],[],[]))] }
end
def PA:Nat->Bool:=λi=>Nat.beq i 7
theorem az6:Fn 7:={}
theorem ar3 (L:LP) (QD:D->Prop) (t:af) (s:Sq gm) (u:af) (h:(LC 16 [(iv t)] [] (int (bM t)) []/\br (bM t != 0) (QD (.t [(.true,[(ci 0),(ci 0),(.im (.v (.slice .none 0 0))),(.im (.v (.slice .none 0 0)))]),(.false,[(ci 0)]),(.false,[(ci 31)])])) (br (decide ((↑s.1:Int)>300)) (QD (.t [(.true,[(ci 0),(ci 0),(.im (.v (.slice .none 0 0))),(.im (.v (.slice .none 0 0)))]),(.false,[(ci 0)]),(.false,[(ci 2)])])) ((LC 20 [(iv t)] [(bE t),eK] (.a [(ci t.1.1),(ci t.1.2),(.sa 2 t.2.1),(.sa 3 t.3.1)]) [(bE t),eK,(ma t),(pk t)]/\L (ah 7 7) ⟨[(1,((qw s),[])),qf,og,(24,((qw s),[])),(25,((int (↑s.1:Int)),[])),(26,((int 0),[]))],[(bE t),eK,(ma t),(pk t),(kL t)],[]⟩))))):fG (X53 u) 7 PA L (cy QD) [bH t,iR 6 Gt s] []:=km h
def AB (t:af) (s:Sq gm) (u:af) (v:af) (k:Nat):VS:=⟨[(1,iR 6 Gt s,[]),(4,.c (.rt 0 0 0),[]),(7,.c (.rt 1 0 0),[]),(24,iR 6 Gt s,[]),(25,int s.n,[]),(26,int k,[])],[.box [ci 0,ci 0,Si,Si],.box (lift (aJ v))],[]⟩
abbrev Mt (aj:Sq gm) (aA:Nat):List C:=[(ci ((aj.2 aA).kd)),(ci ((aj.2 aA).pos)),(ci ((aj.2 aA).src)),(ci ((aj.2 aA).v.1)),(ci ((aj.2 aA).v.2)),(.im (.v (.string ((aj.2 aA).v.3))))]
abbrev Ar:gn:=(4,((.c (.rt 0 0 0)),[]))
theorem PY (L:LP) (QD:D->Prop) (t:af) (s:Sq gm) (u:af) (v:af) (k:Nat) (h:br (decide ((↑k:Int)<(↑s.1:Int))) (nd (dm (↑k:Int) s.1) ((LC 19 [(iv v),(.a (Mt s k))] [] (.t [(.true,(lift (aJ (u)))),(.false,[(ci 0)])]) []/\L (ah 7 7) ⟨[(1,((qw s),[])),Ar,(7,((.c (.rt 1 0 0)),[])),(24,((qw s),[])),(25,((int (↑s.1:Int)),[])),(26,((int (IntKind.i64.wrap ((↑k:Int)+1))),[]))],[eK,(bE u),(.box (Mt s k)),(bE u)],[]⟩))) (QD (.t [(.true,(lift (aJ (v)))),(.false,[(ci (↑s.1:Int))]),(.false,[(ci 0)])]))):cW (X53 u) 7 PA L (cy QD) 7 (AB t s u v k):=km h
def GY (s:Sq gm) (tr:Nat->af):Prop:=∀ k,k<s.n->LC 19 [bH (tr k),EP (s.get k).kd (s.get k).pos (s.get k).src (s.get k).v] [] (.t [(true,lift (aJ (tr (k+1)))),(false,[ci 0])]) []
theorem Xn (t:af) (s:Sq gm) (tr:Nat->af) (hr:GY s tr) (hs:s.n<=300):∀ k,k<=s.n->ag 7 0 (cw (.t [(true,lift (aJ (tr s.n))),(false,[ci s.n]),(false,[ci 0])])) (ah 7 7) (AB t s t (tr k) k):=by
 refine bc (λk hk ih=>?_) ?_
 .have hW:=dy hk (by unfold maxLen; omega:_<=maxLen)
  refine bt (X:=X53 (tr (k+1))) (stop:=PA) (PY _ _ t s (tr (k+1)) (tr k) k ?_)
  refine aq (λ_=>ay (aP hk) ⟨hr k hk,?_⟩) (λh=>(dec_lt h hk).elim)
  rw [hW]
  exact ag.rename [0,1] rfl (ag.lr (AB t s t (tr (k+1)) (k+1)) ih)
 .refine bt (X:=X53 t) (stop:=PA) (PY _ _ t s t (tr s.n) _ ?_)
  exact aq (λh=>cj h) (λ_=>bf.refl _)
theorem Ze (t:af) (s:Sq gm) (tr:Nat->af) (hS:bk t) (h0:bM t=0) (hr:GY s tr) (hs:s.n<=300) (ht:tr 0=t):LC 7 [bH t,iR 6 Gt s] [] (.t [(true,lift (aJ (tr s.n))),(false,[ci s.n]),(false,[ci 0])]) []:=by
 refine pv (X:=X53 t) (stop:=PA) az6 (ar3 _ _ t s t ⟨I6 t hS,aq (λh=>?_) (λ_=>aq (λh=>?_) (λ_=>⟨bB.jm (Uj t hS) [] _ rfl rfl,?_⟩))⟩)
 .rw [h0] at h; exact absurd h (by decide)
 .have:=of_decide_eq_true h
  omega
 .refine ag.freeze 2 rfl (ag.freeze 3 rfl (ag.rename [1,4] rfl ?_))
  have g:=Xn t s tr hr hs 0 (bn _)
  rw [ht] at g
  exact ag.lf (AB t s t t 0) (rc (.cons (bZ.box (Cm t)) .nil)) g
open Go Go.V
theorem oO {t t':af} {s s':Int->Bool}:∀ {k:Nat},(∀ j,j<k->(t'.ins.get j).once=(t.ins.get j).once/\s' (Int.ofNat j)=s (Int.ofNat j))->nh t' s' k=nh t s k
 | 0,_=>rfl
 | k+1,h=>by
   have ih:=oO (k:=k) λj hj=>h j (by omega)
   obtain ⟨h1,h2⟩:=h k (Nat.lt_succ_self k)
   unfold nh
   rw [h1,h2,ih]
section
variable {u u':af} {P i:Nat}
theorem KB (h:bO u P) (h':bO u' P) (hn:∀ k,k<u.ins.n->(u.ins.get k).n<=9223372036854775807) (nr:∀ k,k<u'.ins.n->(u'.ins.get k).n<=9223372036854775807) (he:u'.ins.n=u.ins.n) (hi:i<u.ins.n) (hA:∀ m,m<=i->u'.ins.get m=u.ins.get m) {p q:Nat} (hp:p<=i) (hq:q<=i):cp u' p q=cp u p q:=by
 have rf:∀ {m:Nat},m<=i->Refs u.ins.get u'.ins.get (u.ins.get m):=λ{m} hm=>⟨hA _ (eA (qz (h.ab hn (by omega)).1) hm),hA _ (eA (qz (h.ab hn (by omega)).2) hm)⟩
 rw [wG h' nr (by omega) (by omega),wG h hn (by omega) (by omega),hA p hp,hA q hq]
 exact zn (rf hp) (rf hq)
theorem KS (h:bO u P) (h':bO u' P) (hn:∀ k,k<u.ins.n->(u.ins.get k).n<=9223372036854775807) (nr:∀ k,k<u'.ins.n->(u'.ins.get k).n<=9223372036854775807) (he:u'.ins.n=u.ins.n) (hi:i<u.ins.n) (hA:∀ m,m<=i->u'.ins.get m=u.ins.get m):rT u' i=rT u i:=by
 have gI:=hA i (bl _)
 have ha:u'.ins.get (u.ins.get i).a.toNat=u.ins.get (u.ins.get i).a.toNat:=hA _ (qz (h.ab hn hi).1)
 have rl:∀ {p},p<=i->cp u' p i=cp u p i:=λhp=>KB h h' hn nr he hi hA hp (bl _)
 have eS:∀ j,j<i->fT u' i j=fT u i j:=λj hj=>by
  unfold fT
  rw [hA j (by omega),rl (by omega)]
 have e1:nh u' (tN u' i) i=nh u (tN u i) i:=oO λj hj=>⟨by rw [hA j (by omega)],eS j hj⟩
 have e2:Gy u' i=Gy u i:=by
  unfold Gy
  rw [e1]
  cases hb:nh u (tN u i) i with
  | none=>
    have:sR u' i=sR u i:=by unfold sR; rw [gI,ha]
    simp only [this]
  | some j=>
    have hj:=CM hb
    have:jj u' i j=jj u i j:=by unfold jj; rw [hA j (by omega),rl (by omega)]
    simp only [this]
 have e3:yj cV u' i=yj cV u i:=by
  unfold yj
  rw [show nh u' (tY cV u' i) i=nh u (tY cV u i) i from oO λj hj=>⟨by rw [hA j (by omega)],by
   show cV u' i j=cV u i j
   unfold cV
   rw [hA j (by omega),gI]⟩]
 have e4:yj dx u' i=yj dx u i:=by
  unfold yj
  rw [show nh u' (tY dx u' i) i=nh u (tY dx u i) i from oO λj hj=>⟨by rw [hA j (by omega)],by
   show dx u' i j=dx u i j
   unfold dx
   rw [hA j (by omega),gI]⟩]
 unfold rT
 rw [gI,ha,e2,e3,e4]
end
def jB (p:Nat->Bool):Nat->Nat
 | 0=>0
 | n+1=>bif p n then jB p n+1 else jB p n
theorem vR {p q:Nat->Bool}:∀ {n:Nat},(∀ i,i<n->p i=q i)->jB p n=jB q n
 | 0,_=>rfl
 | n+1,h=>by
   unfold jB
   rw [h n (Nat.lt_succ_self n),vR λi hi=>h i (by omega)]
theorem Bv {p:Nat->Bool}:∀ {n:Nat},jB p n<=n
 | 0=>bl _
 | n+1=>by
   have:=Bv (p:=p) (n:=n)
   unfold jB
   cases p n<;>simp<;>omega
theorem wL {p q:Nat->Bool} {k:Nat} (hp:p k=false) (hq:q k=true):∀ {n:Nat},k<n->(∀ i,i<n->i≠k->p i=q i)->jB q n=jB p n+1
 | 0,h,_=>absurd h (Nat.not_lt_zero k)
 | n+1,h,he=>by
   unfold jB
   by_cases e:k=n
   .subst e
    rw [hp,hq,vR (p:=q) (q:=p) λi hi=>(he i (by omega) (by omega)).symm]
    rfl
   .rw [he n (Nat.lt_succ_self n) (λq=>e q.symm),wL hp hq (by omega) λi hi CA=>he i (by omega) CA]
    cases q n<;>rfl
theorem zx:∀ {p:Nat->Bool} {n:Nat},(∀ i,i<n->p i=false)->jB p n=0
 | _,0,_=>rfl
 | p,n+1,h=>by
   unfold jB
   rw [h n (Nat.lt_succ_self n),zx λi hi=>h i (by omega)]
   rfl
def Lx (t u:af) (s:Sq gm):Prop:=∃ tr:Nat->af,tr 0=t/\tr s.n=u/\GY s tr
theorem Lx.snoc {t u u':af} {s:Sq gm} {r:gm} (h:Lx t u s) (hw:LC 19 [bH u,EP r.kd r.pos r.src r.v] [] (.t [(true,lift (aJ u')),(false,[ci 0])]) []):Lx t u' (Mo s r):=by
 obtain ⟨tr,h1,h2,h3⟩:=h
 refine ⟨λq=>bif Nat.ble q s.n then tr q else u',?_,?_,λq hq=>?_⟩
 .exact h1
 .show (bif Nat.ble (s.n+1) s.n then _ else _)=_
  rw [show Nat.ble (s.n+1) s.n=false from by rw [<- Bool.not_eq_true,Nat.ble_eq]; omega]; rfl
 .have hq:q<s.n+1:=hq
  show LC 19 [bH (bif Nat.ble q s.n then tr q else u'),_] [] (.t [(true,lift (aJ (bif Nat.ble (q+1) s.n then tr (q+1) else u'))),_]) []
  rw [show Nat.ble q s.n=true from by rw [Nat.ble_eq]; omega]
  by_cases e:q<s.n
  .rw [show Nat.ble (q+1) s.n=true from by rw [Nat.ble_eq]; omega,show (Mo s r).get q=s.get q from nL e]
   exact h3 q e
  .rw [show Nat.ble (q+1) s.n=false from by rw [<- Bool.not_eq_true,Nat.ble_eq]; omega,show q=s.n by omega,show (Mo s r).get s.n=r from mE]
   simp only [cond_true,cond_false]
   rw [h2]
   exact hw
theorem Lx.nil (t:af):Lx t t (aK pS):=⟨λ_=>t,rfl,rfl,λq hq=>absurd hq (Nat.not_lt_zero q)⟩
theorem Ka {u:af} {P k:Nat} (h:bO u P) (hn:∀ k,k<u.ins.n->(u.ins.get k).n<=9223372036854775807) (hk:k<u.ins.n) {r:gm} (hf:Fit u k r):∀ i,i<k->(iD u r).ins.get i=u.ins.get i:=by
 intro i hi
 rcases hf with ⟨rfl,_⟩|⟨rfl,_⟩|⟨j,rfl,hj,h1,h2,h3⟩
 .show (iH u.ins k dN).get i=_
  exact gh (by omega)
 .show (iH u.ins k (jH (u.ins.get k).once)).get i=_
  exact gh (by omega)
 .show (iH (aN (fB k j) u.ins u.ins.n) k dN).get i=_
  rw [gh (by omega),su (by omega)]
  have gI:i<u.ins.n:=by omega
  have q:=h.all i gI
  have f:=q.LN
  rw [jo _ (hn i gI)] at f
  have no20:(u.ins.get i).op≠20:=λe=>by
   have:=h.ends i gI
   unfold ib at this
   rw [e,decide_eq_false (by omega)] at this
   cases this
  have hA:=qz (h.ab hn gI).1
  have hB:=qz (h.ab hn gI).2
  have hu:=q.use
  have hm:=jW (u.ins.get i).op
  generalize u.ins.get i=x at f no20 hA hB hu hm ⊢
  unfold a8 nB at f
  simp only [di,Bool.not_eq_true',Bool.or_eq_false_iff,Bool.and_eq_false_iff,bne_eq_false_iff_eq,decide_eq_false_iff_not] at f
  have hC:x.c≠(k:Int):=by
   obtain ⟨_,⟨_,_,fc,_⟩,_⟩:=f
   rcases fc with e|e
   .have e3:fV x.op=3:=by omega
    have hu:=hu 2 (by unfold aV; rw [show (x.op==20)=false from beq_false_of_ne no20,e3]; show 2<Int.toNat 3; decide)
    unfold aV at hu
    rw [show (x.op==20)=false from beq_false_of_ne no20] at hu
    obtain ⟨w,w1,w2,_⟩:=hu
    have w1:x.c=(w:Int):=w1
    omega
   .rw [e]; omega
  have hArgs:x.args.n=0:=by
   rcases f.2.1.2.2.2 with e|e
   .exact absurd e no20
   .omega
  have eq:nc k j x.args x.args.n=x.args:=by
   show (⟨x.args.n,_⟩:Sq Int)=x.args
   rw [hArgs]
   cases hx:x.args with
   | mk n g=>
     rw [hx] at hArgs
     have hArgs:n=0:=hArgs
     subst hArgs
     rfl
  have hA:x.a≠(k:Int):=λe=>by rw [e] at hA; have:k<=i:=hA; omega
  have hB:x.b≠(k:Int):=λe=>by rw [e] at hB; have:k<=i:=hB; omega
  unfold fB nz
  rw [DE hA,DE hB,DE hC,eq]
  cases Nat.ble 1 (fV x.op).toNat<;>cases Nat.ble 2 (fV x.op).toNat<;>cases Nat.ble 3 (fV x.op).toNat<;>rfl
theorem XV {u:af} {k:Nat} {r:gm} (hf:Fit u k r) (ho:(u.ins.get k).once=false):(iD u r).ins.get k=dN∨((iD u r).ins.get k=jH false):=by
 rcases hf with ⟨rfl,_⟩|⟨rfl,_⟩|⟨j,rfl,hj,h1,h2,h3⟩
 .exact .inl kT
 .right
  show (iH u.ins k (jH (u.ins.get k).once)).get k=_
  rw [kT,ho]
 .exact .inl kT
theorem GQ {u:af} {k i:Nat} {r:gm} (hf:Fit u k r) (hi:i<u.ins.n) (CA:i≠k):((iD u r).ins.get i).op=(u.ins.get i).op:=by
 rcases hf with ⟨rfl,_⟩|⟨rfl,_⟩|⟨j,rfl,hj,h1,h2,h3⟩
 .exact congrArg ak.op (gh CA)
 .exact congrArg ak.op (gh CA)
 .show ((iH (aN (fB k j) u.ins u.ins.n) k dN).get i).op=_
  rw [gh CA,su hi]
  rfl
theorem Vl {u:af} {k:Nat} (ho:(u.ins.get k).once=false) (Q9:iK (u.ins.get k).op=false) (h7:((u.ins.get k).op==7)=false) (h8:((u.ins.get k).op==8)=false):(Fk (rT u k)).2=false:=by
 unfold rT
 rw [ho,Q9,h7,h8]
 rfl
structure G1 (t:af) (P k:Nat) (u:af) (m:Nat):Prop where
 inv:Inv t.ins.n u
 right:bO u P
 done:∀ i,i<k->(Fk (rT u i)).2=false
 lo:∀ i,i<k->(u.ins.get i).op=(t.ins.get i).op∨(uM (t.ins.get i).op/\((u.ins.get i).op=0∨(u.ins.get i).op=2))
 hi:∀ i,k<=i->i<t.ins.n->(u.ins.get i).op=(t.ins.get i).op
 cnt:m=jB (λi=>(u.ins.get i).op != (t.ins.get i).op) t.ins.n
theorem M7 {u:af} (h:bM u=0):LD u=.t [(true,lift (aJ u)),(false,[ci 0])]:=by
 unfold LD
 rw [h]
 rfl
theorem G1.step {t u:af} {P k m:Nat} (h:G1 t P k u m) (hk:k<t.ins.n):∃ r b,vk true u k=(r,b)/\(b=false->G1 t P (k+1) u m)/\(b=true->bM (iD u r)=0/\G1 t P (k+1) (iD u r) (m+1)/\LC 19 [bH u,EP r.kd r.pos r.src r.v] [] (.t [(true,lift (aJ (iD u r))),(false,[ci 0])]) []):=by
 have hI:=h.inv
 have hku:k<u.ins.n:=by rw [hI.n]; exact hk
 obtain ⟨r,b,h1,h2⟩:=PV hI hk
 have e:Fk (rT u k)=(r,b):=by rw [h1]; rfl
 refine ⟨r,b,e,λhb=>⟨hI,h.right,λi hi=>?_,λi hi=>?_,λi h1 h2=>h.hi i (by omega) h2,h.cnt⟩,λhb=>?_⟩
 .by_cases CA:i=k
  .subst CA; rw [e]; exact hb
  .exact h.done i (by omega)
 .by_cases CA:i=k
  .subst CA; exact .inl (h.hi i (bl _) hk)
  .exact h.lo i (by omega)
 .have hf:=h2 hb
  have Dn:=h.right.fit hI.num hku hf
  have hnum':∀ i,i<(iD u r).ins.n->((iD u r).ins.get i).n<=9223372036854775807:=λi hi=>Ce hI.num r i (by rw [CY] at hi; exact hi)
  have h0:bM (iD u r)=0:=by rw [qZ _ hnum']; exact Dn.right
  have hI':=hI.next h0
  have ho:=(h.right.all k hku).once
  have hop:=h.hi k (bl _) hk
  have j3:(((iD u r).ins.get k).op=0∨((iD u r).ins.get k).op=2)/\((iD u r).ins.get k).once=false/\iK ((iD u r).ins.get k).op=false/\(((iD u r).ins.get k).op==7)=false/\(((iD u r).ins.get k).op==8)=false:=by
   rcases XV hf ho with q|q<;>rw [q]
   .exact ⟨.inl rfl,rfl,rfl,rfl,rfl⟩
   .exact ⟨.inr rfl,rfl,rfl,rfl,rfl⟩
  have m6:uM (t.ins.get k).op:=by rw [<- hop]; exact hf.ZL
  refine ⟨h0,⟨hI',Dn,λi hi=>?_,λi hi=>?_,λi h1 h2=>?_,?_⟩,?_⟩
  .by_cases CA:i=k
   .subst CA
    exact Vl j3.2.1 j3.2.2.1 j3.2.2.2.1 j3.2.2.2.2
   .rw [KS h.right Dn hI.num hnum' (CY u r) (by omega) λm hm=>Ka h.right hI.num hku hf m (by omega)]
    exact h.done i (by omega)
  .by_cases CA:i=k
   .subst CA
    exact .inr ⟨m6,j3.1⟩
   .rw [GQ hf (by omega) CA]
    exact h.lo i (by omega)
  .rw [GQ hf (by rw [hI.n]; exact h2) (by omega)]
   exact h.hi i (by omega) h2
  .rw [h.cnt]
   refine (wL (k:=k) (by rw [hop]; simp) ?_ hk λi hi CA=>by rw [GQ hf (by rw [hI.n]; exact hi) CA]).symm
   have:((iD u r).ins.get k).op≠(t.ins.get k).op:=λq=>by
    rcases j3.1 with w|w<;>rw [<- q,w] at m6<;>simp [uM] at m6
   simpa using this
  .have:=hf.rewrite hI hk
   rw [M7 h0] at this
   exact this
theorem tE {t:af} {P:Nat}:∀ (m k:Nat) (u:af) (s:Sq gm),k+m=t.ins.n->G1 t P k u s.n->Lx t u s->G1 t P t.ins.n (uN true m k (u,s)).1 (uN true m k (u,s)).2.n/\Lx t (uN true m k (u,s)).1 (uN true m k (u,s)).2
 | 0,k,u,s,hk,h,hr=>by
   have:k=t.ins.n:=by omega
   subst this
   exact ⟨h,hr⟩
 | m+1,k,u,s,hk,h,hr=>by
   obtain ⟨r,b,hp,h1,h2⟩:=h.step (by omega)
   unfold uN
   cases b with
   | false=>
     rw [show nJ true k (u,s)=(u,s) from by unfold nJ; rw [hp]; rfl]
     exact tE m (k+1) u s (by omega) (h1 rfl) hr
   | true=>
     obtain ⟨h0,h3,h4⟩:=h2 rfl
     rw [show nJ true k (u,s)=(iD u r,Mo s r) from by unfold nJ; rw [hp]; show (bif bM (iD u r)!=0 then _ else _)=_; rw [h0]; rfl]
     exact tE m (k+1) _ _ (by omega) h3 (hr.snoc h4)
open Go Go.V
def aX (u:af) (k:Nat):af:=⟨u.place,⟨u.ins.n,λi=>bif Nat.blt i k&&ec u i then dN else u.ins.get i⟩,u.aa⟩
theorem sh {u:af} {k i:Nat} (h:(Nat.blt i k&&ec u i)=true):(aX u k).ins.get i=dN:=by
 show (bif Nat.blt i k&&ec u i then dN else _)=_
 rw [h]; rfl
theorem mK {u:af} {k i:Nat} (h:(Nat.blt i k&&ec u i)=false):(aX u k).ins.get i=u.ins.get i:=by
 show (bif Nat.blt i k&&ec u i then dN else _)=_
 rw [h]; rfl
theorem Iz {u:af} {i:Nat} (h:ec u i=true):dE (u.ins.get i).op=true:=by
 unfold ec at h
 cases hm:dE (u.ins.get i).op with
 | true=>rfl
 | false=>rw [hm] at h; cases h
theorem Jh {u:af} {k i:Nat} (h:dE (u.ins.get i).op=false):(aX u k).ins.get i=u.ins.get i:=mK (by
 cases hs:ec u i with
 | false=>rw [Bool.and_false]
 | true=>rw [Iz hs] at h; cases h)
section
variable {u:af} {P:Nat}
theorem V8 {op:Int} (h:wK op=true):dE op=false:=by
 cases hm:dE op with
 | false=>rfl
 | true=>
   rcases oT hm with e|e<;>rw [e] at h<;>exact absurd h (by decide)
theorem AK {op:Int} (h:dE op=true):0<fV op/\(op==20)=false/\eX op=0/\iK op=false:=by
 rcases oT h with e|e<;>rw [e]<;>exact ⟨by decide,rfl,rfl,rfl⟩
theorem bO.nw (h:bO u P) {v:Int} {i:Nat} (hi:i<u.ins.n) (hv:v=0∨fN u.ins v i):dE (u.ins.get v.toNat).op=false:=by
 rcases hv with e|⟨j,e,_,h1,_⟩
 .rw [e]
  show dE (u.ins.get 0).op=false
  cases hm:dE (u.ins.get 0).op with
  | false=>rfl
  | true=>
    obtain ⟨w1,w2,_⟩:=AK hm
    obtain ⟨j,_,hj,_⟩:=(h.all 0 (by omega)).use 0 (by
     unfold aV
     rw [w2]
     show 0<(fV (u.ins.get 0).op).toNat
     omega)
    exact absurd hj (Nat.not_lt_zero j)
 .rw [e]
  exact V8 h1
theorem bO.W2 (h:bO u P) {i:Nat} (hi:i<u.ins.n) (hw:dE (u.ins.get i).op=true):(u.ins.get i).exit = -1:=by
 rcases (h.all i hi).exi with ⟨e,_⟩|⟨e,_,_,h1,_⟩
 .exact e
 .exact absurd (AK hw).2.2.1 h1
theorem tk (h:bO u P) (hn:∀ k,k<u.ins.n->(u.ins.get k).n<=9223372036854775807) (k:Nat) {i:Nat} (hi:i<u.ins.n):Refs u.ins.get (aX u k).ins.get (u.ins.get i):=
 ⟨Jh (h.nw hi (h.ab hn hi).1),Jh (h.nw hi (h.ab hn hi).2)⟩
theorem rn (h:bO u P) (hn:∀ k,k<u.ins.n->(u.ins.get k).n<=9223372036854775807) {k:Nat} (h':bO (aX u k) P) (nr:∀ i,i<u.ins.n->((aX u k).ins.get i).n<=9223372036854775807) {p q:Nat} (hp:p<u.ins.n) (hq:q<u.ins.n) (ep:(aX u k).ins.get p=u.ins.get p) (eq:(aX u k).ins.get q=u.ins.get q):cp (aX u k) p q=cp u p q:=by
 rw [wG h' nr hp hq,wG h hn hp hq,ep,eq]
 exact zn (tk h hn k hp) (tk h hn k hq)
theorem HE {i k:Nat} (h:k<=i):Nat.blt i k=false:=by
 cases hb:Nat.blt i k with
 | false=>rfl
 | true=>rw [Hh] at hb; omega
theorem NS (h:bO u P) (hn:∀ k,k<u.ins.n->(u.ins.get k).n<=9223372036854775807) {k:Nat} (h':bO (aX u k) P) (nr:∀ i,i<u.ins.n->((aX u k).ins.get i).n<=9223372036854775807) (hk:k<u.ins.n):ec (aX u k) k=ec u k:=by
 have g:∀ j,k<=j->(aX u k).ins.get j=u.ins.get j:=λj hj=>mK (by rw [HE hj,Bool.false_and])
 have key:∀ m j,k<j->j+m<=u.ins.n->ly (aX u k) k m j=ly u k m j:=by
  intro m
  induction m with
  | zero=>intro j _ _; rfl
  | succ m ih=>
    intro j hj hm
    unfold ly
    rw [g j (by omega),rn h hn h' nr hk (by omega) (g k (bl _)) (g j (by omega)),ih (j+1) (by omega) (by omega)]
 unfold ec
 rw [g k (bl _)]
 rw [show (aX u k).ins.n=u.ins.n from rfl,key _ _ (Nat.lt_succ_self k) (by omega)]
theorem KX (h:bO u P) (hn:∀ k,k<u.ins.n->(u.ins.get k).n<=9223372036854775807) {n:Nat} (h':bO (aX u n) P) (nr:∀ i,i<u.ins.n->((aX u n).ins.get i).n<=9223372036854775807) (hnn:n=u.ins.n) {i:Nat} (hi:i<u.ins.n):ec (aX u n) i=false:=by
 cases hs:ec u i with
 | true=>
   have e:(aX u n).ins.get i=dN:=sh (by rw [hs,da (by omega)]; rfl)
   unfold ec
   rw [e]; rfl
 | false=>
   have e:(aX u n).ins.get i=u.ins.get i:=mK (by rw [hs,Bool.and_false])
   have key:∀ m j,i<j->j+m<=u.ins.n->ly (aX u n) i m j=true->ly u i m j=true:=by
    intro m
    induction m with
    | zero=>intro j _ _ q; exact q
    | succ m ih=>
      intro j hj hm q
      unfold ly at q ⊢
      cases hd:ec u j with
      | false=>
        have ej:(aX u n).ins.get j=u.ins.get j:=mK (by rw [hd,Bool.and_false])
        rw [ej,rn h hn h' nr hi (by omega) e ej] at q
        cases c1:dE (u.ins.get j).op&&cp u i j==2 with
        | true=>rfl
        | false=>
          rw [c1] at q
          simp only [cond_false] at q ⊢
          cases c2:decide ((u.ins.get j).exit≥0)||(iK (u.ins.get j).op&&cp u i j != 0) with
          | true=>rw [c2] at q; cases q
          | false=>
            rw [c2] at q
            exact ih (j+1) (by omega) (by omega) q
      | true=>
        have ej:(aX u n).ins.get j=dN:=sh (by rw [hd,da (by omega)]; rfl)
        rw [ej] at q
        have q:ly (aX u n) i m (j+1)=true:=q
        have r:=ih (j+1) (by omega) (by omega) q
        have hw:=Iz hd
        rw [hw,h.W2 (by omega) hw,(AK hw).2.2.2,Bool.true_and]
        cases cp u i j==2 with
        | true=>rfl
        | false=>exact r
   unfold ec at hs ⊢
   rw [e]
   cases hm:dE (u.ins.get i).op with
   | false=>rfl
   | true=>
     rw [hm] at hs
     simp only [cond_true] at hs ⊢
     rw [show (aX u n).ins.n=u.ins.n from rfl]
     cases hq:ly (aX u n) i (u.ins.n-(i+1)) (i+1) with
     | false=>rfl
     | true=>rw [key _ _ (Nat.lt_succ_self i) (by omega) hq] at hs; cases hs
theorem Em {i:Nat}:∀ (m j:Nat),ly u i m j=true->∃ j2,j<=j2/\j2<j+m/\dE (u.ins.get j2).op=true/\cp u i j2=2/\∀ q,j<=q->q<j2->iK (u.ins.get q).op=true->cp u i q=0
 | 0,j,h=>by cases h
 | m+1,j,h=>by
   unfold ly at h
   cases c1:dE (u.ins.get j).op&&cp u i j==2 with
   | true=>
     rw [di,beq_iff_eq] at c1
     exact ⟨j,bl _,by omega,c1.1,c1.2,λq a b=>by omega⟩
   | false=>
     rw [c1] at h
     simp only [cond_false] at h
     cases c2:decide ((u.ins.get j).exit≥0)||(iK (u.ins.get j).op&&cp u i j != 0) with
     | true=>rw [c2] at h; cases h
     | false=>
       rw [c2] at h
       obtain ⟨j2,a,b,c,d,e⟩:=Em m (j+1) h
       refine ⟨j2,by omega,by omega,c,d,λq q1 q2 q3=>?_⟩
       by_cases hq:q=j
       .subst hq
        rw [Bool.or_eq_false_iff,q3,Bool.true_and,bne_eq_false_iff_eq] at c2
        exact c2.2
       .exact e q (by omega) q2 q3
theorem jv {t:af} {cE:Int->Bool}:∀ {k:Nat},(∃ j,nh t cE k=some j/\j<k/\(t.ins.get j).once=false/\cE (Int.ofNat j)=true/\∀ q,j<q->q<k->(t.ins.get q).once=true∨cE (Int.ofNat q)=false)∨(nh t cE k=none/\∀ q,q<k->(t.ins.get q).once=true∨cE (Int.ofNat q)=false)
 | 0=>.inr ⟨rfl,λq h=>absurd h (Nat.not_lt_zero q)⟩
 | k+1=>by
   unfold nh
   cases ho:(t.ins.get k).once with
   | false=>
     cases hs:cE (Int.ofNat k) with
     | true=>exact .inl ⟨k,rfl,Nat.lt_succ_self k,ho,hs,λq a b=>by omega⟩
     | false=>
       rcases jv (t:=t) (cE:=cE) (k:=k) with ⟨j,a,b,c,d,e⟩|⟨a,b⟩
       .exact .inl ⟨j,a,by omega,c,d,λq q1 q2=>by
         by_cases hq:q=k
         .subst hq; exact .inr hs
         .exact e q q1 (by omega)⟩
       .exact .inr ⟨a,λq q1=>by
         by_cases hq:q=k
         .subst hq; exact .inr hs
         .exact b q (by omega)⟩
   | true=>
     rcases jv (t:=t) (cE:=cE) (k:=k) with ⟨j,a,b,c,d,e⟩|⟨a,b⟩
     .exact .inl ⟨j,a,by omega,c,d,λq q1 q2=>by
       by_cases hq:q=k
       .subst hq; exact .inl ho
       .exact e q q1 (by omega)⟩
     .exact .inr ⟨a,λq q1=>by
       by_cases hq:q=k
       .subst hq; exact .inl ho
       .exact b q (by omega)⟩
theorem Sz (h:bO u P) (hn:∀ k,k<u.ins.n->(u.ins.get k).n<=9223372036854775807) {n:Nat} (h':bO (aX u n) P) (nr:∀ i,i<u.ins.n->((aX u n).ins.get i).n<=9223372036854775807) (hnn:n=u.ins.n) {i:Nat} (hi:i<u.ins.n) (hf:(Fk (rT u i)).2=false):(Fk (rT (aX u n) i)).2=false:=by
 have once:∀ j,j<u.ins.n->(u.ins.get j).once=false:=λj hj=>(h.all j hj).once
 cases hs:ec u i with
 | true=>
   have e:(aX u n).ins.get i=dN:=sh (by rw [hs,da (by omega)]; rfl)
   exact Vl (by rw [e]; rfl) (by rw [e]; rfl) (by rw [e]; rfl) (by rw [e]; rfl)
 | false=>
   have e:(aX u n).ins.get i=u.ins.get i:=mK (by rw [hs,Bool.and_false])
   have ea:=(tk h hn n hi).a
   have nd:∀ {j},ec u j=false->(aX u n).ins.get j=u.ins.get j:=λq=>mK (by rw [q,Bool.and_false])
   have yd:∀ {j},j<u.ins.n->ec u j=true->(aX u n).ins.get j=dN:=λa q=>sh (by rw [q,da (by omega)]; rfl)
   have o1:=once i hi
   unfold rT at hf ⊢
   rw [o1] at hf
   rw [e,ea,o1]
   simp only [cond_false] at hf ⊢
   cases Q9:iK (u.ins.get i).op with
   | true=>
     rw [Q9] at hf
     simp only [cond_true] at hf ⊢
     have rd:∀ j,j<i->ec u j=false->fT (aX u n) i j=fT u i j:=λj hj q=>by
      unfold fT
      rw [nd q,rn h hn h' nr (by omega) hi (nd q) e]
     have rg:∀ j,j<i->ec u j=true->fT (aX u n) i j=false:=λj hj q=>by
      unfold fT
      rw [yd (by omega) q]; rfl
     have same:nh (aX u n) (tN (aX u n) i) i=nh u (tN u i) i:=by
      rcases jv (t:=u) (cE:=tN u i) (k:=i) with ⟨j,a,b,c,d,l⟩|⟨a,b⟩
      .have hj:ec u j=false:=by
        cases hd:ec u j with
        | false=>rfl
        | true=>
          exfalso
          have d:fT u i j=true:=d
          have hw:=Iz hd
          have hd2:=hd
          unfold ec at hd2
          rw [hw] at hd2
          obtain ⟨j2,q1,q2,q3,q4,q5⟩:=Em _ _ hd2
          have hj2:j2<u.ins.n:=by omega
          have rne:cp u j i≠0:=λz=>by
           unfold fT at d
           rw [z] at d
           simp at d
          have j2i:j2<i:=by
           by_cases z:j2<i
           .exact z
           .by_cases z2:j2=i
            .subst z2
             rw [(AK q3).2.2.2] at Q9; cases Q9
            .exact absurd (q5 i (by omega) (by omega) Q9) rne
          have r2:cp u j2 i=cp u j i:=by
           rw [wG h hn hj2 hi,wG h hn (by omega) hi]
           rw [wG h hn (by omega) hj2] at q4
           exact (O0 q4 _).symm
          rcases l j2 (by omega) j2i with z|z
          .rw [once j2 hj2] at z; cases z
          .have z:fT u i j2=false:=z
           unfold fT at d z
           rw [q3,r2,Bool.or_true,Bool.true_and,Bool.and_true] at z
           rw [di] at d
           have d2:=d.2
           rw [hw,Bool.and_true] at d2
           rw [d2] at z; cases z
       rcases jv (t:=aX u n) (cE:=tN (aX u n) i) (k:=i) with ⟨j',a',b',c',d',l'⟩|⟨a',b'⟩
       .rw [a,a']
        by_cases z:j'<j
        .rcases l' j z b with w|w
         .rw [nd hj,c] at w; cases w
         .have w:fT (aX u n) i j=false:=w
          have d:fT u i j=true:=d
          rw [rd j b hj,d] at w; cases w
        .by_cases z2:j'=j
         .rw [z2]
         .have d':fT (aX u n) i j'=true:=d'
          cases hd:ec u j' with
          | true=>rw [rg j' b' hd] at d'; cases d'
          | false=>
            rcases l j' (by omega) b' with w|w
            .rw [once j' (by omega)] at w; cases w
            .have w:fT u i j'=false:=w
             rw [rd j' b' hd,w] at d'; cases d'
       .rcases b' j b with w|w
        .rw [nd hj,c] at w; cases w
        .have w:fT (aX u n) i j=false:=w
         have d:fT u i j=true:=d
         rw [rd j b hj,d] at w; cases w
      .rcases jv (t:=aX u n) (cE:=tN (aX u n) i) (k:=i) with ⟨j',a',b',c',d',l'⟩|⟨a',b'⟩
       .have d':fT (aX u n) i j'=true:=d'
        cases hd:ec u j' with
        | true=>rw [rg j' b' hd] at d'; cases d'
        | false=>
          rcases b j' b' with w|w
          .rw [once j' (by omega)] at w; cases w
          .have w:fT u i j'=false:=w
           rw [rd j' b' hd,w] at d'; cases d'
       .rw [a,a']
     unfold Gy at hf ⊢
     rw [same]
     rcases jv (t:=u) (cE:=tN u i) (k:=i) with ⟨j,a,b,c,d,l⟩|⟨a,b⟩
     .rw [a] at hf ⊢
      have hj:ec u j=false:=by
       cases hd:ec u j with
       | false=>rfl
       | true=>
         exfalso
         have:nh (aX u n) (tN (aX u n) i) i=some j:=by rw [same,a]
         have q:=mP this
         have q:fT (aX u n) i j=true:=q
         rw [rg j b hd] at q; cases q
      have:jj (aX u n) i j=jj u i j:=by
       unfold jj
       rw [nd hj,rn h hn h' nr (by omega) hi (nd hj) e]
      simp only [this]
      exact hf
     .rw [a] at hf ⊢
      have:sR (aX u n) i=sR u i:=by unfold sR; rw [e,ea]
      simp only [this]
      exact hf
   | false=>
     rw [Q9] at hf
     simp only [cond_false] at hf ⊢
     have mono:∀ (S:af->Nat->Nat->Bool),(∀ j,j<i->ec u j=false->S (aX u n) i j=S u i j)->(∀ j,j<i->ec u j=true->S (aX u n) i j=false)->yj S u i=false->yj S (aX u n) i=false:=by
      intro S h1 h2 h3
      unfold yj at h3 ⊢
      rcases jv (t:=u) (cE:=tY S u i) (k:=i) with ⟨j,a,_⟩|⟨_,b⟩
      .rw [a] at h3; cases h3
      .rcases jv (t:=aX u n) (cE:=tY S (aX u n) i) (k:=i) with ⟨j',a',b',c',d',l'⟩|⟨a',b'⟩
       .exfalso
        have d':S (aX u n) i j'=true:=d'
        cases hd:ec u j' with
        | true=>rw [h2 j' b' hd] at d'; cases d'
        | false=>
          rcases b j' b' with w|w
          .rw [once j' (by omega)] at w; cases w
          .have w:S u i j'=false:=w
           rw [h1 j' b' hd,w] at d'; cases d'
       .rw [a']
     have m1:=mono cV (λj hj q=>by unfold cV; rw [nd q,e]) (λj hj q=>by unfold cV; rw [yd (by omega) q]; rfl)
     have m2:=mono dx (λj hj q=>by unfold dx; rw [nd q,e]) (λj hj q=>by
      unfold dx
      rw [yd (by omega) q,show mb dN.op q5=false from by kernel_rfl,Bool.and_false])
     cases h7:(u.ins.get i).op==7 with
     | true=>
       rw [h7] at hf
       simp only [cond_true] at hf ⊢
       cases Q8:(u.ins.get (u.ins.get i).a.toNat).op==16 with
       | true=>
         rw [Q8] at hf
         simp only [cond_true] at hf ⊢
         cases hu : !lY (u.ins.get (u.ins.get i).a.toNat) (u.ins.get i) with
         | true=>rw [hu] at hf; cases hf
         | false=>
           rw [hu] at hf
           simp only [cond_false] at hf ⊢
           exact m1 hf
       | false=>
         rw [Q8] at hf
         simp only [cond_false] at hf ⊢
         exact m1 hf
     | false=>
       rw [h7] at hf
       simp only [cond_false] at hf ⊢
       cases h8:(u.ins.get i).op==8 with
       | true=>
         rw [h8] at hf
         simp only [cond_true] at hf ⊢
         exact m2 hf
       | false=>rfl
theorem Ke {k:Nat} (hs:ec u k=true):iD (aX u k) ⟨3,(k:Int),0,dS⟩=aX u (k+1):=by
 show (⟨u.place,⟨u.ins.n,λi=>bif Nat.beq i k then dN else (aX u k).ins.get i⟩,u.aa⟩:af)=_
 unfold aX
 congr 2
 funext i
 by_cases h:i=k
 .subst h
  rw [gu,hs,da (Nat.lt_succ_self i)]; rfl
 .rw [Co h,show Nat.blt i (k+1)=Nat.blt i k from by rw [Es,Hh,Hh]; omega]; rfl
theorem zv {k:Nat} (hs:ec u k=false):aX u (k+1)=aX u k:=by
 unfold aX
 congr 2
 funext i
 by_cases h:i=k
 .subst h
  rw [hs,Bool.and_false,Bool.and_false]
 .rw [show Nat.blt i (k+1)=Nat.blt i k from by rw [Es,Hh,Hh]; omega]
theorem drop_zero:aX u 0=u:=by
 unfold aX
 have:(λi=>bif Nat.blt i 0&&ec u i then dN else u.ins.get i)=u.ins.get:=by
  funext i
  rw [HE (bn i)]; rfl
 rw [this]
theorem sY {t:af} (hI1:Inv t.ins.n u) (h1:bO u P) (CB:∀ i,i<t.ins.n->(u.ins.get i).op=(t.ins.get i).op∨(uM (t.ins.get i).op/\((u.ins.get i).op=0∨(u.ins.get i).op=2))):∀ (m k:Nat) (s:Sq gm),k+m=t.ins.n->Inv t.ins.n (aX u k)->bO (aX u k) P->s.n=jB (λi=>((aX u k).ins.get i).op != (t.ins.get i).op) t.ins.n->Lx t (aX u k) s->
  (uN false m k (aX u k,s)).1=aX u t.ins.n/\Inv t.ins.n (aX u t.ins.n)/\bO (aX u t.ins.n) P/\(uN false m k (aX u k,s)).2.n=jB (λi=>((aX u t.ins.n).ins.get i).op != (t.ins.get i).op) t.ins.n/\Lx t (aX u t.ins.n) (uN false m k (aX u k,s)).2
 | 0,k,s,hk,hI,hr,hc,hp=>by
   have:k=t.ins.n:=by omega
   subst this
   exact ⟨rfl,hI,hr,hc,hp⟩
 | m+1,k,s,hk,hI,hr,hc,hp=>by
   have hku:k<u.ins.n:=by rw [hI1.n]; omega
   have nr:∀ i,i<u.ins.n->((aX u k).ins.get i).n<=9223372036854775807:=hI.num
   have hsec:=NS h1 hI1.num hr nr hku
   unfold uN
   cases hs:ec u k with
   | false=>
     rw [show nJ false k (aX u k,s)=(aX u (k+1),s) from by unfold nJ vk; rw [zv hs,hsec,hs]; rfl]
     have e:=zv hs
     exact sY hI1 h1 CB m (k+1) s (by omega) (by rw [e]; exact hI) (by rw [e]; exact hr) (by rw [e]; exact hc) (by rw [e]; exact hp)
   | true=>
     have hw:=Iz hs
     have ek:(aX u k).ins.get k=u.ins.get k:=mK (by rw [HE (bl k),Bool.false_and])
     have hf:Fit (aX u k) k ⟨3,(k:Int),0,dS⟩:=.inl ⟨rfl,by rw [ek]; rcases oT hw with z|z<;>rw [z]<;>simp⟩
     have e:=Ke hs
     have Dn:=hr.fit hI.num hku hf
     have hnum':∀ i,i<(iD (aX u k) ⟨3,(k:Int),0,dS⟩).ins.n->((iD (aX u k) ⟨3,(k:Int),0,dS⟩).ins.get i).n<=9223372036854775807:=λi hi=>Ce hI.num _ i (by rw [CY] at hi; exact hi)
     have h0:bM (iD (aX u k) ⟨3,(k:Int),0,dS⟩)=0:=by rw [qZ _ hnum']; exact Dn.right
     have hI':=hI.next h0
     have hw43:=hf.rewrite hI (by omega)
     rw [M7 h0] at hw43
     rw [show nJ false k (aX u k,s)=(aX u (k+1),Mo s ⟨3,(k:Int),0,dS⟩) from by
      unfold nJ vk
      rw [show ec (aX u k) k=true from by rw [hsec,hs]]
      show (bif bM (iD (aX u k) ⟨3,(k:Int),0,dS⟩)!=0 then _ else _)=_
      rw [h0]
      show (iD (aX u k) ⟨3,(k:Int),0,dS⟩,Mo s ⟨3,(k:Int),0,dS⟩)=_
      rw [e]]
     rw [e] at Dn hI' hw43
     have hop:(u.ins.get k).op=(t.ins.get k).op:=by
      rcases CB k (by omega) with z|⟨_,z⟩
      .exact z
      .rcases z with z|z<;>rw [z] at hw<;>cases hw
     refine sY hI1 h1 CB m (k+1) _ (by omega) hI' Dn ?_ (hp.snoc hw43)
     show s.n+1=_
     rw [hc]
     refine (wL (k:=k) ?_ ?_ (by omega) λi hi CA=>?_).symm
     .rw [ek,hop]; simp
     .rw [show (aX u (k+1)).ins.get k=dN from sh (by rw [hs,da (Nat.lt_succ_self k)]; rfl),<- hop]
      rcases oT hw with z|z<;>rw [z]<;>rfl
     .have:(aX u (k+1)).ins.get i=(aX u k).ins.get i:=by
       show (bif Nat.blt i (k+1)&&ec u i then _ else _)=(bif Nat.blt i k&&ec u i then _ else _)
       rw [show Nat.blt i (k+1)=Nat.blt i k from by rw [Es,Hh,Hh]; omega]
      rw [this]
theorem xA {p:Bool}:∀ (m k:Nat) (s:Sq gm),(∀ i,k<=i->i<k+m->(vk p u i).2=false)->uN p m k (u,s)=(u,s)
 | 0,_,_,_=>rfl
 | m+1,k,s,h=>by
   unfold uN
   rw [show nJ p k (u,s)=(u,s) from by unfold nJ; rw [h k (bl _) (by omega)]; rfl]
   exact xA m (k+1) s λi h1 h2=>h i (by omega) (by omega)
end
theorem GO {t:af} {P:Nat} (hI:Inv t.ins.n t) (hr:bO t P):∃ u,Lx t u (eC t)/\Inv t.ins.n u/\(eC t).n=jB (λi=>(u.ins.get i).op != (t.ins.get i).op) t.ins.n/\(eC u).n=0:=by
 have g0:G1 t P 0 t 0:=⟨hI,hr,λi h=>absurd h (Nat.not_lt_zero i),λi h=>absurd h (Nat.not_lt_zero i),λi _ _=>rfl,(zx λi _=>by simp).symm⟩
 obtain ⟨a1,a2⟩:=tE t.ins.n 0 t (aK pS) (by omega) g0 (Lx.nil t)
 generalize hx:uN true t.ins.n 0 (t,aK pS)=x at a1 a2
 obtain ⟨u,s⟩:=x
 have a1:G1 t P t.ins.n u s.n:=a1
 have a2:Lx t u s:=a2
 have b:=sY a1.inv a1.right a1.lo t.ins.n 0 s (by omega) (by rw [drop_zero]; exact a1.inv) (by rw [drop_zero]; exact a1.right) (by rw [drop_zero]; exact a1.cnt) (by rw [drop_zero]; exact a2)
 rw [drop_zero] at b
 obtain ⟨_,b2,b3,b4,b5⟩:=b
 have e:eC t=(uN false t.ins.n 0 (u,s)).2:=by
  unfold eC
  rw [hI.ok,hx]; rfl
 refine ⟨aX u t.ins.n,by rw [e]; exact b5,b2,by rw [e]; exact b4,?_⟩
 have hn:t.ins.n=u.ins.n:=a1.inv.n.symm
 have f1:∀ i,0<=i->i<0+t.ins.n->(vk true (aX u t.ins.n) i).2=false:=λi _ h=>Sz a1.right a1.inv.num b3 b2.num hn (by omega) (a1.done i (by omega))
 have f2:∀ i,0<=i->i<0+t.ins.n->(vk false (aX u t.ins.n) i).2=false:=λi _ h=>KX a1.right a1.inv.num b3 b2.num hn (by omega)
 unfold eC
 rw [b2.ok,b2.n,xA _ _ _ f1,xA _ _ _ f2]
 rfl
end
end Go.Proofs.Ytapefhcmohbmaaa
