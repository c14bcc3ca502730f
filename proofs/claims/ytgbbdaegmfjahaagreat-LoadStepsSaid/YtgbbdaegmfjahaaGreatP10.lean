/- Loops: what is to be shown. -/
import Derived.Test.YtgbbdaegmfjahaaGreatP9
import Derived.Test.YtgbbdaegmfjahaaGreatP7
import Derived.Test.YtgbbdaegmfjahaaGreatP8
set_option linter.unusedVariables false
set_option linter.unusedSimpArgs false
set_option maxRecDepth 1000000
namespace Go.Proofs.YtgbbdaegmfjahaaGreat
open Go Go.V
noncomputable section
section
def jC (kd at' BM:Int) (v:jd):ah:=.box [ci kd,ci at',ci BM,ci v.kind,ci v.n,.im (iS v.s)]
def nz (b:Bool):ah:=.box [.im (iB b)]
def F99:FuncId->List D->List ah->Out:=ext F65 [(101,λds rs=>(.c (.fL 132 [rs.length+1,rs.length]),[],[.box (lift (aT (dO ds 0))),.box [.im (iI (aI ds 1))]]))]
def X99 (p:Bool) (kd at' BM:Int) (b:Bool):eU:={ F:=F99,S:=[1,2,8],B:=λ_ _ _=>p,R1:=λ_ _ _=>(.t [],[],[]),R2:=λ_ ds rs=>(.t [],[(1,jC kd at' BM dk),(2,nz b),(8,GU false (bh rs 8))],[]) }
section
variable (t:ak) (k:Nat) (j:Int)
def iY (j:Nat):Int×Int×Int×Bool:=bif cf t j k==2 then (bif ij (t.ins.get j).op then (2,(k:Int),(j:Int),true) else bif (t.ins.get j).op==11 then (2,(k:Int),(t.ins.get j).b,true) else (2,(k:Int),(t.ins.get j).c,true)) else (0,0,0,false)
def iA (j:Nat):Bool:=(ij (t.ins.get j).op||et (t.ins.get j).op)&&(cf t j k==2||(cf t j k==1&&et (t.ins.get j).op))
def yr:Bool:=iA t k j.toNat
def xF:ah:=bif iA t k j.toNat then jC (iY t k j.toNat).1 (iY t k j.toNat).2.1 (iY t k j.toNat).2.2.1 dk else jC 0 0 0 dk
def xV:ah:=bif iA t k j.toNat then nz (iY t k j.toNat).2.2.2 else nz false
def rh:Bool:=bif (t.ins.get k).op==10 then bif (t.ins.get (t.ins.get k).a.toNat).op==16 then decide ((t.ins.get k).n<((t.ins.get (t.ins.get k).a.toNat).names.n:Int)) else false else false
def OT:D:=match rW t (yr t k) k with
 | some j=>kg (iY t k j).1 (iY t k j).2.1 (iY t k j).2.2.1 dk (iY t k j).2.2.2
 | none=>kg 1 k 0 td (rh t k)
def KQ:a8:=[(2,.c (.rt 0 0 0),[]),(3,.c (.rt 3 0 0),[]),(4,.c (.rt 1 0 0),[]),(5,.c (.rt 2 0 0),[]),(6,.c (.rt 4 0 0),[]),(18,.c (.fL 132 [6,5]),[])]
end
end
def Qi:Nat->Bool:=λi=>Nat.beq i 2
theorem ba7:Fn 99:={}
section
variable (L:LP) (aj:Nat) (QD:D->Prop) (p:Bool) (kd pT jL:Int) (b:Bool) (t:ak) (k:Nat)
theorem aZ1 (h:nd (bQ (↑k:Int) t.2.1) (L (af 99 2) ⟨[b4,fV,mC,(5,((.c (.rt 3 0 0)),[])),Ky],[(aU t),(rj k),gq,(.box [ea]),(eS t k)],[]⟩)):ep (X99 p kd pT jL b) 99 Qi L (bf QD) [aO t,int k] []:=km h
abbrev wE:eQ:=(5,.c (.rt 2 0 0),[])
def Ki (p:Bool) (kd pT jL:Int) (b:Bool) (t:ak) (k:Nat)  : VS:=⟨[gm,(3,.c (.rt 3 0 0),[]),ji,wE,(6,.c (.rt 4 0 0),[])],[.box (lift (aT t)),jC 0 0 0 dk,nz false,.box [.im (iI k)],.box (lift (bW (t.ins.get k)))],[]⟩
abbrev oP:ah:=.box [(ci (Int.ofNat aj))]
abbrev wF:List D:=[(.c (.yl 8)),(.c (.rt 6 0 0)),(.c (.rt 5 0 0))]
abbrev Sr (aj:ak) (ax:Nat):List ah:=[(aU aj),gq,(.box [ea]),(rj ax),(eS aj ax),(aU aj),(oP ax),.mi,(.loop 99 104 [(2,((.c (.rt 0 0 0)),[])),(3,((.c (.rt 3 0 0)),[])),(4,((.c (.rt 1 0 0)),[])),(5,((.c (.rt 2 0 0)),[])),(6,((.c (.rt 4 0 0)),[])),(18,((.c (.fL 132 [6,5])),[]))] [19,20] (sg 99) (sB 99) .ready none)]
abbrev Va:D:=.t [(.true,[(ci 1),(ci (↑aj:Int)),(ci 0),(ci 1),(ci 0),(.im (.v (.string ⟨⟨[]⟩⟩)))]),(.false,[(.im (.v (.bool false)))])]
theorem Sl (h:(LC 101 (mf t k) [(aU t),gq,(.box [ea]),(rj k),(eS t k)] (.c (.fL 132 [6,5])) [(aU t),gq,(.box [ea]),(rj k),(eS t k),(aU t),(oP k)]/\br (p) ((LC 132 wF (Sr t k) (.t []) (Sr t k)/\br ((t.2.2 k).1==10) (nd (bQ (t.2.2 k).2 t.2.1) (br ((t.2.2 (t.2.2 k).2.toNat).1==16) (nd (bQ (t.2.2 k).2 t.2.1) (QD (.t [(.true,[(ci 1),(ci (↑k:Int)),(ci 0),(ci 1),(ci 0),(.im (.v (.string ⟨⟨[]⟩⟩)))]),(.false,[(.im (.v (.bool (decide ((t.2.2 k).5<(↑(t.2.2 (t.2.2 k).2.toNat).8.1:Int))))))])]))) (QD (Va k)))) (QD (Va k)))) ((LC 132 wF (Sr t k) (.t []) [(aU t),(.box [(ci kd),(ci pT),(ci jL),(ci 0),(ci 0),dH]),(.box [(.im (.v (.bool b)))]),(rj k),(eS t k),(aU t),(oP k),.mi,(.loop 99 104 [(2,((.c (.rt 0 0 0)),[])),(3,((.c (.rt 3 0 0)),[])),(4,((.c (.rt 1 0 0)),[])),(5,((.c (.rt 2 0 0)),[])),(6,((.c (.rt 4 0 0)),[])),(18,((.c (.fL 132 [6,5])),[]))] [19,20] (sg 99) (sB 99) .done (some .ret))]/\QD (.t [(.true,[(ci kd),(ci pT),(ci jL),(ci 0),(ci 0),(.im (.v (.string ⟨⟨[]⟩⟩)))]),(.false,[(.im (.v (.bool b)))])]))))):b5 (X99 p kd pT jL b) 99 Qi L (bf QD) 2 (Ki p kd pT jL b t k ):=km h
theorem o6 {t:ak} {dP:Int->Bool} {j:Nat}:∀ {k:Nat},rW t dP k=some j->dP (Int.ofNat j)=true
 | 0,h=>by cases h
 | k+1,h=>by
   unfold rW at h
   cases h0 : !(t.ins.get k).once with
   | false=>rw [h0] at h; exact o6 h
   | true=>
     cases h1:dP (Int.ofNat k) with
     | false=>rw [h0,h1] at h; exact o6 h
     | true=>
       grind
abbrev Sd (aj:D->List ah->Prop) (ax:ak) (aJ:Nat) (aZ bR:ah) (cW:Nat):Prop:=aj (bool true) [(.box (lift (aT (ax)))),(.box [(ci 0),(ci 0),(ci 0),(ci 0),(ci 0),(.im (.v (.string ⟨⟨[]⟩⟩)))]),(.box [(.im (.v (.bool false)))]),(.box [(ci (↑aJ:Int))]),(.box (lift (bW (ax.2.2 aJ)))),(.box (lift (aT (ax)))),(.box [(ci (↑aJ:Int))]),aZ,(.loop 99 104 [(2,((.c (.rt 0 0 0)),[])),(3,((.c (.rt 3 0 0)),[])),(4,((.c (.rt 1 0 0)),[])),(5,((.c (.rt 2 0 0)),[])),(6,((.c (.rt 4 0 0)),[])),(18,((.c (.fL 132 [6,5])),[]))] [19,20] (sg 99) (sB 99) .ready none),bR,(.box (lift (bW (ax.2.2 cW))))]
end
section
variable (aj t:ak) (ax k aJ:Nat) (aZ:D->List ah->Prop) (bR cW:ah)
abbrev aT8:Prop:=br (cf aj ax aJ==2) (aZ (bool false) [(.box (lift (aT (aj)))),(.box [(ci 2),(ci (↑aJ:Int)),(ci ((aj.2.2 ax).4)),(ci 0),(ci 0),(.im (.v (.string ⟨⟨[]⟩⟩)))]),(.box [(.im (.v (.bool true)))]),(.box [(ci (↑aJ:Int))]),(.box (lift (bW (aj.2.2 aJ)))),(.box (lift (aT (aj)))),(.box [(ci (↑aJ:Int))]),bR,(.loop 99 104 [(2,((.c (.rt 0 0 0)),[])),(3,((.c (.rt 3 0 0)),[])),(4,((.c (.rt 1 0 0)),[])),(5,((.c (.rt 2 0 0)),[])),(6,((.c (.rt 4 0 0)),[])),(18,((.c (.fL 132 [6,5])),[]))] [19,20] (sg 99) (sB 99) .done (some .ret)),cW,(.box (lift (bW (aj.2.2 ax))))]) (br (cf aj ax aJ==1) ((LC 102 [(eD aj ax)] [] (bool (et (aj.2.2 ax).1)) []/\br (et (aj.2.2 ax).1) (aZ (bool false) [(.box (lift (aT (aj)))),(.box [(ci 0),(ci 0),(ci 0),(ci 0),(ci 0),(.im (.v (.string ⟨⟨[]⟩⟩)))]),(.box [(.im (.v (.bool false)))]),(.box [(ci (↑aJ:Int))]),(.box (lift (bW (aj.2.2 aJ)))),(.box (lift (aT (aj)))),(.box [(ci (↑aJ:Int))]),bR,(.loop 99 104 [(2,((.c (.rt 0 0 0)),[])),(3,((.c (.rt 3 0 0)),[])),(4,((.c (.rt 1 0 0)),[])),(5,((.c (.rt 2 0 0)),[])),(6,((.c (.rt 4 0 0)),[])),(18,((.c (.fL 132 [6,5])),[]))] [19,20] (sg 99) (sB 99) .done (some .ret)),cW,(.box (lift (bW (aj.2.2 ax))))]) (Sd aZ aj aJ bR cW ax))) (Sd aZ aj aJ bR cW ax))
abbrev ap2:Prop:=br (cf aj ax aJ==2) (br ((aj.2.2 ax).1==11) (aZ (bool false) [(.box (lift (aT (aj)))),(.box [(ci 2),(ci (↑aJ:Int)),(ci ((aj.2.2 ax).3)),(ci 0),(ci 0),(.im (.v (.string ⟨⟨[]⟩⟩)))]),(.box [(.im (.v (.bool true)))]),(.box [(ci (↑aJ:Int))]),(.box (lift (bW (aj.2.2 aJ)))),(.box (lift (aT (aj)))),(.box [(ci (↑aJ:Int))]),bR,(.loop 99 104 [(2,((.c (.rt 0 0 0)),[])),(3,((.c (.rt 3 0 0)),[])),(4,((.c (.rt 1 0 0)),[])),(5,((.c (.rt 2 0 0)),[])),(6,((.c (.rt 4 0 0)),[])),(18,((.c (.fL 132 [6,5])),[]))] [19,20] (sg 99) (sB 99) .done (some .ret)),cW,(.box (lift (bW (aj.2.2 ax))))]) (aT8 aj ax aJ aZ bR cW)) (aT8 aj ax aJ aZ bR cW)
abbrev an7:Prop:=(LC 65 (wI aj ax aJ) [] (int (cf aj ax aJ)) []/\br (cf aj ax aJ==2) ((LC 98 [(eD aj ax)] [] (bool (ij (aj.2.2 ax).1)) []/\br (ij (aj.2.2 ax).1) (aZ (bool false) [(.box (lift (aT (aj)))),(.box [(ci 2),(ci (↑aJ:Int)),(ci (↑ax:Int)),(ci 0),(ci 0),(.im (.v (.string ⟨⟨[]⟩⟩)))]),(.box [(.im (.v (.bool true)))]),(.box [(ci (↑aJ:Int))]),(.box (lift (bW (aj.2.2 aJ)))),(.box (lift (aT (aj)))),(.box [(ci (↑aJ:Int))]),bR,(.loop 99 104 [(2,((.c (.rt 0 0 0)),[])),(3,((.c (.rt 3 0 0)),[])),(4,((.c (.rt 1 0 0)),[])),(5,((.c (.rt 2 0 0)),[])),(6,((.c (.rt 4 0 0)),[])),(18,((.c (.fL 132 [6,5])),[]))] [19,20] (sg 99) (sB 99) .done (some .ret)),cW,(.box (lift (bW (aj.2.2 ax))))]) (ap2 aj ax aJ aZ bR cW))) (ap2 aj ax aJ aZ bR cW))
theorem aM3 (QE:D->List ah->Prop) (t:ak) (k j:Nat) (r5 x:ah) (h:(LC 98 [(eD t j)] [] (bool (ij (t.2.2 j).1)) []/\br (!ij (t.2.2 j).1) ((LC 102 [(eD t j)] [] (bool (et (t.2.2 j).1)) []/\br (!et (t.2.2 j).1) (Sd QE t k r5 x j) (an7 t j k QE r5 x))) (an7 t j k QE r5 x))):vcY PN 99 8 QE ((20,fk (t.ins.get j),[])::(19,int j,[])::KQ) [.box (lift (aT t)),jC 0 0 0 dk,nz false,.box [.im (iI k)],.box (lift (bW (t.ins.get k))),.box (lift (aT t)),.box [.im (iI k)],r5,.loop 99 104 KQ [19,20] (sg 99) (sB 99) .ready none,x]:=km h
theorem y99 (j:Nat) (r5 x:ah) (hj:j<k) (hk:k<t.ins.n) (hS:aM t) (hm:gK t):nS nF Tryz.prog 8 [int j,fk (t.ins.get j)] [.box (lift (aT t)),jC 0 0 0 dk,nz false,.box [.im (iI k)],.box (lift (bW (t.ins.get k))),.box (lift (aT t)),.box [.im (iI k)],r5,.loop 99 104 KQ [19,20] (sg 99) (sB 99) .ready none,x] (bool (!yr t k (Int.ofNat j))) [.box (lift (aT t)),xF t k (Int.ofNat j),xV t k (Int.ofNat j),.box [.im (iI k)],.box (lift (bW (t.ins.get k))),.box (lift (aT t)),.box [.im (iI k)],r5,.loop 99 104 KQ [19,20] (sg 99) (sB 99) (bif !yr t k (Int.ofNat j) then .ready else .done) (bif !yr t k (Int.ofNat j) then none else some .ret),x]:=by
 have h65:LC 65 [aO t,int j,int k] [] (int (cf t j k)) []:=by
  grind [ah3]
 refine an9 (X:=PN) (f:=99) (yF:=KQ) (CE:=((20,fk (t.ins.get j),[])::(19,int j,[])::KQ)) (ps:=[19,20]) (by kernel_rfl) (by kernel_rfl) (aM3 _ t k j r5 x ?_)
 refine ⟨Ar _,?_⟩
 refine ag (λh0=>?_) (λh0=>?_)
 .refine ⟨vF _,?_⟩
  refine ag (λh1=>?_) (λh1=>?_)
  .have g0:ij (t.ins.get j).op=false:=by grind
   have g1:et (t.ins.get j).op=false:=by grind
   have e1:iA t k j=false:=by grind [iA]
   rw [show yr t k (Int.ofNat j)=false from e1,show xF t k (Int.ofNat j)=jC 0 0 0 dk from by show (bif iA t k j then _ else _)=_; rw [e1]; rfl,show xV t k (Int.ofNat j)=nz false from by show (bif iA t k j then _ else _)=_; rw [e1]; rfl]
   exact ⟨10,aQ rfl,aQ rfl,rfl,rfl,aX.refl _,by repeat' (first|exact trivial|refine ⟨.inl (.inl rfl),?_⟩|refine ⟨.inr rfl,?_⟩|refine ⟨.inl (.inr ⟨_,_,_,_,_,_,_,_,_,_,rfl,rfl⟩),?_⟩|done)⟩
  .refine ⟨h65,?_⟩
   refine ag (λh2=>?_) (λh2=>?_)
   .refine ⟨Ar _,?_⟩
    refine ag (λh3=>(by grind)) (λh3=>?_)
    refine ag (λh4=>?_) (λh4=>Bool.noConfusion (h2.symm.trans h4))
    refine ag (λh5=>?_) (λh5=>?_)
    .have g0:ij (t.ins.get j).op=false:=by grind
     have g1:et (t.ins.get j).op=true:=by grind
     have g2:(cf t j k==2)=true:=h2
     have g3:(ij (t.ins.get j).op)=false:=h3
     have g4:(cf t j k==2)=true:=h4
     have g5:((t.ins.get j).op==11)=true:=h5
     have e1:iA t k j=true:=by grind [iA]
     have e2:iY t k j=(2,(k:Int),(t.ins.get j).b,true):=by grind [iY]
     rw [show yr t k (Int.ofNat j)=true from e1,show xF t k (Int.ofNat j)=jC 2 (k:Int) (t.ins.get j).b dk from by show (bif iA t k j then jC (iY t k j).1 (iY t k j).2.1 (iY t k j).2.2.1 dk else _)=_; rw [e1,e2]; rfl,show xV t k (Int.ofNat j)=nz true from by show (bif iA t k j then nz (iY t k j).2.2.2 else _)=_; rw [e1,e2]; rfl]
     exact ⟨10,aQ rfl,aQ rfl,rfl,rfl,aX.refl _,by repeat' (first|exact trivial|refine ⟨.inl (.inl rfl),?_⟩|refine ⟨.inr rfl,?_⟩|refine ⟨.inl (.inr ⟨_,_,_,_,_,_,_,_,_,_,rfl,rfl⟩),?_⟩|done)⟩
    .refine ag (λh6=>?_) (λh6=>Bool.noConfusion (h2.symm.trans h6))
     have g0:ij (t.ins.get j).op=false:=by grind
     have g1:et (t.ins.get j).op=true:=by grind
     have g2:(cf t j k==2)=true:=h2
     have g3:(ij (t.ins.get j).op)=false:=h3
     have g4:(cf t j k==2)=true:=h4
     have g5:((t.ins.get j).op==11)=false:=h5
     have g6:(cf t j k==2)=true:=h6
     have e1:iA t k j=true:=by grind [iA]
     have e2:iY t k j=(2,(k:Int),(t.ins.get j).c,true):=by grind [iY]
     rw [show yr t k (Int.ofNat j)=true from e1,show xF t k (Int.ofNat j)=jC 2 (k:Int) (t.ins.get j).c dk from by show (bif iA t k j then jC (iY t k j).1 (iY t k j).2.1 (iY t k j).2.2.1 dk else _)=_; rw [e1,e2]; rfl,show xV t k (Int.ofNat j)=nz true from by show (bif iA t k j then nz (iY t k j).2.2.2 else _)=_; rw [e1,e2]; rfl]
     exact ⟨10,aQ rfl,aQ rfl,rfl,rfl,aX.refl _,by repeat' (first|exact trivial|refine ⟨.inl (.inl rfl),?_⟩|refine ⟨.inr rfl,?_⟩|refine ⟨.inl (.inr ⟨_,_,_,_,_,_,_,_,_,_,rfl,rfl⟩),?_⟩|done)⟩
   .refine ag (λh3=>Bool.noConfusion (h3.symm.trans h2)) (λh3=>?_)
    refine ag (λh4=>Bool.noConfusion (h4.symm.trans h2)) (λh4=>?_)
    refine ag (λh5=>?_) (λh5=>?_)
    .refine ⟨vF _,?_⟩
     refine ag (λh6=>?_) (λh6=>(by grind))
     have g0:ij (t.ins.get j).op=false:=by grind
     have g1:et (t.ins.get j).op=true:=by grind
     have g2:(cf t j k==2)=false:=h2
     have g3:(cf t j k==2)=false:=h3
     have g4:(cf t j k==2)=false:=h4
     have g5:(cf t j k==1)=true:=h5
     have g6:(et (t.ins.get j).op)=true:=h6
     have g99:(cf t j k==2)=false:=by grind
     have e1:iA t k j=true:=by grind [iA]
     have e2:iY t k j=(0,0,0,false):=by grind [iY]
     rw [show yr t k (Int.ofNat j)=true from e1,show xF t k (Int.ofNat j)=jC 0 0 0 dk from by show (bif iA t k j then jC (iY t k j).1 (iY t k j).2.1 (iY t k j).2.2.1 dk else _)=_; rw [e1,e2]; rfl,show xV t k (Int.ofNat j)=nz false from by show (bif iA t k j then nz (iY t k j).2.2.2 else _)=_; rw [e1,e2]; rfl]
     exact ⟨10,aQ rfl,aQ rfl,rfl,rfl,aX.refl _,by repeat' (first|exact trivial|refine ⟨.inl (.inl rfl),?_⟩|refine ⟨.inr rfl,?_⟩|refine ⟨.inl (.inr ⟨_,_,_,_,_,_,_,_,_,_,rfl,rfl⟩),?_⟩|done)⟩
    .have g0:ij (t.ins.get j).op=false:=by grind
     have g1:et (t.ins.get j).op=true:=by grind
     have g2:(cf t j k==2)=false:=h2
     have g3:(cf t j k==2)=false:=h3
     have g4:(cf t j k==2)=false:=h4
     have g5:(cf t j k==1)=false:=h5
     have e1:iA t k j=false:=by grind [iA]
     rw [show yr t k (Int.ofNat j)=false from e1,show xF t k (Int.ofNat j)=jC 0 0 0 dk from by show (bif iA t k j then _ else _)=_; rw [e1]; rfl,show xV t k (Int.ofNat j)=nz false from by show (bif iA t k j then _ else _)=_; rw [e1]; rfl]
     exact ⟨10,aQ rfl,aQ rfl,rfl,rfl,aX.refl _,by repeat' (first|exact trivial|refine ⟨.inl (.inl rfl),?_⟩|refine ⟨.inr rfl,?_⟩|refine ⟨.inl (.inr ⟨_,_,_,_,_,_,_,_,_,_,rfl,rfl⟩),?_⟩|done)⟩
 .refine ⟨h65,?_⟩
  refine ag (λh1=>?_) (λh1=>?_)
  .refine ⟨Ar _,?_⟩
   refine ag (λh2=>?_) (λh2=>(by grind))
   have g0:ij (t.ins.get j).op=true:=by grind
   have g1:(cf t j k==2)=true:=h1
   have g2:(ij (t.ins.get j).op)=true:=h2
   have e1:iA t k j=true:=by grind [iA]
   have e2:iY t k j=(2,(k:Int),(j:Int),true):=by grind [iY]
   rw [show yr t k (Int.ofNat j)=true from e1,show xF t k (Int.ofNat j)=jC 2 (k:Int) (j:Int) dk from by show (bif iA t k j then jC (iY t k j).1 (iY t k j).2.1 (iY t k j).2.2.1 dk else _)=_; rw [e1,e2]; rfl,show xV t k (Int.ofNat j)=nz true from by show (bif iA t k j then nz (iY t k j).2.2.2 else _)=_; rw [e1,e2]; rfl]
   exact ⟨10,aQ rfl,aQ rfl,rfl,rfl,aX.refl _,by repeat' (first|exact trivial|refine ⟨.inl (.inl rfl),?_⟩|refine ⟨.inr rfl,?_⟩|refine ⟨.inl (.inr ⟨_,_,_,_,_,_,_,_,_,_,rfl,rfl⟩),?_⟩|done)⟩
  .refine ag (λh2=>Bool.noConfusion (h2.symm.trans h1)) (λh2=>?_)
   refine ag (λh3=>Bool.noConfusion (h3.symm.trans h1)) (λh3=>?_)
   refine ag (λh4=>?_) (λh4=>?_)
   .refine ⟨vF _,?_⟩
    refine ag (λh5=>?_) (λh5=>?_)
    .have g0:ij (t.ins.get j).op=true:=by grind
     have g1:(cf t j k==2)=false:=h1
     have g2:(cf t j k==2)=false:=h2
     have g3:(cf t j k==2)=false:=h3
     have g4:(cf t j k==1)=true:=h4
     have g5:(et (t.ins.get j).op)=true:=h5
     have g99:(cf t j k==2)=false:=by grind
     have e1:iA t k j=true:=by grind [iA]
     have e2:iY t k j=(0,0,0,false):=by grind [iY]
     rw [show yr t k (Int.ofNat j)=true from e1,show xF t k (Int.ofNat j)=jC 0 0 0 dk from by show (bif iA t k j then jC (iY t k j).1 (iY t k j).2.1 (iY t k j).2.2.1 dk else _)=_; rw [e1,e2]; rfl,show xV t k (Int.ofNat j)=nz false from by show (bif iA t k j then nz (iY t k j).2.2.2 else _)=_; rw [e1,e2]; rfl]
     exact ⟨10,aQ rfl,aQ rfl,rfl,rfl,aX.refl _,by repeat' (first|exact trivial|refine ⟨.inl (.inl rfl),?_⟩|refine ⟨.inr rfl,?_⟩|refine ⟨.inl (.inr ⟨_,_,_,_,_,_,_,_,_,_,rfl,rfl⟩),?_⟩|done)⟩
    .have g0:ij (t.ins.get j).op=true:=by grind
     have g1:(cf t j k==2)=false:=h1
     have g2:(cf t j k==2)=false:=h2
     have g3:(cf t j k==2)=false:=h3
     have g4:(cf t j k==1)=true:=h4
     have g5:(et (t.ins.get j).op)=false:=h5
     have e1:iA t k j=false:=by grind [iA]
     rw [show yr t k (Int.ofNat j)=false from e1,show xF t k (Int.ofNat j)=jC 0 0 0 dk from by show (bif iA t k j then _ else _)=_; rw [e1]; rfl,show xV t k (Int.ofNat j)=nz false from by show (bif iA t k j then _ else _)=_; rw [e1]; rfl]
     exact ⟨10,aQ rfl,aQ rfl,rfl,rfl,aX.refl _,by repeat' (first|exact trivial|refine ⟨.inl (.inl rfl),?_⟩|refine ⟨.inr rfl,?_⟩|refine ⟨.inl (.inr ⟨_,_,_,_,_,_,_,_,_,_,rfl,rfl⟩),?_⟩|done)⟩
   .have g0:ij (t.ins.get j).op=true:=by grind
    have g1:(cf t j k==2)=false:=h1
    have g2:(cf t j k==2)=false:=h2
    have g3:(cf t j k==2)=false:=h3
    have g4:(cf t j k==1)=false:=h4
    have e1:iA t k j=false:=by grind [iA]
    rw [show yr t k (Int.ofNat j)=false from e1,show xF t k (Int.ofNat j)=jC 0 0 0 dk from by show (bif iA t k j then _ else _)=_; rw [e1]; rfl,show xV t k (Int.ofNat j)=nz false from by show (bif iA t k j then _ else _)=_; rw [e1]; rfl]
    exact ⟨10,aQ rfl,aQ rfl,rfl,rfl,aX.refl _,by repeat' (first|exact trivial|refine ⟨.inl (.inl rfl),?_⟩|refine ⟨.inr rfl,?_⟩|refine ⟨.inl (.inr ⟨_,_,_,_,_,_,_,_,_,_,rfl,rfl⟩),?_⟩|done)⟩
theorem bb7 (hk:k<t.ins.n) (hS:aM t) (hm:gK t) (ha:(t.ins.get k).op=10->bQ (t.ins.get k).a t.ins.n=true):LC 99 [aO t,int k] [] (OT t k) []:=by
 have c:=KX (yr t k) (xF t k) (xV t k) t k (.box (lift (aT t))) (jC 0 0 0 dk) (nz false) (.box [.im (iI k)]) (.box (lift (bW (t.ins.get k)))) .mi 99 104 KQ [19,20] (sg 99) (sB 99) (λj x hj _=>y99 t k j .mi x hj hk hS hm) (by omega) hS.ins ⟨.inl rfl,.inl rfl,.inl rfl,.inl rfl,.inl rfl,.inl rfl,.inl rfl,.inl rfl,uW rfl,trivial⟩
  (λj h=>by
   have h:iA t k j=false:=h
   exact ⟨by show (bif iA t k j then _ else _)=_; rw [h]; rfl,by show (bif iA t k j then _ else _)=_; rw [h]; rfl⟩)
  (λj=>by
   refine ⟨?_,?_⟩
   .show iE 9 (bif iA t k j then _ else _)=true
    cases iA t k j<;>rfl
   .show iE 9 (bif iA t k j then _ else _)=true
    cases iA t k j<;>rfl)
 cases hb:rW t (yr t k) k with
 | none=>
   rw [hb] at c
   rw [show OT t k=kg 1 k 0 td (rh t k) from by unfold OT; rw [hb]]
   refine pv (X:=X99 true 0 0 0 false) (stop:=Qi) ba7 (aZ1 _ _ true 0 0 0 false t k (ai (aC hk) ?_))
   refine ae.rename [0,2,3,1,4] rfl (ae.lr (Ki true 0 0 0 false t k) (aK (X:=X99 true 0 0 0 false) (stop:=Qi) (Sl _ _ true 0 0 0 false t k ⟨bt.gQ (wg t k) [] _ rfl rfl,ag (λ_=>⟨c,ag (λh1=>ai (ha (eq_of_beq h1)) (ag (λh2=>ai (ha (eq_of_beq h1)) ?_) (λh2=>?_))) (λh1=>?_)⟩) (λh=>Bool.noConfusion h)⟩)))
   .have h1:((t.ins.get k).op==10)=true:=h1
    have h2:((t.ins.get (t.ins.get k).a.toNat).op==16)=true:=h2
    unfold rh
    rw [h1,h2]
    exact aX.refl _
   .have h1:((t.ins.get k).op==10)=true:=h1
    have h2:((t.ins.get (t.ins.get k).a.toNat).op==16)=false:=h2
    unfold rh
    rw [h1,h2]
    exact aX.refl _
   .have h1:((t.ins.get k).op==10)=false:=h1
    unfold rh
    rw [h1]
    exact aX.refl _
 | some j=>
   rw [hb] at c
   have ny:iA t k j=true:=o6 hb
   generalize ho:iY t k j=o at *
   have e1:xF t k (Int.ofNat j)=jC o.1 o.2.1 o.2.2.1 dk:=by show (bif iA t k j then jC (iY t k j).1 (iY t k j).2.1 (iY t k j).2.2.1 dk else _)=_; rw [ny,ho]; rfl
   have e2:xV t k (Int.ofNat j)=nz o.2.2.2:=by show (bif iA t k j then nz (iY t k j).2.2.2 else _)=_; rw [ny,ho]; rfl
   simp only [QT] at c
   rw [e1,e2] at c
   rw [show OT t k=kg o.1 o.2.1 o.2.2.1 dk o.2.2.2 from by grind [OT]]
   refine pv (X:=X99 false o.1 o.2.1 o.2.2.1 o.2.2.2) (stop:=Qi) ba7 (aZ1 _ _ false o.1 o.2.1 o.2.2.1 o.2.2.2 t k (ai (aC hk) ?_))
   refine ae.rename [0,2,3,1,4] rfl (ae.lr (Ki false o.1 o.2.1 o.2.2.1 o.2.2.2 t k) (aK (X:=X99 false o.1 o.2.1 o.2.2.1 o.2.2.2) (stop:=Qi) (Sl _ _ false o.1 o.2.1 o.2.2.1 o.2.2.2 t k ⟨bt.gQ (wg t k) [] _ rfl rfl,ag (λh=>Bool.noConfusion h) (λ_=>⟨c,?_⟩)⟩)))
   exact aX.refl _
end
open Go Go.V
section
def F60 (d:D):FuncId->List D->List ah->Out:=ext F99 [(99,λ_ _=>(d,[],[]))]
def X60 (p:Bool) (k:Nat) (kd at' BM:Int) (v:jd) (b:Bool):eU:={ F:=F60 (kg kd at' BM v b),S:=[1,2,8],B:=λ_ _ _=>p,R1:=λ_ _ _=>(.t [],[],[]),R2:=λ_ ds rs=>(.t [],[(1,jC 3 k 0 dk),(2,nz true),(8,GU false (bh rs 8))],[]) }
def uc (c:Tmp):a8:=[(4,.c (.rt 1 0 0),[]),(5,.c (.rt 2 0 0),[]),(6,.c (.rt 3 0 0),[]),(7,.c (.rt 4 0 0),[]),(c,.c (.fL 132 [6,5]),[])]
def rfA:Code->List (List Tmp×Code×Code)
 | .rangeFunc _ ps a b=>[(ps.toList,a,b)]
 | .seq a b=>rfA a++rfA b
 | .cond _ a b=>rfA a++rfA b
 | .block _ a=>rfA a
 | .loop a=>rfA a
 | _=>[]
section
variable (S:ak->Nat->Nat->Bool) (f:FuncId) (t:ak) (k:Nat) (j:Int)
def R7:Code:=match rfA (pM f) with
 | _::x::_=>x.2.1
 | _=>.skip
def Ts:Code:=match rfA (pM f) with
 | _::x::_=>x.2.2
 | _=>.skip
def aI9 (X:eU) (f:FuncId) (r:Nat) (Q:D->List ah->Prop) (a b:Code) (sl:a8) (rs:List ah):Prop:=
 wS nF Tryz.prog X hints (yK f).ntmps f (some r) bH (λ_ _=>False) (QO r Q) 10000 false [.code a,.beginRound,.code b] ⟨sl,rs,[]⟩
def q5:Sq Int:=⟨5,λi=>rI (flat 1 [Go.V.I.v (Value.int IntKind.i64 8),Go.V.I.v (Value.int IntKind.i64 9),Go.V.I.v (Value.int IntKind.i64 12),Go.V.I.v (Value.int IntKind.i64 13),Go.V.I.v (Value.int IntKind.i64 14)] i)⟩
def dX (j:Nat):Bool:=(t.ins.get j).op==7&&((t.ins.get j).a==(t.ins.get k).a && !gM (t.ins.get k) (t.ins.get j))
def dM (j:Nat):Bool:=(t.ins.get j).a==(t.ins.get k).a&&jh (t.ins.get j).op q5
def BF:Bool:=S t k j.toNat
def wu:ah:=bif S t k j.toNat then jC 3 k 0 dk else jC 0 0 0 dk
def vP:ah:=bif S t k j.toNat then nz true else nz false
def BI:Bool:=match rW t (BF S t k) k with
 | some _=>true
 | none=>false
def tZ:D:=bif (t.ins.get k).once then kg 3 k 0 dk false else bif ij (t.ins.get k).op then OT t k else bif (t.ins.get k).op==7 then
 (bif (t.ins.get (t.ins.get k).a.toNat).op==16 then (bif !gM (t.ins.get (t.ins.get k).a.toNat) (t.ins.get k) then kg 3 k 0 dk true else kg 3 k 0 dk (BI dX t k)) else kg 3 k 0 dk (BI dX t k))
 else bif (t.ins.get k).op==8 then kg 3 k 0 dk (BI dM t k) else kg 3 k 0 dk false
end
end
def Ht:Nat->Bool:=λi=>Nat.beq i 11||Nat.beq i 16
theorem bu6:Fn 60:={}
abbrev jV:eQ:=(5,((.c (.rt 2 0 0)),[]))
abbrev jS:eQ:=(6,((.c (.rt 3 0 0)),[]))
abbrev QL (aj:LP) (ax:Nat) (aJ:ak):Prop:=aj (af 60 11) ⟨[(dy ax),b4,bK,jV,jS,qB,(51,((bool false),[]))],[(aU aJ),gq,(.box [ea]),(eS aJ ax),(.box (fI ax)),(.box (lift (bW (aJ.2.2 (aJ.2.2 ax).2.toNat))))],[]⟩
section
variable (aj:ak) (L:LP) (ax:Nat) (QD:D->Prop) (p:Bool) (t:ak) (k:Nat) (kd pT jL:Int) (v:jd) (b:Bool)
abbrev Ln:List ah:=[(aU aj),gq,(.box [ea]),(eS aj ax),(.box (fI ax))]
theorem bm9 (h:nd (bQ (↑k:Int) t.2.1) (br ((t.2.2 k).11) (QD (sk k)) ((LC 98 [(eD t k)] [] (bool (ij (t.2.2 k).1)) []/\br (ij (t.2.2 k).1) ((LC 99 (mf t k) [] (.t [(.true,[(ci kd),(ci pT),(ci jL),(ci v.1),(ci v.2),(.im (.v (.string v.3)))]),(.false,[(.im (.v (.bool b)))])]) []/\QD (.t [(.true,[(ci kd),(ci pT),(ci jL),(ci v.1),(ci v.2),(.im (.v (.string v.3)))]),(.false,[(.im (.v (.bool b)))])]))) (br ((t.2.2 k).1==7) (nd (bQ (t.2.2 k).2 t.2.1) (br ((t.2.2 (t.2.2 k).2.toNat).1==16) ((LC 100 [(.a (lift (bW (t.2.2 (t.2.2 k).2.toNat)))),(qb t k)] [] (bool (gM (t.2.2 (t.2.2 k).2.toNat) (t.2.2 k))) []/\br (!gM (t.2.2 (t.2.2 k).2.toNat) (t.2.2 k)) (QD (DN k)) (QL L k t))) (QL L k t))) (br ((t.2.2 k).1==8) (L (af 60 16) ⟨[(dy k),b4,bK,jV,jS,qB,(75,((bool true),[]))],(Ln t k),[]⟩) (QD (sk k)))))))):ep (X60 p k kd pT jL v b) 60 Ht L (bf QD) [aO t,int k] []:=km h
abbrev Bp:eQ:=(6,.c (.rt 3 0 0),[])
abbrev VF (aj:Nat) (ax:ak):VS:=⟨[(1,int aj,[]),gm,ji,wE,Bp,(7,.c (.rt 4 0 0),[])],[.box (lift (aT ax)),jC 0 0 0 dk,nz false,.box (lift (bW (ax.ins.get aj))),jC 3 aj 0 dk],[]⟩
def yk (p:Bool) (t:ak) (k:Nat) (kd pT jL:Int) (v:jd) (b:Bool)  : VS:=(VF k t)
abbrev VH:List ah:=[(aU aj),gq,(.box [ea]),(eS aj ax),(.box (fI ax)),(aU aj),(oP ax),.mi,(.loop 60 97 [(4,((.c (.rt 1 0 0)),[])),(5,((.c (.rt 2 0 0)),[])),(6,((.c (.rt 3 0 0)),[])),(7,((.c (.rt 4 0 0)),[])),(55,((.c (.fL 132 [6,5])),[]))] [56,57] (sg 60) (sB 60) .ready none)]
theorem Nw (h:(LC 101 (mf t k) (Ln t k) (.c (.fL 132 [6,5])) [(aU t),gq,(.box [ea]),(eS t k),(.box (fI k)),(aU t),(oP k)]/\br (p) ((LC 132 wF (VH t k) (.t []) (VH t k)/\QD (sk k))) ((LC 132 wF (VH t k) (.t []) [(aU t),(.box (fI k)),(.box [(.im (.v (.bool true)))]),(eS t k),(.box (fI k)),(aU t),(oP k),.mi,(.loop 60 97 [(4,((.c (.rt 1 0 0)),[])),(5,((.c (.rt 2 0 0)),[])),(6,((.c (.rt 3 0 0)),[])),(7,((.c (.rt 4 0 0)),[])),(55,((.c (.fL 132 [6,5])),[]))] [56,57] (sg 60) (sB 60) .done (some .ret))]/\QD (DN k))))):b5 (X60 p k kd pT jL v b) 60 Ht L (bf QD) 11 (yk p t k kd pT jL v b ):=km h
def D5 (p:Bool) (t:ak) (k:Nat) (kd pT jL:Int) (v:jd) (b:Bool)  : VS:=(VF k t)
abbrev TS:List ah:=[(aU aj),gq,(.box [ea]),(eS aj ax),(.box (fI ax)),(aU aj),(oP ax),.mi,(.loop 60 97 [(4,((.c (.rt 1 0 0)),[])),(5,((.c (.rt 2 0 0)),[])),(6,((.c (.rt 3 0 0)),[])),(7,((.c (.rt 4 0 0)),[])),(81,((.c (.fL 132 [6,5])),[]))] [82,83] (R7 60) (Ts 60) .ready none)]
theorem MH (h:(LC 101 (mf t k) (Ln t k) (.c (.fL 132 [6,5])) [(aU t),gq,(.box [ea]),(eS t k),(.box (fI k)),(aU t),(oP k)]/\br (p) ((LC 132 wF (TS t k) (.t []) (TS t k)/\QD (sk k))) ((LC 132 wF (TS t k) (.t []) [(aU t),(.box (fI k)),(.box [(.im (.v (.bool true)))]),(eS t k),(.box (fI k)),(aU t),(oP k),.mi,(.loop 60 97 [(4,((.c (.rt 1 0 0)),[])),(5,((.c (.rt 2 0 0)),[])),(6,((.c (.rt 3 0 0)),[])),(7,((.c (.rt 4 0 0)),[])),(81,((.c (.fL 132 [6,5])),[]))] [82,83] (R7 60) (Ts 60) .done (some .ret))]/\QD (DN k))))):b5 (X60 p k kd pT jL v b) 60 Ht L (bf QD) 16 (D5 p t k kd pT jL v b ):=km h
end
theorem Vb {X:eU} {f:FuncId} {r:Nat} {yF CE:a8} {ps:List Tmp} {ds:List D} {rs:List ah} {d:D} {aV:List ah} (ca cb:Code) (hr:rs[r]?=some (.loop f (yK f).ntmps yF ps ca cb .ready none)) (LX:Pp (yK f).ntmps ps ds yF=some CE) (h:aI9 X f r (Go.V.Ends rs d aV) ca cb CE rs):nS nF Tryz.prog r ds rs d aV:=
 C9 si hr LX λb cs hb=>yN (L:=λ_ _=>False) si mixed hb (λ_ _ q=>q.elim) (λ_ _ q=>q) 10000 h
theorem aK0 (v:Int):LC 54 [.c (.im (.sl 1 5 (flat 1 [Go.V.I.v (Value.int IntKind.i64 8),Go.V.I.v (Value.int IntKind.i64 9),Go.V.I.v (Value.int IntKind.i64 12),Go.V.I.v (Value.int IntKind.i64 13),Go.V.I.v (Value.int IntKind.i64 14)]))),int v] [] (bool (jh v q5)) []:=
 bt.pre (Iy _ v) (.cons (vb (cD.sl λi hi j hj=>by
  have hj:j=0:=by omega
  subst hj
  have hi:i<5:=hi
  match i,hi with
  | 0,_=>exact cD.refl _
  | 1,_=>exact cD.refl _
  | 2,_=>exact cD.refl _
  | 3,_=>exact cD.refl _
  | 4,_=>exact cD.refl _)) (.cons (aX.refl _) .nil))
section
variable {S:ak->Nat->Nat->Bool} (QE:D->List ah->Prop) (t:ak) (k j:Nat) (r5 x:ah)
theorem G7 {t:ak} {k:Nat} (h:rW t (BF S t k) k=none):BI S t k=false:=by unfold BI; rw [h]
theorem Jj {t:ak} {k j:Nat} (h:rW t (BF S t k) k=some j):BI S t k=true:=by unfold BI; rw [h]
theorem WE:∃ kd at' BM v b,OT t k=kg kd at' BM v b:=by
 unfold OT
 cases rW t (yr t k) k with
 | none=>grind
 | some j=>grind
abbrev W6 (aj:D->List ah->Prop) (ax:ak) (aJ:Nat) (aZ bR:ah) (cW:Nat):Prop:=aj (bool true) [(.box (lift (aT (ax)))),(.box [(ci 0),(ci 0),(ci 0),(ci 0),(ci 0),(.im (.v (.string ⟨⟨[]⟩⟩)))]),(.box [(.im (.v (.bool false)))]),(.box (lift (bW (ax.2.2 aJ)))),(.box [(ci 3),(ci (↑aJ:Int)),(ci 0),(ci 0),(ci 0),(.im (.v (.string ⟨⟨[]⟩⟩)))]),(.box (lift (aT (ax)))),(.box [(ci (↑aJ:Int))]),aZ,(.loop 60 97 [(4,((.c (.rt 1 0 0)),[])),(5,((.c (.rt 2 0 0)),[])),(6,((.c (.rt 3 0 0)),[])),(7,((.c (.rt 4 0 0)),[])),(55,((.c (.fL 132 [6,5])),[]))] [56,57] (sg 60) (sB 60) .ready none),bR,(.box (lift (bW (ax.2.2 cW))))]
theorem ZO (h:br ((t.2.2 j).1==7) (br ((t.2.2 j).2==(t.2.2 k).2) ((LC 100 [(qb t k),(qb t j)] [] (bool (gM (t.2.2 k) (t.2.2 j))) []/\br (!gM (t.2.2 k) (t.2.2 j)) (QE (bool false) [(.box (lift (aT (t)))),(.box [(ci 3),(ci (↑k:Int)),(ci 0),(ci 0),(ci 0),(.im (.v (.string ⟨⟨[]⟩⟩)))]),(.box [(.im (.v (.bool true)))]),(.box (lift (bW (t.2.2 k)))),(.box [(ci 3),(ci (↑k:Int)),(ci 0),(ci 0),(ci 0),(.im (.v (.string ⟨⟨[]⟩⟩)))]),(.box (lift (aT (t)))),(.box [(ci (↑k:Int))]),r5,(.loop 60 97 [(4,((.c (.rt 1 0 0)),[])),(5,((.c (.rt 2 0 0)),[])),(6,((.c (.rt 3 0 0)),[])),(7,((.c (.rt 4 0 0)),[])),(55,((.c (.fL 132 [6,5])),[]))] [56,57] (sg 60) (sB 60) .done (some .ret)),x,(.box (lift (bW (t.2.2 j))))]) (W6 QE t k r5 x j))) (W6 QE t k r5 x j)) (W6 QE t k r5 x j)):aI9 PN 60 8 QE (sg 60) (sB 60) ((57,fk (t.ins.get j),[])::(56,int j,[])::uc 55) [.box (lift (aT t)),jC 0 0 0 dk,nz false,.box (lift (bW (t.ins.get k))),jC 3 k 0 dk,.box (lift (aT t)),.box [.im (iI k)],r5,.loop 60 97 (uc 55) [56,57] (sg 60) (sB 60) .ready none,x]:=km h
theorem aU1:nS nF Tryz.prog 8 [int j,fk (t.ins.get j)] [.box (lift (aT t)),jC 0 0 0 dk,nz false,.box (lift (bW (t.ins.get k))),jC 3 k 0 dk,.box (lift (aT t)),.box [.im (iI k)],r5,.loop 60 97 (uc 55) [56,57] (sg 60) (sB 60) .ready none,x] (bool (!BF dX t k (Int.ofNat j))) [.box (lift (aT t)),wu dX t k (Int.ofNat j),vP dX t k (Int.ofNat j),.box (lift (bW (t.ins.get k))),jC 3 k 0 dk,.box (lift (aT t)),.box [.im (iI k)],r5,.loop 60 97 (uc 55) [56,57] (sg 60) (sB 60) (bif !BF dX t k (Int.ofNat j) then .ready else .done) (bif !BF dX t k (Int.ofNat j) then none else some .ret),x]:=by
 refine Vb (X:=PN) (f:=60) (yF:=uc 55) (CE:=((57,fk (t.ins.get j),[])::(56,int j,[])::uc 55)) (ps:=[56,57]) (sg 60) (sB 60) (by kernel_rfl) (by kernel_rfl) (ZO _ t k j r5 x ?_)
 refine ag (λh0=>?_) (λh0=>?_)
 .refine ag (λh1=>?_) (λh1=>?_)
  .refine ⟨Kf _ _,?_⟩
   refine ag (λh2=>?_) (λh2=>?_)
   .have g0:((t.ins.get j).op==7)=true:=h0
    have g1:((t.ins.get j).a==(t.ins.get k).a)=true:=h1
    have g2:gM (t.ins.get k) (t.ins.get j)=false:=by grind
    have e1:dX t k j=true:=by grind [dX]
    rw [show BF dX t k (Int.ofNat j)=true from e1,show wu dX t k (Int.ofNat j)=jC 3 k 0 dk from by show (bif dX t k j then _ else _)=_; rw [e1]; rfl,show vP dX t k (Int.ofNat j)=nz true from by show (bif dX t k j then _ else _)=_; rw [e1]; rfl]
    exact ⟨10,aQ rfl,aQ rfl,rfl,rfl,aX.refl _,by repeat' (first|exact trivial|refine ⟨.inl (.inl rfl),?_⟩|refine ⟨.inr rfl,?_⟩|refine ⟨.inl (.inr ⟨_,_,_,_,_,_,_,_,_,_,rfl,rfl⟩),?_⟩|done)⟩
   .have g0:((t.ins.get j).op==7)=true:=h0
    have g1:((t.ins.get j).a==(t.ins.get k).a)=true:=h1
    have g2:gM (t.ins.get k) (t.ins.get j)=true:=by grind
    have e1:dX t k j=false:=by grind [dX]
    rw [show BF dX t k (Int.ofNat j)=false from e1,show wu dX t k (Int.ofNat j)=jC 0 0 0 dk from by show (bif dX t k j then _ else _)=_; rw [e1]; rfl,show vP dX t k (Int.ofNat j)=nz false from by show (bif dX t k j then _ else _)=_; rw [e1]; rfl]
    exact ⟨10,aQ rfl,aQ rfl,rfl,rfl,aX.refl _,by repeat' (first|exact trivial|refine ⟨.inl (.inl rfl),?_⟩|refine ⟨.inr rfl,?_⟩|refine ⟨.inl (.inr ⟨_,_,_,_,_,_,_,_,_,_,rfl,rfl⟩),?_⟩|done)⟩
  .have g0:((t.ins.get j).op==7)=true:=h0
   have g1:((t.ins.get j).a==(t.ins.get k).a)=false:=h1
   have e1:dX t k j=false:=by grind [dX]
   rw [show BF dX t k (Int.ofNat j)=false from e1,show wu dX t k (Int.ofNat j)=jC 0 0 0 dk from by show (bif dX t k j then _ else _)=_; rw [e1]; rfl,show vP dX t k (Int.ofNat j)=nz false from by show (bif dX t k j then _ else _)=_; rw [e1]; rfl]
   exact ⟨10,aQ rfl,aQ rfl,rfl,rfl,aX.refl _,by repeat' (first|exact trivial|refine ⟨.inl (.inl rfl),?_⟩|refine ⟨.inr rfl,?_⟩|refine ⟨.inl (.inr ⟨_,_,_,_,_,_,_,_,_,_,rfl,rfl⟩),?_⟩|done)⟩
 .have g0:((t.ins.get j).op==7)=false:=h0
  have e1:dX t k j=false:=by grind [dX]
  rw [show BF dX t k (Int.ofNat j)=false from e1,show wu dX t k (Int.ofNat j)=jC 0 0 0 dk from by show (bif dX t k j then _ else _)=_; rw [e1]; rfl,show vP dX t k (Int.ofNat j)=nz false from by show (bif dX t k j then _ else _)=_; rw [e1]; rfl]
  exact ⟨10,aQ rfl,aQ rfl,rfl,rfl,aX.refl _,by repeat' (first|exact trivial|refine ⟨.inl (.inl rfl),?_⟩|refine ⟨.inr rfl,?_⟩|refine ⟨.inl (.inr ⟨_,_,_,_,_,_,_,_,_,_,rfl,rfl⟩),?_⟩|done)⟩
theorem Nl (hk:k<t.ins.n) (hS:aM t) (kd pT jL:Int) (v:jd) (b:Bool):ae 60 0 (a7 (kg 3 k 0 dk (BI dX t k))) (af 60 11) (yk false t k kd pT jL v b):=by
 have c:=KX (BF dX t k) (wu dX t k) (vP dX t k) t k (.box (lift (aT t))) (jC 0 0 0 dk) (nz false) (.box (lift (bW (t.ins.get k)))) (jC 3 k 0 dk) .mi 60 97 (uc 55) [56,57] (sg 60) (sB 60) (λj x hj _=>aU1 t k j .mi x) (by omega) hS.ins ⟨.inl rfl,.inl rfl,.inl rfl,.inl rfl,.inl rfl,.inl rfl,.inl rfl,.inl rfl,uW rfl,trivial⟩
  (λj h=>by
   have h:dX t k j=false:=h
   exact ⟨by show (bif dX t k j then _ else _)=_; rw [h]; rfl,by show (bif dX t k j then _ else _)=_; rw [h]; rfl⟩)
  (λj=>by
   refine ⟨?_,?_⟩
   .show iE 9 (bif dX t k j then _ else _)=true
    cases dX t k j<;>rfl
   .show iE 9 (bif dX t k j then _ else _)=true
    cases dX t k j<;>rfl)
 cases hb:rW t (BF dX t k) k with
 | none=>
   rw [hb] at c
   rw [G7 hb]
   exact aK (X:=X60 true k kd pT jL v b) (stop:=Ht) (Nw _ _ true t k kd pT jL v b ⟨bt.gQ (wg t k) [] _ rfl rfl,ag (λ_=>⟨c,aX.refl _⟩) (λh=>Bool.noConfusion h)⟩)
 | some j=>
   rw [hb] at c
   rw [Jj hb]
   have ny:dX t k j=true:=o6 hb
   simp only [QT] at c
   rw [show wu dX t k (Int.ofNat j)=jC 3 k 0 dk from by show (bif dX t k j then _ else _)=_; rw [ny]; rfl,show vP dX t k (Int.ofNat j)=nz true from by show (bif dX t k j then _ else _)=_; rw [ny]; rfl] at c
   exact aK (X:=X60 false k kd pT jL v b) (stop:=Ht) (Nw _ _ false t k kd pT jL v b ⟨bt.gQ (wg t k) [] _ rfl rfl,ag (λh=>Bool.noConfusion h) (λ_=>⟨c,aX.refl _⟩)⟩)
theorem Zl (h:br ((t.2.2 j).2==(t.2.2 k).2) ((LC 54 [(.c (.im (.sl 1 5 (flat 1 [I.v (Value.int IntKind.i64 8),I.v (Value.int IntKind.i64 9),I.v (Value.int IntKind.i64 12),I.v (Value.int IntKind.i64 13),I.v (Value.int IntKind.i64 14)])))),(eD t j)] [] (bool (jh (t.2.2 j).1 { n:=5,get:=λi=>rI (flat 1 [I.v (Value.int IntKind.i64 8),I.v (Value.int IntKind.i64 9),I.v (Value.int IntKind.i64 12),I.v (Value.int IntKind.i64 13),I.v (Value.int IntKind.i64 14)] i) })) []/\br (jh (t.2.2 j).1 { n:=5,get:=λi=>rI (flat 1 [I.v (Value.int IntKind.i64 8),I.v (Value.int IntKind.i64 9),I.v (Value.int IntKind.i64 12),I.v (Value.int IntKind.i64 13),I.v (Value.int IntKind.i64 14)] i) }) (QE (bool false) [(.box (lift (aT (t)))),(.box [(ci 3),(ci (↑k:Int)),(ci 0),(ci 0),(ci 0),(.im (.v (.string ⟨⟨[]⟩⟩)))]),(.box [(.im (.v (.bool true)))]),(.box (lift (bW (t.2.2 k)))),(.box [(ci 3),(ci (↑k:Int)),(ci 0),(ci 0),(ci 0),(.im (.v (.string ⟨⟨[]⟩⟩)))]),(.box (lift (aT (t)))),(.box [(ci (↑k:Int))]),r5,(.loop 60 97 [(4,((.c (.rt 1 0 0)),[])),(5,((.c (.rt 2 0 0)),[])),(6,((.c (.rt 3 0 0)),[])),(7,((.c (.rt 4 0 0)),[])),(81,((.c (.fL 132 [6,5])),[]))] [82,83] (R7 60) (Ts 60) .done (some .ret)),x,(.box (lift (bW (t.2.2 j)))),(.row 3 1 5 [(ci 8),(ci 9),(ci 12),(ci 13),(ci 14)])]) (QE (bool true) [(.box (lift (aT (t)))),(.box [(ci 0),(ci 0),(ci 0),(ci 0),(ci 0),(.im (.v (.string ⟨⟨[]⟩⟩)))]),(.box [(.im (.v (.bool false)))]),(.box (lift (bW (t.2.2 k)))),(.box [(ci 3),(ci (↑k:Int)),(ci 0),(ci 0),(ci 0),(.im (.v (.string ⟨⟨[]⟩⟩)))]),(.box (lift (aT (t)))),(.box [(ci (↑k:Int))]),r5,(.loop 60 97 [(4,((.c (.rt 1 0 0)),[])),(5,((.c (.rt 2 0 0)),[])),(6,((.c (.rt 3 0 0)),[])),(7,((.c (.rt 4 0 0)),[])),(81,((.c (.fL 132 [6,5])),[]))] [82,83] (R7 60) (Ts 60) .ready none),x,(.box (lift (bW (t.2.2 j)))),(.row 3 1 5 [(ci 8),(ci 9),(ci 12),(ci 13),(ci 14)])]))) (QE (bool true) [(.box (lift (aT (t)))),(.box [(ci 0),(ci 0),(ci 0),(ci 0),(ci 0),(.im (.v (.string ⟨⟨[]⟩⟩)))]),(.box [(.im (.v (.bool false)))]),(.box (lift (bW (t.2.2 k)))),(.box [(ci 3),(ci (↑k:Int)),(ci 0),(ci 0),(ci 0),(.im (.v (.string ⟨⟨[]⟩⟩)))]),(.box (lift (aT (t)))),(.box [(ci (↑k:Int))]),r5,(.loop 60 97 [(4,((.c (.rt 1 0 0)),[])),(5,((.c (.rt 2 0 0)),[])),(6,((.c (.rt 3 0 0)),[])),(7,((.c (.rt 4 0 0)),[])),(81,((.c (.fL 132 [6,5])),[]))] [82,83] (R7 60) (Ts 60) .ready none),x,(.box (lift (bW (t.2.2 j))))])):aI9 PN 60 8 QE (R7 60) (Ts 60) ((83,fk (t.ins.get j),[])::(82,int j,[])::uc 81) [.box (lift (aT t)),jC 0 0 0 dk,nz false,.box (lift (bW (t.ins.get k))),jC 3 k 0 dk,.box (lift (aT t)),.box [.im (iI k)],r5,.loop 60 97 (uc 81) [82,83] (R7 60) (Ts 60) .ready none,x]:=km h
theorem aR1:nS nF Tryz.prog 8 [int j,fk (t.ins.get j)] [.box (lift (aT t)),jC 0 0 0 dk,nz false,.box (lift (bW (t.ins.get k))),jC 3 k 0 dk,.box (lift (aT t)),.box [.im (iI k)],r5,.loop 60 97 (uc 81) [82,83] (R7 60) (Ts 60) .ready none,x] (bool (!BF dM t k (Int.ofNat j))) [.box (lift (aT t)),wu dM t k (Int.ofNat j),vP dM t k (Int.ofNat j),.box (lift (bW (t.ins.get k))),jC 3 k 0 dk,.box (lift (aT t)),.box [.im (iI k)],r5,.loop 60 97 (uc 81) [82,83] (R7 60) (Ts 60) (bif !BF dM t k (Int.ofNat j) then .ready else .done) (bif !BF dM t k (Int.ofNat j) then none else some .ret),x]:=by
 refine Vb (X:=PN) (f:=60) (yF:=uc 81) (CE:=((83,fk (t.ins.get j),[])::(82,int j,[])::uc 81)) (ps:=[82,83]) (R7 60) (Ts 60) (by kernel_rfl) (by kernel_rfl) (Zl _ t k j r5 x ?_)
 refine ag (λh0=>?_) (λh0=>?_)
 .refine ⟨aK0 _,?_⟩
  refine ag (λh1=>?_) (λh1=>?_)
  .have g0:((t.ins.get j).a==(t.ins.get k).a)=true:=h0
   have g1:(jh (t.ins.get j).op q5)=true:=h1
   have e1:dM t k j=true:=by grind [dM]
   rw [show BF dM t k (Int.ofNat j)=true from e1,show wu dM t k (Int.ofNat j)=jC 3 k 0 dk from by show (bif dM t k j then _ else _)=_; rw [e1]; rfl,show vP dM t k (Int.ofNat j)=nz true from by show (bif dM t k j then _ else _)=_; rw [e1]; rfl]
   exact ⟨10,aQ rfl,aQ rfl,rfl,rfl,aX.refl _,by repeat' (first|exact trivial|refine ⟨.inl (.inl rfl),?_⟩|refine ⟨.inr rfl,?_⟩|refine ⟨.inl (.inr ⟨_,_,_,_,_,_,_,_,_,_,rfl,rfl⟩),?_⟩|done)⟩
  .have g0:((t.ins.get j).a==(t.ins.get k).a)=true:=h0
   have g1:(jh (t.ins.get j).op q5)=false:=h1
   have e1:dM t k j=false:=by grind [dM]
   rw [show BF dM t k (Int.ofNat j)=false from e1,show wu dM t k (Int.ofNat j)=jC 0 0 0 dk from by show (bif dM t k j then _ else _)=_; rw [e1]; rfl,show vP dM t k (Int.ofNat j)=nz false from by show (bif dM t k j then _ else _)=_; rw [e1]; rfl]
   exact ⟨10,aQ rfl,aQ rfl,rfl,rfl,aX.refl _,by repeat' (first|exact trivial|refine ⟨.inl (.inl rfl),?_⟩|refine ⟨.inr rfl,?_⟩|refine ⟨.inl (.inr ⟨_,_,_,_,_,_,_,_,_,_,rfl,rfl⟩),?_⟩|done)⟩
 .have g0:((t.ins.get j).a==(t.ins.get k).a)=false:=h0
  have e1:dM t k j=false:=by grind [dM]
  rw [show BF dM t k (Int.ofNat j)=false from e1,show wu dM t k (Int.ofNat j)=jC 0 0 0 dk from by show (bif dM t k j then _ else _)=_; rw [e1]; rfl,show vP dM t k (Int.ofNat j)=nz false from by show (bif dM t k j then _ else _)=_; rw [e1]; rfl]
  exact ⟨10,aQ rfl,aQ rfl,rfl,rfl,aX.refl _,by repeat' (first|exact trivial|refine ⟨.inl (.inl rfl),?_⟩|refine ⟨.inr rfl,?_⟩|refine ⟨.inl (.inr ⟨_,_,_,_,_,_,_,_,_,_,rfl,rfl⟩),?_⟩|done)⟩
theorem Y1 (hk:k<t.ins.n) (hS:aM t) (kd pT jL:Int) (v:jd) (b:Bool):ae 60 0 (a7 (kg 3 k 0 dk (BI dM t k))) (af 60 16) (D5 false t k kd pT jL v b):=by
 have c:=KX (BF dM t k) (wu dM t k) (vP dM t k) t k (.box (lift (aT t))) (jC 0 0 0 dk) (nz false) (.box (lift (bW (t.ins.get k)))) (jC 3 k 0 dk) .mi 60 97 (uc 81) [82,83] (R7 60) (Ts 60) (λj x hj _=>aR1 t k j .mi x) (by omega) hS.ins ⟨.inl rfl,.inl rfl,.inl rfl,.inl rfl,.inl rfl,.inl rfl,.inl rfl,.inl rfl,uW rfl,trivial⟩
  (λj h=>by
   have h:dM t k j=false:=h
   exact ⟨by show (bif dM t k j then _ else _)=_; rw [h]; rfl,by show (bif dM t k j then _ else _)=_; rw [h]; rfl⟩)
  (λj=>by
   refine ⟨?_,?_⟩
   .show iE 9 (bif dM t k j then _ else _)=true
    cases dM t k j<;>rfl
   .show iE 9 (bif dM t k j then _ else _)=true
    cases dM t k j<;>rfl)
 cases hb:rW t (BF dM t k) k with
 | none=>
   rw [hb] at c
   rw [G7 hb]
   exact aK (X:=X60 true k kd pT jL v b) (stop:=Ht) (MH _ _ true t k kd pT jL v b ⟨bt.gQ (wg t k) [] _ rfl rfl,ag (λ_=>⟨c,aX.refl _⟩) (λh=>Bool.noConfusion h)⟩)
 | some j=>
   rw [hb] at c
   rw [Jj hb]
   have ny:dM t k j=true:=o6 hb
   simp only [QT] at c
   rw [show wu dM t k (Int.ofNat j)=jC 3 k 0 dk from by show (bif dM t k j then _ else _)=_; rw [ny]; rfl,show vP dM t k (Int.ofNat j)=nz true from by show (bif dM t k j then _ else _)=_; rw [ny]; rfl] at c
   exact aK (X:=X60 false k kd pT jL v b) (stop:=Ht) (MH _ _ false t k kd pT jL v b ⟨bt.gQ (wg t k) [] _ rfl rfl,ag (λh=>Bool.noConfusion h) (λ_=>⟨c,aX.refl _⟩)⟩)
theorem be0 (hk:k<t.ins.n) (hS:aM t) (hm:gK t) (ha:(t.ins.get k).op=10->bQ (t.ins.get k).a t.ins.n=true) (ha7:(t.ins.get k).op=7->bQ (t.ins.get k).a t.ins.n=true):LC 60 [aO t,int k] [] (tZ t k) []:=by
 obtain ⟨kd,pT,jL,v,b,hd⟩:=WE t k
 have h99:LC 99 [aO t,int k] [] (kg kd pT jL v b) []:=hd▸bb7 t k hk hS hm ha
 refine pv (X:=X60 false k kd pT jL v b) (stop:=Ht) bu6 (bm9 _ _ false t k kd pT jL v b ?_)
 refine ai (by first|exact aC hk|exact ha7 (eq_of_beq h2)) ?_
 refine ag (λh0=>?_) (λh0=>?_)
 .have g0:((t.ins.get k).once)=true:=h0
  have e:tZ t k=kg 3 k 0 dk false:=by grind [tZ]
  rw [e]
  exact aX.refl _
 .refine ⟨Ar _,?_⟩
  refine ag (λh1=>?_) (λh1=>?_)
  .refine ⟨h99,?_⟩
   have g0:((t.ins.get k).once)=false:=h0
   have g1:(ij (t.ins.get k).op)=true:=h1
   have e:tZ t k=OT t k:=by grind [tZ]
   rw [e,hd]
   exact aX.refl _
  .refine ag (λh2=>?_) (λh2=>?_)
   .refine ai (by grind) ?_
    refine ag (λh3=>?_) (λh3=>?_)
    .refine ⟨Kf _ _,?_⟩
     refine ag (λh4=>?_) (λh4=>?_)
     .have g0:((t.ins.get k).once)=false:=h0
      have g1:(ij (t.ins.get k).op)=false:=h1
      have g2:((t.ins.get k).op==7)=true:=h2
      have g3:((t.ins.get (t.ins.get k).a.toNat).op==16)=true:=h3
      have g4:(!gM (t.ins.get (t.ins.get k).a.toNat) (t.ins.get k))=true:=h4
      have e:tZ t k=kg 3 k 0 dk true:=by grind [tZ]
      rw [e]
      exact aX.refl _
     .have g0:((t.ins.get k).once)=false:=h0
      have g1:(ij (t.ins.get k).op)=false:=h1
      have g2:((t.ins.get k).op==7)=true:=h2
      have g3:((t.ins.get (t.ins.get k).a.toNat).op==16)=true:=h3
      have g4:(!gM (t.ins.get (t.ins.get k).a.toNat) (t.ins.get k))=false:=h4
      have e:tZ t k=kg 3 k 0 dk (BI dX t k):=by grind [tZ]
      rw [e]
      exact ae.rename [0,1,2,3,4] rfl (ae.lr (yk false t k kd pT jL v b) (Nl t k hk hS kd pT jL v b))
    .have g0:((t.ins.get k).once)=false:=h0
     have g1:(ij (t.ins.get k).op)=false:=h1
     have g2:((t.ins.get k).op==7)=true:=h2
     have g3:((t.ins.get (t.ins.get k).a.toNat).op==16)=false:=h3
     have e:tZ t k=kg 3 k 0 dk (BI dX t k):=by grind [tZ]
     rw [e]
     exact ae.rename [0,1,2,3,4] rfl (ae.lr (yk false t k kd pT jL v b) (Nl t k hk hS kd pT jL v b))
   .refine ag (λh3=>?_) (λh3=>?_)
    .have g0:((t.ins.get k).once)=false:=h0
     have g1:(ij (t.ins.get k).op)=false:=h1
     have g2:((t.ins.get k).op==7)=false:=h2
     have g3:((t.ins.get k).op==8)=true:=h3
     have e:tZ t k=kg 3 k 0 dk (BI dM t k):=by grind [tZ]
     rw [e]
     exact ae.rename [0,1,2,3,4] rfl (ae.lr (D5 false t k kd pT jL v b) (Y1 t k hk hS kd pT jL v b))
    .have g0:((t.ins.get k).once)=false:=h0
     have g1:(ij (t.ins.get k).op)=false:=h1
     have g2:((t.ins.get k).op==7)=false:=h2
     have g3:((t.ins.get k).op==8)=false:=h3
     have e:tZ t k=kg 3 k 0 dk false:=by grind [tZ]
     rw [e]
     exact aX.refl _
end
open Go Go.V
section
structure fK where
 kd:Int
 pos:Int
 src:Int
 v:jd
def Ho (r:fK) (b:Bool):D:=kg r.kd r.pos r.src r.v b
def V2 (d:D):fK×Bool:=match d with
 | .t [(true,[c0,c1,c2,c3,c4,c5]),(false,[c6])]=>(⟨cV (cI c0),cV (cI c1),cV (cI c2),⟨cV (cI c3),cV (cI c4),ac1 (cI c5)⟩⟩,aq0 (cI c6))
 | _=>(⟨0,0,0,dk⟩,false)
def kH (u:ak) (r:fK):ak:=
 bif r.kd==1 then uT u (hJ u.ins r.pos.toNat (oK (u.ins.get r.pos.toNat).once)).get u.aa.get else
 bif r.kd==2 then uT u (hJ (aE (cS r.pos r.src) u.ins u.ins.n) r.pos.toNat iG).get (aE (dV r.pos r.src) u.aa u.aa.n).get else
 uT u (hJ u.ins r.pos.toNat iG).get u.aa.get
end
theorem TV (a b c:Int) (v:jd) (e:Bool):V2 (kg a b c v e)=(⟨a,b,c,v⟩,e):=rfl
structure Inv (n:Nat) (u:ak):Prop where
 small:aM u
 ok:cp u=0
 num:∀ k,k<u.ins.n->(u.ins.get k).n<=9223372036854775807
 n:u.ins.n=n
section
variable {n:Nat} {u:ak} {x:au} {c:Int} {k:Nat}
theorem Inv.right (h:Inv n u):dS u=0:=by rw [<- zA u h.num]; exact h.ok
theorem Inv.mem (h:Inv n u):gK u:=P7 h.right
theorem Inv.ins (h:Inv n u) (hk:k<n):pz u k=true:=wv h.right k (by rw [h.n]; exact hk)
theorem Inv.used (h:Inv n u) {j:Nat} (hk:k<n) (hj:j<(aW (u.ins.get k)).n):∃ i:Nat,(aW (u.ins.get k)).get j=(i:Int)/\i<k/\xU (u.ins.get i).op=true/\((u.ins.get i).op==17)=false:=by
 have h1:=h.ins hk
 grind [pz,TG,kE,u16,eF]
theorem aZ2 (h:x.op=c) (h1:gL c=1) (h2:(c==20)=false):(aW x).n=1/\(aW x).get 0=x.a:=by
 unfold aW
 grind
theorem be6 (h:x.op=c) (h1:gL c=2) (h2:(c==20)=false):(aW x).n=2/\(aW x).get 1=x.b:=by
 unfold aW
 grind
theorem aR0 (h:x.op=c) (h1:gL c=3) (h2:(c==20)=false):(aW x).n=3/\(aW x).get 2=x.c:=by
 unfold aW
 grind
theorem bb8 (op:Int) (h:xU op=true):fy op [1,2,3,4,10,12,14,16,17]=true:=by rw [X5]; exact h
theorem tv (hS:aM u) (h1:x.args.n<=1000) (h2:x.names.n<=1000) (h3:x.k.s.size<=1000) {s:Sq au} {es:Sq aq} (hn:s.n=u.ins.n) (hm:es.n=u.aa.n) (hs:∀ i,i<u.ins.n->(s.get i).args.n<=1000/\(s.get i).names.n<=1000/\(s.get i).k.s.size<=1000) (he:∀ i,i<u.aa.n->fW (es.get i)):aM (uT u (hJ s k x).get es.get):=by
 refine ⟨hS.ins,hS.aa,λi hi=>?_,λi hi=>?_,λi hi=>?_,he⟩
 .show (bif Nat.beq i k then x else s.get i).args.n<=1000
  cases Nat.beq i k with
  | true=>exact h1
  | false=>exact (hs i hi).1
 .show (bif Nat.beq i k then x else s.get i).names.n<=1000
  cases Nat.beq i k with
  | true=>exact h2
  | false=>exact (hs i hi).2.1
 .show (bif Nat.beq i k then x else s.get i).k.s.size<=1000
  cases Nat.beq i k with
  | true=>exact h3
  | false=>exact (hs i hi).2.2
theorem nU {α:Type} {f:α->α} {P:α->Prop} {s:Sq α} {m:Nat} (h:∀ i,i<s.n->P (s.get i)) (hf:∀ x,P x->P (f x)):∀ i,i<s.n->P ((aE f s m).get i):=by
 intro i hi
 show P (bif Nat.blt i m then f (s.get i) else s.get i)
 grind
theorem Qf {a b:Int} {e:aq} (h:fW e):fW (dV a b e):=
 ⟨h.frames,nU (P:=λx:cK=>x.vars.n<=1000) h.vars λ_ q=>q,h.az,nU (P:=λx:cZ=>x.names.n<=1000) h.names λ_ q=>q,nU (P:=λx:cZ=>x.items.n<=1000) h.items λ_ q=>q⟩
theorem vB (hS:aM u) (r:fK):aM (kH u r):=by
 have h0:∀ i,i<u.ins.n->(u.ins.get i).args.n<=1000/\(u.ins.get i).names.n<=1000/\(u.ins.get i).k.s.size<=1000:=λi hi=>⟨hS.args i hi,hS.names i hi,hS.str i hi⟩
 unfold kH
 cases r.kd==1 with
 | true=>exact tv hS (bk _) (bk _) (bk _) rfl rfl h0 hS.ex
 | false=>cases r.kd==2 with
   | true=>exact tv hS (bk _) (bk _) (bk _) (s:=aE (cS r.pos r.src) u.ins u.ins.n) (es:=aE (dV r.pos r.src) u.aa u.aa.n) rfl rfl (nU (P:=λx:au=>x.args.n<=1000/\x.names.n<=1000/\x.k.s.size<=1000) h0 λ_ q=>q) (nU hS.ex λ_ q=>Qf q)
   | false=>exact tv hS (bk _) (bk _) (bk _) rfl rfl h0 hS.ex
theorem Ok (h:∀ k,k<u.ins.n->(u.ins.get k).n<=9223372036854775807) (r:fK):∀ k,k<u.ins.n->((kH u r).ins.get k).n<=9223372036854775807:=by
 have up:∀ {s:Sq au} {p:Nat} {x:au},x.n=0->(∀ k,k<u.ins.n->(s.get k).n<=9223372036854775807)->∀ k,k<u.ins.n->((hJ s p x).get k).n<=9223372036854775807:=λ{s p x} hx hs k hk=>by
  show (bif Nat.beq k p then x else s.get k).n<=_
  grind
 unfold kH
 cases r.kd==1 with
 | true=>exact up rfl h
 | false=>cases r.kd==2 with
   | true=>exact up rfl (nU (P:=λx:au=>x.n<=9223372036854775807) h λ_ q=>q)
   | false=>exact up rfl h
theorem Uh (u:ak) (r:fK):(kH u r).ins.n=u.ins.n:=by
 unfold kH
 cases r.kd==1 with
 | true=>rfl
 | false=>cases r.kd==2<;>rfl
theorem Inv.next (h:Inv n u) {r:fK} (h0:cp (kH u r)=0):Inv n (kH u r):=
 ⟨vB h.small r,h0,λk hk=>Ok h.num r k (by rw [Uh] at hk; exact hk),by rw [Uh]; exact h.n⟩
def Fit (u:ak) (k:Nat) (r:fK):Prop:=
 (r=⟨3,(k:Int),0,dk⟩/\((u.ins.get k).op=7∨(u.ins.get k).op=8∨(u.ins.get k).op=11∨(u.ins.get k).op=13)) ∨
 (r=⟨1,(k:Int),0,td⟩/\(u.ins.get k).op=10) ∨
 ∃ j:Nat,r=⟨2,(k:Int),(j:Int),dk⟩/\j<k/\ij (u.ins.get k).op=true/\xU (u.ins.get j).op=true/\((u.ins.get j).op==17)=false
theorem BA {op:Int} (h:ij op=true):op=10∨op=12:=by
 grind [ij]
theorem Fit.rewrite (hI:Inv n u) (hk:k<n) {r:fK} (h:Fit u k r):LC 43 [aO u,va r.kd r.pos r.src r.v] [] (H2 (kH u r)) []:=by
 have hk:k<u.ins.n:=by rw [hI.n]; exact hk
 have hs:=vB hI.small r
 rcases h with ⟨rfl,ho⟩|⟨rfl,ho⟩|⟨j,rfl,hj,h1,h2,h3⟩
 .exact UG u _ _ 3 k 0 dk hI.small hk hI.ok hs (ay8 u k hk hI.small ho)
 .exact UG u _ _ 1 k 0 td hI.small hk hI.ok hs (aE0 u k hk hI.small ho)
 .have h4:=BA h1
  exact UG u _ _ 2 k j dk hI.small hk hI.ok hs (aD2 u k hk hI.small j hj (by rcases h4 with e|e<;>rw [e]<;>rfl) (bb8 _ h2) (by grind) h3 (by grind))
end
open Go Go.V
theorem EM {t:ak} {dP:Int->Bool} {j:Nat}:∀ {k:Nat},rW t dP k=some j->j<k
 | 0,h=>by cases h
 | k+1,h=>by
   unfold rW at h
   cases h0 : !(t.ins.get k).once with
   | false=>rw [h0] at h; exact Nat.lt_succ_of_lt (EM h)
   | true=>
     cases h1:dP (Int.ofNat k) with
     | false=>rw [h0,h1] at h; exact Nat.lt_succ_of_lt (EM h)
     | true=>
       grind
theorem Nd {op:Int} (h:et op=true):op=11∨op=13:=by
 grind [et]
section
variable {n:Nat} {u:ak} {k:Nat}
theorem ar6 (hI:Inv n u) (hk:k<n) (h98:ij (u.ins.get k).op=true):∃ r b,OT u k=Ho r b/\(b=true->Fit u k r):=by
 unfold OT
 cases hb:rW u (yr u k) k with
 | none=>
   refine ⟨⟨1,k,0,td⟩,rh u k,rfl,λh=>.inr (.inl ⟨rfl,?_⟩)⟩
   grind [rh]
 | some j=>
   have hj:=EM hb
   have hs:iA u k j=true:=o6 hb
   refine ⟨⟨(iY u k j).1,(iY u k j).2.1,(iY u k j).2.2.1,dk⟩,(iY u k j).2.2.2,rfl,λh=>.inr (.inr ?_)⟩
   unfold iY at h ⊢
   cases h2:cf u j k==2 with
   | false=>rw [h2] at h; cases h
   | true=>
     simp only [cond_true]
     cases h3:ij (u.ins.get j).op with
     | true=>
       simp only [cond_true]
       exact ⟨j,rfl,hj,h98,by rcases BA h3 with e|e<;>rw [e]<;>rfl,by rcases BA h3 with e|e<;>rw [e]<;>rfl⟩
     | false=>
       simp only [cond_false]
       have h4:et (u.ins.get j).op=true:=by
        grind [iA]
       cases h5:(u.ins.get j).op==11 with
       | true=>
         simp only [cond_true]
         obtain ⟨q1,q2⟩:=be6 (eq_of_beq h5) rfl rfl
         obtain ⟨i,g1,g2,g3,g4⟩:=hI.used (k:=j) (j:=1) (by omega) (by rw [q1]; omega)
         grind
       | false=>
         simp only [cond_false]
         have h6:(u.ins.get j).op=13:=by
          grind [Nd]
         obtain ⟨q1,q2⟩:=aR0 h6 rfl rfl
         obtain ⟨i,g1,g2,g3,g4⟩:=hI.used (k:=j) (j:=2) (by omega) (by rw [q1]; omega)
         grind
theorem az1 (hI:Inv n u) (hk:k<n):∃ r b,tZ u k=Ho r b/\(b=true->Fit u k r):=by
 unfold tZ
 have no:∃ r b,kg 3 k 0 dk false=Ho r b/\(b=true->Fit u k r):=⟨⟨3,k,0,dk⟩,false,rfl,λh=>by cases h⟩
 cases (u.ins.get k).once with
 | true=>exact no
 | false=>
   simp only [cond_false]
   cases h1:ij (u.ins.get k).op with
   | true=>exact ar6 hI hk h1
   | false=>
     simp only [cond_false]
     cases h2:(u.ins.get k).op==7 with
     | true=>
       have yes:∀ b,∃ r b',kg 3 k 0 dk b=Ho r b'/\(b'=true->Fit u k r):=λb=>⟨⟨3,k,0,dk⟩,b,rfl,λ_=>.inl ⟨rfl,.inl (eq_of_beq h2)⟩⟩
       simp only [cond_true]
       cases (u.ins.get (u.ins.get k).a.toNat).op==16 with
       | true=>
         simp only [cond_true]
         cases !gM (u.ins.get (u.ins.get k).a.toNat) (u.ins.get k) with
         | true=>exact yes _
         | false=>exact yes _
       | false=>exact yes _
     | false=>
       simp only [cond_false]
       cases h3:(u.ins.get k).op==8 with
       | true=>exact ⟨⟨3,k,0,dk⟩,BI dM u k,rfl,λ_=>.inl ⟨rfl,.inr (.inl (eq_of_beq h3))⟩⟩
       | false=>exact no
theorem Inv.ZB (hI:Inv n u) (hk:k<n) {c:Int} (h:(u.ins.get k).op=c) (h1:gL c=1) (h2:(c==20)=false):bQ (u.ins.get k).a u.ins.n=true:=by
 obtain ⟨q1,q2⟩:=aZ2 h h1 h2
 obtain ⟨i,g1,g2,_,_⟩:=hI.used (k:=k) (j:=0) hk (by rw [q1]; omega)
 rw [q2] at g1
 rw [g1]
 exact aC (by rw [hI.n]; omega)
theorem ap4 (hI:Inv n u) (hk:k<n):∃ r b,V2 (tZ u k)=(r,b)/\LC 60 [aO u,int k] [] (Ho r b) []/\(b=true->Fit u k r):=by
 obtain ⟨r,b,h1,h2⟩:=az1 hI hk
 refine ⟨r,b,by rw [h1]; rfl,?_,h2⟩
 rw [<- h1]
 exact be0 u k (by rw [hI.n]; exact hk) hI.small hI.mem (λh=>hI.ZB hk h rfl rfl) (λh=>hI.ZB hk h rfl rfl)
theorem aq3 (hI:Inv n u) (hk:k<n):LC 61 [aO u,int k] [] (Ho ⟨3,k,0,dk⟩ (rZ u k)) []/\(rZ u k=true->Fit u k ⟨3,k,0,dk⟩):=by
 refine ⟨be8 u k (by rw [hI.n]; exact hk) hI.small hI.mem,λh=>.inl ⟨rfl,?_⟩⟩
 grind [rZ,Nd]
end
open Go Go.V
section
section
variable (r:fK) (s:Sq fK) (p:Bool)
def YB:List Go.V.I:=[iI r.kd,iI r.pos,iI r.src,iI r.v.kind,iI r.v.n,iS r.v.s]
def Ck:Nat->Go.V.I:=ixI (YB r)
def rwR:ah:=.arr 46 6 s.n (λi=>Ck (s.get i))
def fnV (f:FuncId):C:=.im (.fn f 0 λ_=>.v (.bool false))
def snR (x:fK):Sq fK:=eA s ⟨1,λ_=>x⟩
def tO (u:ak) (k:Nat):fK×Bool:=bif p then V2 (tZ u k) else (⟨3,(k:Int),0,dk⟩,rZ u k)
def De (k:Nat) (x:ak×Sq fK):ak×Sq fK:=bif (tO p x.1 k).2 then bif cp (kH x.1 (tO p x.1 k).1)!=0 then x else (kH x.1 (tO p x.1 k).1,snR x.2 (tO p x.1 k).1) else x
def Gy (p:Bool):Nat->Nat->ak×Sq fK->ak×Sq fK
 | 0,_,x=>x
 | m+1,k,x=>Gy p m (k+1) (De p k x)
def gT:fK:=⟨0,0,0,dk⟩
def rL:ak:=⟨⟨0,0⟩,aH iG,aH ⟨aH ⟨0,0,aH 0⟩,aH zV,0⟩⟩
def iy (t:ak):Sq fK:=bif cp t != 0 then aH gT else (Gy false t.ins.n 0 (Gy true t.ins.n 0 (t,aH gT))).2
def Qx (b:Bool) (u2:ak) (e:Int):eU:={ F:=ext pY [(18,λds _=>(int (cp (dO ds 0)),[],[])),(60,λ_ _=>(Ho r b,[],[])),(61,λ_ _=>(Ho r b,[],[])),(43,λ_ _=>(.t [(true,lift (aT u2)),(false,[ci e])],[],[]))] }
end
end
def xP:Nat->Bool:=λi=>Nat.beq i 8
theorem bn1:Fn 26:={}
abbrev UW:C:=.im (.fn 60 0 (λx=>I.v (Value.bool false)))
abbrev FW:eQ:=(5,((.c UW),[]))
abbrev re:eQ:=(14,((.c (.sa 1 2)),[]))
abbrev EW:eQ:=(16,((int 0),[]))
abbrev TR:C:=.im (.fn 61 0 (λx=>I.v (Value.bool false)))
section
variable (L:LP) (aj:Sq fK) (QD:D->Prop) (r:fK) (b:Bool) (u2:ak) (e:Int) (t:ak) (n:Nat) (u:ak) (s:Sq fK) (k:Nat)
abbrev xC:ah:=.row 108 1 2 [UW,TR]
theorem bn8 (h:(LC 18 [(ez t)] [] (int (cp t)) []/\br (cp t != 0) (QD (.c bS)) (L (af 26 8) ⟨[bM,(3,((.c bS),[])),FW,re,(15,((int (↑2:Int)),[])),EW,(22,((gY t),[])),(23,((int 0),[]))],[(aU t),xC],[]⟩))):ep (Qx r b u2 e) 26 xP L (bf QD) [aO t] []:=km h
def mA (r:fK) (b:Bool) (u2:ak) (e:Int) (t:ak) (n:Nat) (u:ak) (s:Sq fK) (k:Nat):VS:=⟨[iD,(3,.c (.sa 2 s.n),[]),(5,.c (fnV 60),[]),(14,.c (.sa 1 2),[]),(15,int 2,[]),(16,int 0,[]),(22,int n,[]),(23,int k,[])],[.box (lift (aT u)),.row 108 1 2 [fnV 60,fnV 61],rwR s],[]⟩
abbrev R3 (aj:fK) (ax:Bool):D:=.t [(.true,[(ci aj.kd),(ci aj.pos),(ci aj.src),(ci aj.v.1),(ci aj.v.2),(.im (.v (.string aj.v.3)))]),(.false,[(.im (.v (.bool ax)))])]
abbrev zu:eQ:=(3,((.c (.sa 2 aj.1)),[]))
abbrev tz:eQ:=(15,((int 2),[]))
abbrev vu (aj:Nat):eQ:=(22,((int (↑aj:Int)),[]))
abbrev lL:ah:=.arr 46 6 aj.1 (λi=>Ck (aj.2 i))
abbrev kT (aj:fK):List C:=[(ci aj.kd),(ci aj.pos),(ci aj.src),(ci aj.v.1),(ci aj.v.2),(.im (.v (.string aj.v.3)))]
abbrev AK (aj:ak) (ax:Int):D:=.t [(.true,(lift (aT (aj)))),(.false,[(ci ax)])]
abbrev T7 (ax:fK):ah:=.arr 46 6 (aj.1+1) (fZ aj.1 (λi=>Ck (aj.2 i)) (1,flat 6 [I.v (Value.int IntKind.i64 ax.kd),I.v (Value.int IntKind.i64 ax.pos),I.v (Value.int IntKind.i64 ax.src),I.v (Value.int IntKind.i64 ax.v.1),I.v (Value.int IntKind.i64 ax.v.2),iS ax.v.3]).snd)
abbrev Gm:eQ:=(5,((.c TR),[]))
theorem yn (h:br (decide ((↑k:Int)<(↑n:Int))) ((LC 60 (mf u k) [] (R3 r b) []/\br (!b) (L (af 26 8) ⟨[bM,(zu s),FW,re,tz,EW,(vu n),(23,((int (IntKind.i64.wrap ((↑k:Int)+1))),[]))],[(aU u),xC,(lL s),(.box (kT r))],[]⟩) ((LC 43 [(ez u),(.a (kT r))] [] (AK u2 e) []/\br (e==0) (nd (cw (s.1+1) 56) (nd (s.1.beq s.1) (L (af 26 8) ⟨[bM,(3,((.c (.sa 6 (.succ s.1))),[])),FW,re,tz,EW,(vu n),(23,((int (IntKind.i64.wrap ((↑k:Int)+1))),[]))],[(aU u2),xC,.dead,(.box (kT r)),(aU u2),(.row 46 6 1 (kT r)),(T7 s r)],[]⟩))) (L (af 26 8) ⟨[bM,(zu s),FW,re,tz,EW,(vu n),(23,((int (IntKind.i64.wrap ((↑k:Int)+1))),[]))],[(aU u),xC,(lL s),(.box (kT r)),(aU u2)],[]⟩))))) (L (af 26 8) ⟨[bM,(zu s),Gm,re,tz,(16,((int (IntKind.i64.wrap (0+1))),[])),(22,((gY u),[])),(23,((int 0),[]))],[(aU u),xC,(lL s)],[]⟩)):b5 (Qx r b u2 e) 26 xP L (bf QD) 8 (mA r b u2 e t n u s k):=km h
def ld (r:fK) (b:Bool) (u2:ak) (e:Int) (t:ak) (n:Nat) (u:ak) (s:Sq fK) (k:Nat):VS:=⟨[iD,(3,.c (.sa 2 s.n),[]),(5,.c (fnV 61),[]),(14,.c (.sa 1 2),[]),(15,int 2,[]),(16,int 1,[]),(22,int n,[]),(23,int k,[])],[.box (lift (aT u)),.row 108 1 2 [fnV 60,fnV 61],rwR s],[]⟩
abbrev qJ:D:=.c (.im (.sl 6 aj.1 (λi=>Ck (aj.2 i))))
theorem yI (h:br (decide ((↑k:Int)<(↑n:Int))) ((LC 61 (mf u k) [] (R3 r b) []/\br (!b) (L (af 26 8) ⟨[bM,(zu s),Gm,re,tz,(16,((int 1),[])),(vu n),(23,((int (IntKind.i64.wrap ((↑k:Int)+1))),[]))],[(aU u),xC,(lL s),(.box (kT r))],[]⟩) ((LC 43 [(ez u),(.a (kT r))] [] (AK u2 e) []/\br (e==0) (nd (cw (s.1+1) 56) (nd (s.1.beq s.1) (L (af 26 8) ⟨[bM,(3,((.c (.sa 6 (.succ s.1))),[])),Gm,re,tz,(16,((int 1),[])),(vu n),(23,((int (IntKind.i64.wrap ((↑k:Int)+1))),[]))],[(aU u2),xC,.dead,(.box (kT r)),(aU u2),(.row 46 6 1 (kT r)),(T7 s r)],[]⟩))) (L (af 26 8) ⟨[bM,(zu s),Gm,re,tz,(16,((int 1),[])),(vu n),(23,((int (IntKind.i64.wrap ((↑k:Int)+1))),[]))],[(aU u),xC,(lL s),(.box (kT r)),(aU u2)],[]⟩))))) (QD (qJ s))):b5 (Qx r b u2 e) 26 xP L (bf QD) 8 (ld r b u2 e t n u s k):=km h
end
section
variable (t:ak) (n c0:Nat)
theorem bj6 (hn:n<=1000) (hc:c0<=1000) (d:D):∀ k,k<=n->∀ x:ak×Sq fK,Inv n x.1->x.2.n<=c0+k->d=fM 6 Ck (Gy false (n-k) k x).2->ae 26 0 (a7 d) (af 26 8) (ld gT false t 0 t n x.1 x.2 k):=by
 refine aN (λk hk ih=>?_) ?_
 .rintro ⟨u,s⟩ hI hs hf
  have hI:Inv n u:=hI
  have hs:s.n<=c0+k:=hs
  have hW:=b6 hk (by unfold maxLen; omega:_<=maxLen)
  have e0:n-k=(n-(k+1))+1:=by omega
  rw [e0] at hf
  obtain ⟨h1,h2⟩:=aq3 hI hk
  generalize hr0:(⟨3,(k:Int),0,dk⟩:fK)=r at h1 h2
  generalize hb0:rZ u k=b at h1 h2
  have hpd:tO false u k=(r,b):=by show ((⟨3,(k:Int),0,dk⟩:fK),rZ u k)=_; rw [hr0,hb0]
  have go:∀ x':ak×Sq fK,De false k (u,s)=x'->Inv n x'.1->x'.2.n<=c0+(k+1)->ae 26 0 (a7 d) (af 26 8) (ld gT false t 0 t n x'.1 x'.2 (k+1)):=λx' hx h1 h2=>ih x' h1 h2 (by
   grind [Gy])
  have same:b=false->ae 26 0 (a7 d) (af 26 8) (ld gT false t 0 t n u s (k+1)):=λhb=>go (u,s) (by
   show (bif (tO false u k).2 then _ else _)=_
   rw [hpd,hb]; rfl) hI (by show s.n<=_; omega)
  cases hb:b with
  | false=>
    rw [hb] at h1
    refine aK (X:=Qx r false t 0) (stop:=xP) (yI _ _ r false t 0 t n u s k ?_)
    refine ag (λh0=>⟨h1,ag (λ_=>?_) (λh=>Bool.noConfusion h)⟩) (λh=>(dec_lt h hk).elim)
    rw [hW]
    exact ae.rename [0,1,2] rfl (ae.lr (ld gT false t 0 t n u s (k+1)) (same hb))
  | true=>
    rw [hb] at h1
    have hw:=(h2 hb).rewrite hI hk
    cases hr:cp (kH u r)!=0 with
    | true=>
      have hw:LC 43 [aO u,va r.kd r.pos r.src r.v] [] (.t [(true,lift (aT rL)),(false,[ci 1])]) []:=bt.post hw (by unfold H2; rw [hr]; exact H4 (.cons (dI.refl _) (.cons (dI.refl _) (.cons (dI.im ia) (.cons (dI.im ia) .nil)))))
      refine aK (X:=Qx r true rL 1) (stop:=xP) (yI _ _ r true rL 1 t n u s k ?_)
      refine ag (λh0=>⟨h1,ag (λh=>Bool.noConfusion h) (λ_=>⟨hw,ag (λh=>absurd h (by decide)) (λ_=>?_)⟩)⟩) (λh=>(dec_lt h hk).elim)
      rw [hW]
      exact ae.rename [0,1,2] rfl (ae.lr (ld gT false t 0 t n u s (k+1)) (go (u,s) (by
       show (bif (tO false u k).2 then (bif cp (kH u (tO false u k).1)!=0 then _ else _) else _)=_
       rw [hpd,hb,hr]; rfl) hI (by show s.n<=_; omega)))
    | false=>
      have hw:LC 43 [aO u,va r.kd r.pos r.src r.v] [] (.t [(true,lift (aT (kH u r))),(false,[ci 0])]) []:=bt.post hw (by unfold H2; rw [hr]; exact aX.refl _)
      have h0r:cp (kH u r)=0:=by simpa using hr
      refine aK (X:=Qx r true (kH u r) 0) (stop:=xP) (yI _ _ r true (kH u r) 0 t n u s k ?_)
      refine ag (λh0=>⟨h1,ag (λh=>Bool.noConfusion h) (λ_=>⟨hw,ag (λ_=>ai (bO (by show s.n+1<=_; omega) (by omega)) (ai (dv _) ?_)) (λh=>absurd h (by decide))⟩)⟩) (λh=>(dec_lt h hk).elim)
      rw [hW]
      exact ae.rename [0,1,6] rfl (ae.lf (ld gT false t 0 t n (kH u r) (snR s r) (k+1)) (rc (rc (.cons (rE 46 6 s r Ck (YB r) λj hj=>by rw [pE (l:=YB r) hj]; exact cD.refl _) .nil))) (go (kH u r,snR s r) (by
       show (bif (tO false u k).2 then (bif cp (kH u (tO false u k).1)!=0 then _ else _) else _)=_
       rw [hpd,hb,hr]; rfl) (hI.next h0r) (by show s.n+1<=_; omega)))
 .rintro ⟨u,s⟩ hI hs hf
  rw [Nat.sub_self] at hf
  refine aK (X:=Qx gT false t 0) (stop:=xP) (yI _ _ gT false t 0 t n u s n ?_)
  refine ag (λh=>bq h) (λh=>?_)
  rw [hf]
  exact aX.refl _
theorem ba1 (hn:n<=1000) (hc:c0<=1000) (d:D):∀ k,k<=n->∀ x:ak×Sq fK,Inv n x.1->x.2.n<=c0+k->(∀ y:ak×Sq fK,Gy true (n-k) k x=y->ae 26 0 (a7 d) (af 26 8) (ld gT false t 0 t n y.1 y.2 0))->ae 26 0 (a7 d) (af 26 8) (mA gT false t 0 t n x.1 x.2 k):=by
 refine aN (λk hk ih=>?_) ?_
 .rintro ⟨u,s⟩ hI hs hf
  have hI:Inv n u:=hI
  have hs:s.n<=c0+k:=hs
  have hW:=b6 hk (by unfold maxLen; omega:_<=maxLen)
  have e0:n-k=(n-(k+1))+1:=by omega
  rw [e0] at hf
  obtain ⟨r,b,hpd,h1,h2⟩:=ap4 hI hk
  have hpd:tO true u k=(r,b):=hpd
  have go:∀ x':ak×Sq fK,De true k (u,s)=x'->Inv n x'.1->x'.2.n<=c0+(k+1)->ae 26 0 (a7 d) (af 26 8) (mA gT false t 0 t n x'.1 x'.2 (k+1)):=λx' hx h1 h2=>ih x' h1 h2 (by
   grind [Gy])
  have same:b=false->ae 26 0 (a7 d) (af 26 8) (mA gT false t 0 t n u s (k+1)):=λhb=>go (u,s) (by
   show (bif (tO true u k).2 then _ else _)=_
   rw [hpd,hb]; rfl) hI (by show s.n<=_; omega)
  cases hb:b with
  | false=>
    rw [hb] at h1
    refine aK (X:=Qx r false t 0) (stop:=xP) (yn _ _ r false t 0 t n u s k ?_)
    refine ag (λh0=>⟨h1,ag (λ_=>?_) (λh=>Bool.noConfusion h)⟩) (λh=>(dec_lt h hk).elim)
    rw [hW]
    exact ae.rename [0,1,2] rfl (ae.lr (mA gT false t 0 t n u s (k+1)) (same hb))
  | true=>
    rw [hb] at h1
    have hw:=(h2 hb).rewrite hI hk
    cases hr:cp (kH u r)!=0 with
    | true=>
      have hw:LC 43 [aO u,va r.kd r.pos r.src r.v] [] (.t [(true,lift (aT rL)),(false,[ci 1])]) []:=bt.post hw (by unfold H2; rw [hr]; exact H4 (.cons (dI.refl _) (.cons (dI.refl _) (.cons (dI.im ia) (.cons (dI.im ia) .nil)))))
      refine aK (X:=Qx r true rL 1) (stop:=xP) (yn _ _ r true rL 1 t n u s k ?_)
      refine ag (λh0=>⟨h1,ag (λh=>Bool.noConfusion h) (λ_=>⟨hw,ag (λh=>absurd h (by decide)) (λ_=>?_)⟩)⟩) (λh=>(dec_lt h hk).elim)
      rw [hW]
      exact ae.rename [0,1,2] rfl (ae.lr (mA gT false t 0 t n u s (k+1)) (go (u,s) (by
       show (bif (tO true u k).2 then (bif cp (kH u (tO true u k).1)!=0 then _ else _) else _)=_
       rw [hpd,hb,hr]; rfl) hI (by show s.n<=_; omega)))
    | false=>
      have hw:LC 43 [aO u,va r.kd r.pos r.src r.v] [] (.t [(true,lift (aT (kH u r))),(false,[ci 0])]) []:=bt.post hw (by unfold H2; rw [hr]; exact aX.refl _)
      have h0r:cp (kH u r)=0:=by simpa using hr
      refine aK (X:=Qx r true (kH u r) 0) (stop:=xP) (yn _ _ r true (kH u r) 0 t n u s k ?_)
      refine ag (λh0=>⟨h1,ag (λh=>Bool.noConfusion h) (λ_=>⟨hw,ag (λ_=>ai (bO (by show s.n+1<=_; omega) (by omega)) (ai (dv _) ?_)) (λh=>absurd h (by decide))⟩)⟩) (λh=>(dec_lt h hk).elim)
      rw [hW]
      exact ae.rename [0,1,6] rfl (ae.lf (mA gT false t 0 t n (kH u r) (snR s r) (k+1)) (rc (rc (.cons (rE 46 6 s r Ck (YB r) λj hj=>by rw [pE (l:=YB r) hj]; exact cD.refl _) .nil))) (go (kH u r,snR s r) (by
       show (bif (tO true u k).2 then (bif cp (kH u (tO true u k).1)!=0 then _ else _) else _)=_
       rw [hpd,hb,hr]; rfl) (hI.next h0r) (by show s.n+1<=_; omega)))
 .rintro ⟨u,s⟩ hI hs hf
  rw [Nat.sub_self] at hf
  refine aK (X:=Qx gT false t 0) (stop:=xP) (yn _ _ gT false t 0 t n u s n ?_)
  refine ag (λh=>bq h) (λh=>?_)
  have hn2:u.2.1=n:=hI.n
  subst hn2
  exact ae.lr (ld gT false t 0 t u.2.1 u s 0) (hf (u,s) rfl)
theorem uB (t:ak):∀ (p:Bool) (m k n:Nat) (x:ak×Sq fK),k+m<=n->Inv n x.1->Inv n (Gy p m k x).1/\(Gy p m k x).2.n<=x.2.n+m
 | p,0,k,n,x,_,hI=>⟨hI,bF _⟩
 | p,m+1,k,n,x,hk,hI=>by
   have key:Inv n (De p k x).1/\(De p k x).2.n<=x.2.n+1:=by
    unfold De
    cases (tO p x.1 k).2 with
    | false=>grind
    | true=>
      cases hr:cp (kH x.1 (tO p x.1 k).1)!=0 with
      | true=>grind
      | false=>exact ⟨hI.next (by simpa using hr),bF _⟩
   obtain ⟨h1,h2⟩:=uB t p m (k+1) n (De p k x) (by omega) key.1
   grind [Gy]
theorem al1 (hS:aM t) (hn:∀ k,k<t.ins.n->(t.ins.get k).n<=9223372036854775807):LC 26 [aO t] [] (fM 6 Ck (iy t)) []:=by
 have hN:=hS.ins
 refine pv (X:=Qx gT false t 0) (stop:=xP) bn1 (bn8 _ _ gT false t 0 t ⟨Wk t hS,ag (λh=>?_) (λh=>?_)⟩)
 .have h:(cp t != 0)=true:=h
  rw [show iy t=aH gT from by unfold iy; rw [h]; rfl]
  exact λE av w v q=>dI.nil 6 _ E av w v q
 .have h:(cp t != 0)=false:=h
  rw [show iy t=(Gy false t.ins.n 0 (Gy true t.ins.n 0 (t,aH gT))).2 from by unfold iy; rw [h]; rfl]
  have hI:Inv t.ins.n t:=⟨hS,by simpa using h,hn,rfl⟩
  have hA:=uB t true t.ins.n 0 t.ins.n (t,aH gT) (by omega) hI
  refine ae.Cj 3 46 6 rfl (ae.lf (mA gT false t 0 t t.ins.n t (aH gT) 0) (rc (rc (.cons (qp 46 6 _ _) .nil))) (ba1 t t.ins.n 0 hN (bk _) _ 0 (bk _) (t,aH gT) hI (bF _) ?_))
  grind [aH,bj6]
end
open Go Go.V
section
def F66:FuncId->List D->List ah->Out:=ext pY [(66,λds _=>(int (cf (dO ds 0) (aI ds 1).toNat (aI ds 2).toNat),[],[]))]
def OP:eU:={ F:=F66 }
def Rm (x y:au):Bool:=x.op==y.op&&(x.a==y.a && !gM x y)
def Qu (s:Int):eU:={ F:=ext F66 [(103,λ_ _=>(int s,[],[])),(106,λds _=>(bool (Rm (qA ds 0) (qA ds 1)),[],[]))] }
section
variable (t:ak) (k:Nat)
def WQ:Int:=match rW t (yr t k) k with
 | some j=>(j:Int)
 | none => -1
def Il (r:fK):D:=va r.kd r.pos r.src r.v
def Mc:fK:=⟨0,0,0,dk⟩
def ki:fK:=bif (V2 (tZ t k)).2 then (V2 (tZ t k)).1 else Mc
end
end
def aq1:Nat->Bool:=bH
theorem bi1:Fn 106:={}
section
variable (t:ak) (p q:Nat)
theorem be3 (L:LP) (QD:D->Prop) (x y:au) (h:br (x.1==y.1) (br (x.2==y.2) ((LC 105 [(wi x),(wi y)] [] (bool (gM x y)) []/\QD (bool (!gM x y)))) (QD (bool false))) (QD (bool false))):ep OP 106 aq1 L (bf QD) [fk x,fk y] []:=km h
theorem ad1 {op:Int} (h:ij op=true):et op=false:=by
 rcases BA h with e|e<;>rw [e]<;>rfl
theorem vH:cf t p q=0∨cf t p q=1∨cf t p q=2:=by
 grind [QN,B3,s5]
theorem yw:decide (cf t p q>0)=(cf t p q != 0):=by
 rcases vH t p q with h|h|h<;>rw [h]<;>rfl
theorem Me (hp:p<t.ins.n) (hq:q<t.ins.n) (hS:aM t) (hm:gK t):LC 66 [aO t,int p,int q] [] (int (cf t p q)) []:=by
 rw [QN]
 exact aQ6 t p q hp hq hS hm
def Py (k j:Nat):Int:=match rW t (yr t k) j with
 | some j=>(j:Int)
 | none => -1
end
section
variable (x:au) {S:ak->Nat->Nat->Bool} {t:ak} (y:au) {k j:Nat}
theorem uf (h:(t.ins.get j).once=false) (h2:iA t k j=true):Py t k (j+1)=j:=by
 grind [rW,yr,Py]
theorem nJ (h:(t.ins.get j).once=true∨iA t k j=false):Py t k (j+1)=Py t k j:=by
 grind [rW,yr,Py]
theorem H3:gM x y=gM y x:=by
 grind [gM,HQ]
theorem Fx {t:ak} {dP:Int->Bool}:∀ {k j:Nat},j<k->(t.ins.get j).once=false->dP (Int.ofNat j)=true->∃ i,rW t dP k=some i
 | 0,j,h,_,_=>absurd h (Nat.not_lt_zero j)
 | k+1,j,h,h1,h2=>by
   unfold rW
   cases ho:(t.ins.get k).once with
   | true=>
     have hj:j≠k:=λe=>by grind
     exact Fx (by omega) h1 h2
   | false=>
     cases hs:dP (Int.ofNat k) with
     | true=>exact ⟨k,rfl⟩
     | false=>
       have hj:j≠k:=λe=>by grind
       exact Fx (by omega) h1 h2
theorem H9 {t:ak} {dP:Int->Bool}:∀ {k:Nat},(∀ j,j<k->(t.ins.get j).once=true∨dP (Int.ofNat j)=false)->rW t dP k=none
 | 0,_=>rfl
 | k+1,h=>by
   have ih:=H9 (k:=k) λj hj=>h j (by omega)
   grind [rW]
theorem CW (hj:j<k) (h1:(t.ins.get j).once=false) (h2:S t k j=true):BI S t k=true:=by
 obtain ⟨i,h⟩:=Fx (dP:=BF S t k) hj h1 h2
 unfold BI
 rw [h]
theorem aj7 (h:∀ j,j<k->(t.ins.get j).once=true∨S t k j=false):BI S t k=false:=by
 unfold BI
 rw [H9 (dP:=BF S t k) h]
theorem qq (v:Int):jh v q5=(v==8||(v==9||(v==12||(v==13||v==14)))):=by
 rw [an4,Jl]
 simp only [Bool.or_eq_true,beq_iff_eq]
 constructor
 .rintro ⟨i,hi,e⟩
  have hi:i<5:=hi
  match i,hi,e with
  | 0,_,e=>exact .inl e
  | 1,_,e=>exact .inr (.inl e)
  | 2,_,e=>exact .inr (.inr (.inl e))
  | 3,_,e=>exact .inr (.inr (.inr (.inl e)))
  | 4,_,e=>exact .inr (.inr (.inr (.inr e)))
 .rintro (e|e|e|e|e)
  .exact ⟨0,aQ rfl,e⟩
  .exact ⟨1,aQ rfl,e⟩
  .exact ⟨2,aQ rfl,e⟩
  .exact ⟨3,aQ rfl,e⟩
  .exact ⟨4,aQ rfl,e⟩
theorem av2:LC 106 [fk x,fk y] [] (bool (Rm x y)) []:=by
 refine pv (X:=OP) (stop:=aq1) bi1 (be3 _ _ x y ?_)
 refine ag (λh0=>?_) (λh0=>?_)
 .refine ag (λh1=>?_) (λh1=>?_)
  .refine ⟨JE _ _,?_⟩
   grind [Rm,aX.refl]
  grind [Rm,aX.refl]
 grind [Rm,aX.refl]
def CX:Nat->Bool:=λi=>Nat.beq i 2
end
theorem aY7:Fn 103:={}
section
variable (L:LP) (QD:D->Prop) (t:ak) (k j:Nat)
theorem aN0 (h:L (af 103 2) ⟨[(dy k),b4,(5,((int (IntKind.i64.wrap ((↑k:Int)-1))),[]))],[(aU t)],[]⟩):ep OP 103 CX L (bf QD) [aO t,int k] []:=km h
def pC:VS:=⟨[(1,int k,[]),gm,(5,int j,[])],[.box (lift (aT t))],[]⟩
abbrev mX (aj:ak) (ax:Nat):List ah:=[(aU aj),(eS aj ax)]
theorem Ye (h:nd (bQ (↑j:Int) t.2.1) (br ((t.2.2 j).11) (L (af 103 2) ⟨[(dy k),b4,(5,((int (IntKind.i64.wrap ((↑j:Int)-1))),[]))],(mX t j),[]⟩) ((LC 104 [(eD t j)] [] (bool (kx (t.2.2 j).1)) []/\br (!kx (t.2.2 j).1) ((LC 63 [(eD t j)] [] (bool (zw (t.2.2 j).1)) []/\br (!zw (t.2.2 j).1) (L (af 103 2) ⟨[(dy k),b4,(5,((int (IntKind.i64.wrap ((↑j:Int)-1))),[]))],(mX t j),[]⟩) ((LC 66 (wI t j k) [] (int (cf t j k)) []/\br (cf t j k==2) (QD (int (↑j:Int))) (br (cf t j k==1) ((LC 63 [(eD t j)] [] (bool (zw (t.2.2 j).1)) []/\br (zw (t.2.2 j).1) (QD (int (↑j:Int))) (L (af 103 2) ⟨[(dy k),b4,(5,((int (IntKind.i64.wrap ((↑j:Int)-1))),[]))],(mX t j),[]⟩))) (L (af 103 2) ⟨[(dy k),b4,(5,((int (IntKind.i64.wrap ((↑j:Int)-1))),[]))],(mX t j),[]⟩)))))) ((LC 66 (wI t j k) [] (int (cf t j k)) []/\br (cf t j k==2) (QD (int (↑j:Int))) (br (cf t j k==1) ((LC 63 [(eD t j)] [] (bool (zw (t.2.2 j).1)) []/\br (zw (t.2.2 j).1) (QD (int (↑j:Int))) (L (af 103 2) ⟨[(dy k),b4,(5,((int (IntKind.i64.wrap ((↑j:Int)-1))),[]))],(mX t j),[]⟩))) (L (af 103 2) ⟨[(dy k),b4,(5,((int (IntKind.i64.wrap ((↑j:Int)-1))),[]))],(mX t j),[]⟩)))))))):b5 OP 103 CX L (bf QD) 2 (pC t k j):=km h
def l4  : VS:=⟨[(1,int k,[]),gm,(5,int (-1),[])],[.box (lift (aT t))],[]⟩
theorem Vp (h:QD (int (-1))):b5 OP 103 CX L (bf QD) 2 (l4 t k ):=km h
end
section
variable (t:ak) (k:Nat)
def bo3:Nat->VS
 | 0=>l4 t k
 | j+1=>pC t k j
theorem bf4 (hk:k<t.ins.n) (hS:aM t) (hm:gK t):∀ j,j<=k->ae 103 0 (a7 (int (Py t k j))) (af 103 2) (bo3 t k j):=by
 have hN:=hS.ins
 intro j
 induction j with
 | zero=>
   intro _
   refine aK (X:=OP) (stop:=CX) (Vp _ _ t k ?_)
   exact aX.refl _
 | succ j oH=>
   intro hj
   have oH:=oH (by omega)
   have hc:=Me t j k (by omega) hk hS hm
   refine aK (X:=OP) (stop:=CX) (Ye _ _ t k j ?_)
   refine ai (by exact aC (by omega)) ?_
   refine ag (λh0=>?_) (λh0=>?_)
   .have h0:((t.ins.get j).once)=true:=h0
    rw [nJ (.inl h0)]
    rw [jE j (by omega)]
    cases j with
    | zero=>exact ae.rename [0] rfl (ae.lr (l4 t k) oH)
    | succ j=>exact ae.rename [0] rfl (ae.lr (pC t k j) oH)
   .refine ⟨AE _,?_⟩
    refine ag (λh1=>?_) (λh1=>?_)
    .refine ⟨uP _,?_⟩
     refine ag (λh2=>?_) (λh2=>?_)
     .have h0:((t.ins.get j).once)=false:=h0
      have h1:(!kx (t.ins.get j).op)=true:=h1
      have h2:(!zw (t.ins.get j).op)=true:=h2
      have h2:iA t k j=false:=by unfold iA; rw [<- la,<- qE]; simp_all
      rw [nJ (.inr h2)]
      rw [jE j (by omega)]
      cases j with
      | zero=>exact ae.rename [0] rfl (ae.lr (l4 t k) oH)
      | succ j=>exact ae.rename [0] rfl (ae.lr (pC t k j) oH)
     .refine ⟨hc,?_⟩
      refine ag (λh3=>?_) (λh3=>?_)
      .grind [iA,qE,uf,aX.refl]
      .refine ag (λh4=>?_) (λh4=>?_)
       .grind [uP,ag,iA,qE,uf,aX.refl]
       .have h0:((t.ins.get j).once)=false:=h0
        have h1:(!kx (t.ins.get j).op)=true:=h1
        have h2:(!zw (t.ins.get j).op)=false:=h2
        have h3:(cf t j k==2)=false:=h3
        have h4:(cf t j k==1)=false:=h4
        have h2:iA t k j=false:=by unfold iA; grind
        rw [nJ (.inr h2)]
        rw [jE j (by omega)]
        cases j with
        | zero=>exact ae.rename [0] rfl (ae.lr (l4 t k) oH)
        | succ j=>exact ae.rename [0] rfl (ae.lr (pC t k j) oH)
    .refine ⟨hc,?_⟩
     refine ag (λh2=>?_) (λh2=>?_)
     .grind [iA,la,uf,aX.refl]
     .refine ag (λh3=>?_) (λh3=>?_)
      .refine ⟨uP _,?_⟩
       refine ag (λh4=>?_) (λh4=>?_)
       .grind [iA,qE,uf,aX.refl]
       .have h0:((t.ins.get j).once)=false:=h0
        have h1:(!kx (t.ins.get j).op)=false:=h1
        have h2:(cf t j k==2)=false:=h2
        have h3:(cf t j k==1)=true:=h3
        have h4:(zw (t.ins.get j).op)=false:=h4
        have h2:iA t k j=false:=by unfold iA; rw [<- la,<- qE]; simp_all
        rw [nJ (.inr h2)]
        rw [jE j (by omega)]
        cases j with
        | zero=>exact ae.rename [0] rfl (ae.lr (l4 t k) oH)
        | succ j=>exact ae.rename [0] rfl (ae.lr (pC t k j) oH)
      .have h0:((t.ins.get j).once)=false:=h0
       have h1:(!kx (t.ins.get j).op)=false:=h1
       have h2:(cf t j k==2)=false:=h2
       have h3:(cf t j k==1)=false:=h3
       have h2:iA t k j=false:=by unfold iA; grind
       rw [nJ (.inr h2)]
       rw [jE j (by omega)]
       cases j with
       | zero=>exact ae.rename [0] rfl (ae.lr (l4 t k) oH)
       | succ j=>exact ae.rename [0] rfl (ae.lr (pC t k j) oH)
theorem St (hk:k<t.ins.n) (hS:aM t) (hm:gK t):LC 103 [aO t,int k] [] (int (WQ t k)) []:=by
 have hN:=hS.ins
 refine pv (X:=OP) (stop:=CX) aY7 (aN0 _ _ t k ?_)
 rw [jE k (by omega)]
 have:=bf4 t k hk hS hm k (bF _)
 revert this
 cases k with
 | zero=>exact id
 | succ k=>exact id
end
def RH:Nat->Bool:=λi=>Nat.beq i 2
theorem bC2:Fn 64:={}
section
variable (L aj:LP) (QD:D->Prop) (t:ak) (ax k:Nat) (aJ:ak) (s:Int) (j:Nat)
theorem bC0 (h:L (af 64 2) ⟨[(dy k),b4,(5,((int (IntKind.i64.wrap ((↑k:Int)+1))),[]))],[(aU t)],[]⟩):ep OP 64 RH L (bf QD) [aO t,int k] []:=km h
def wG:VS:=⟨[(oM k),(2,(.c (.rt 0 0 0)),[]),(5,int j,[])],[(aU t)],[]⟩
theorem W3 (h:br (decide ((↑j:Int)<(↑t.2.1:Int))) (nd (bQ (↑j:Int) t.2.1) ((LC 66 (wI t k j) [] (int (cf t k j)) []/\(LC 63 [(eD t j)] [] (bool (zw (t.2.2 j).1)) []/\br (zw (t.2.2 j).1) (br (cf t k j==2) (QD (bool true)) (br (decide ((t.2.2 j).10≥0)) (QD (bool false)) ((LC 104 [(eD t j)] [] (bool (kx (t.2.2 j).1)) []/\br (kx (t.2.2 j).1) (br (decide (cf t k j>0)) (QD (bool false)) (L (af 64 2) ⟨[(dy k),b4,(5,((int (IntKind.i64.wrap ((↑j:Int)+1))),[]))],(mX t j),[]⟩)) (L (af 64 2) ⟨[(dy k),b4,(5,((int (IntKind.i64.wrap ((↑j:Int)+1))),[]))],(mX t j),[]⟩))))) (br (decide ((t.2.2 j).10≥0)) (QD (bool false)) ((LC 104 [(eD t j)] [] (bool (kx (t.2.2 j).1)) []/\br (kx (t.2.2 j).1) (br (decide (cf t k j>0)) (QD (bool false)) (L (af 64 2) ⟨[(dy k),b4,(5,((int (IntKind.i64.wrap ((↑j:Int)+1))),[]))],(mX t j),[]⟩)) (L (af 64 2) ⟨[(dy k),b4,(5,((int (IntKind.i64.wrap ((↑j:Int)+1))),[]))],(mX t j),[]⟩)))))))) (QD (bool false))):b5 OP 64 RH L (bf QD) 2 (wG t k j):=km h
theorem as3 (hk:k<t.ins.n) (hS:aM t) (hm:gK t) (a:Bool):∀ j,j<=t.ins.n->k<j->kZ t k (t.ins.n-j) j=a->ae 64 0 (a7 (bool a)) (af 64 2) (wG t k j):=by
 have hN:=hS.ins
 refine aN (λj hj ih Xh ha=>?_) (λXh ha=>?_)
 .have e:t.ins.n-j=(t.ins.n-(j+1))+1:=by omega
  rw [e] at ha
  have hW:=b6 hj (by unfold maxLen; omega:_<=maxLen)
  have h65:=Me t k j hk hj hS hm
  replace ih:=λ(_:k<j)=>ih (by omega)
  refine aK (X:=OP) (stop:=RH) (W3 _ _ t k j ?_)
  refine ag (λh0=>?_) (λh=>(dec_lt h hj).elim)
  refine ai (by exact aC hj) ?_
  refine ⟨h65,?_⟩
  refine ⟨uP _,?_⟩
  refine ag (λh1=>?_) (λh1=>?_)
  .refine ag (λh2=>?_) (λh2=>?_)
   .simp only [kZ,show (et (t.ins.get j).op)=true from h1,show (cf t k j==2)=true from h2,fg] at ha
    subst ha
    exact aX.refl _
   .refine ag (λh3=>?_) (λh3=>?_)
    .grind [kZ,aX.refl]
    .refine ⟨AE _,?_⟩
     refine ag (λh4=>?_) (λh4=>?_)
     .refine ag (λh5=>?_) (λh5=>?_)
      .have h5:(cf t k j != 0)=true:=(yw t k j)▸h5
       simp only [kZ,show (et (t.ins.get j).op)=true from h1,show (cf t k j==2)=false from h2,show (decide ((t.ins.get j).exit≥0))=false from h3,show (ij (t.ins.get j).op)=true from h4,h5,fg] at ha
       subst ha
       exact aX.refl _
      .have h5:(cf t k j != 0)=false:=(yw t k j)▸h5
       simp only [kZ,show (et (t.ins.get j).op)=true from h1,show (cf t k j==2)=false from h2,show (decide ((t.ins.get j).exit≥0))=false from h3,show (ij (t.ins.get j).op)=true from h4,h5,fg] at ha
       rw [hW]
       exact ae.rename [0] rfl (ae.lr (wG t k (j+1)) (ih Xh ha))
     .simp only [kZ,show (et (t.ins.get j).op)=true from h1,show (cf t k j==2)=false from h2,show (decide ((t.ins.get j).exit≥0))=false from h3,show (ij (t.ins.get j).op)=false from h4,fg] at ha
      rw [hW]
      exact ae.rename [0] rfl (ae.lr (wG t k (j+1)) (ih Xh ha))
  .refine ag (λh2=>?_) (λh2=>?_)
   .simp only [kZ,show (et (t.ins.get j).op)=false from h1,show (decide ((t.ins.get j).exit≥0))=true from h2,fg] at ha
    subst ha
    exact aX.refl _
   .refine ⟨AE _,?_⟩
    refine ag (λh3=>?_) (λh3=>?_)
    .refine ag (λh4=>?_) (λh4=>?_)
     .have h4:(cf t k j != 0)=true:=(yw t k j)▸h4
      simp only [kZ,show (et (t.ins.get j).op)=false from h1,show (decide ((t.ins.get j).exit≥0))=false from h2,show (ij (t.ins.get j).op)=true from h3,h4,fg] at ha
      subst ha
      exact aX.refl _
     .have h4:(cf t k j != 0)=false:=(yw t k j)▸h4
      simp only [kZ,show (et (t.ins.get j).op)=false from h1,show (decide ((t.ins.get j).exit≥0))=false from h2,show (ij (t.ins.get j).op)=true from h3,h4,fg] at ha
      rw [hW]
      exact ae.rename [0] rfl (ae.lr (wG t k (j+1)) (ih Xh ha))
    .simp only [kZ,show (et (t.ins.get j).op)=false from h1,show (decide ((t.ins.get j).exit≥0))=false from h2,show (ij (t.ins.get j).op)=false from h3,fg] at ha
     rw [hW]
     exact ae.rename [0] rfl (ae.lr (wG t k (j+1)) (ih Xh ha))
 .rw [Nat.sub_self] at ha
  refine aK (X:=OP) (stop:=RH) (W3 _ _ t k _ ?_)
  refine ag (λh=>bq h) (λh=>?_)
  have ha:false=a:=ha
  subst ha
  exact aX.refl _
theorem bi3 (hk:k<t.ins.n) (hS:aM t) (hm:gK t):LC 64 [aO t,int k] [] (bool (kZ t k (t.ins.n-(k+1)) (k+1))) []:=by
 have hN:=hS.ins
 refine pv (X:=OP) (stop:=RH) bC2 (bC0 _ _ t k ?_)
 rw [b6 hk (by unfold maxLen; omega)]
 exact as3 t k hk hS hm _ (k+1) hk (Nat.lt_succ_self k) rfl
def xS:Nat->Bool:=λi=>Nat.beq i 8||Nat.beq i 25||Nat.beq i 31
theorem bx1:Fn 62:={}
abbrev U7:Prop:=aj (af 62 8) ⟨[(dy ax),b4,bK,jV,jS,(23,((eD aJ ax),[])),(24,((bool true),[]))],[(aU aJ),gq,(eS aJ ax),gq],[]⟩
abbrev VY:Prop:=aj (af 62 25) ⟨[(dy ax),b4,bK,jV,jS,(9,((int 0),[]))],[(aU aJ),gq,(eS aJ ax),gq,.dead],[]⟩
theorem bC4 (h:nd (bQ (↑k:Int) t.2.1) (br ((t.2.2 k).11) (QD (.a o8)) (br ((t.2.2 k).1==10) (U7 L k t) (br ((t.2.2 k).1==12) (U7 L k t) (br ((t.2.2 k).1==7) (nd (bQ (t.2.2 k).2 t.2.1) (br ((t.2.2 (t.2.2 k).2.toNat).1==16) (nd (bQ (t.2.2 k).2 t.2.1) ((LC 105 [(.a (lift (bW (t.2.2 (t.2.2 k).2.toNat)))),(qb t k)] [] (bool (gM (t.2.2 (t.2.2 k).2.toNat) (t.2.2 k))) []/\br (!gM (t.2.2 (t.2.2 k).2.toNat) (t.2.2 k)) (QD (.a (fI k))) (VY L k t)))) (VY L k t))) (br ((t.2.2 k).1==8) (L (af 62 31) ⟨[(dy k),b4,bK,jV,jS,(10,((int 0),[]))],[(aU t),gq,(eS t k),gq],[]⟩) (QD (.a o8)))))))):ep (Qu s) 62 xS L (bf QD) [aO t,int k] []:=km h
abbrev Du (aj:ak) (ax:Nat):List ah:=[.box (lift (aT aj)),jC 0 0 0 dk,.box (lift (bW (aj.ins.get ax))),jC 0 0 0 dk]
def rJ (s:Int) (j:Nat):VS:=⟨[(1,int k,[]),gm,ji,wE,Bp,(9,int j,[])],(Du t k),[]⟩
theorem Mw (h:br (decide ((↑j:Int)<(↑k:Int))) (nd (bQ (↑j:Int) t.2.1) (br (!(t.2.2 j).11) (nd (bQ (↑j:Int) t.2.1) ((LC 106 [(qb t j),(qb t k)] [] (bool (Rm (t.2.2 j) (t.2.2 k))) []/\br (Rm (t.2.2 j) (t.2.2 k)) (QD (.a (fI k))) (L (af 62 25) ⟨[(dy k),b4,bK,jV,jS,(9,((int (IntKind.i64.wrap ((↑j:Int)+1))),[]))],[(aU t),gq,(eS t k),gq,.dead],[]⟩)))) (L (af 62 25) ⟨[(dy k),b4,bK,jV,jS,(9,((int (IntKind.i64.wrap ((↑j:Int)+1))),[]))],[(aU t),gq,(eS t k),gq,.dead],[]⟩))) (QD (.a o8))):b5 (Qu s) 62 xS L (bf QD) 25 (rJ t k s j):=km h
def gI (s:Int) (j:Nat):VS:=⟨[(1,int k,[]),gm,ji,wE,Bp,(10,int j,[])],(Du t k),[]⟩
abbrev lJ (aj:ak) (ax aJ:Nat):List ah:=[(aU aj),gq,(eS aj ax),gq,(eS aj aJ)]
theorem Og (h:br (decide ((↑j:Int)<(↑k:Int))) (nd (bQ (↑j:Int) t.2.1) (br ((t.2.2 j).1==8) (br (!(t.2.2 j).11) (br ((t.2.2 j).2==(t.2.2 k).2) (QD (.a (fI k))) (L (af 62 31) ⟨[(dy k),b4,bK,jV,jS,(10,((int (IntKind.i64.wrap ((↑j:Int)+1))),[]))],(lJ t k j),[]⟩)) (L (af 62 31) ⟨[(dy k),b4,bK,jV,jS,(10,((int (IntKind.i64.wrap ((↑j:Int)+1))),[]))],(lJ t k j),[]⟩)) (br ((t.2.2 j).1==9) (br (!(t.2.2 j).11) (br ((t.2.2 j).2==(t.2.2 k).2) (QD (.a (fI k))) (L (af 62 31) ⟨[(dy k),b4,bK,jV,jS,(10,((int (IntKind.i64.wrap ((↑j:Int)+1))),[]))],(lJ t k j),[]⟩)) (L (af 62 31) ⟨[(dy k),b4,bK,jV,jS,(10,((int (IntKind.i64.wrap ((↑j:Int)+1))),[]))],(lJ t k j),[]⟩)) (br ((t.2.2 j).1==12) (br (!(t.2.2 j).11) (br ((t.2.2 j).2==(t.2.2 k).2) (QD (.a (fI k))) (L (af 62 31) ⟨[(dy k),b4,bK,jV,jS,(10,((int (IntKind.i64.wrap ((↑j:Int)+1))),[]))],(lJ t k j),[]⟩)) (L (af 62 31) ⟨[(dy k),b4,bK,jV,jS,(10,((int (IntKind.i64.wrap ((↑j:Int)+1))),[]))],(lJ t k j),[]⟩)) (br ((t.2.2 j).1==13) (br (!(t.2.2 j).11) (br ((t.2.2 j).2==(t.2.2 k).2) (QD (.a (fI k))) (L (af 62 31) ⟨[(dy k),b4,bK,jV,jS,(10,((int (IntKind.i64.wrap ((↑j:Int)+1))),[]))],(lJ t k j),[]⟩)) (L (af 62 31) ⟨[(dy k),b4,bK,jV,jS,(10,((int (IntKind.i64.wrap ((↑j:Int)+1))),[]))],(lJ t k j),[]⟩)) (br ((t.2.2 j).1==14) (br (!(t.2.2 j).11) (br ((t.2.2 j).2==(t.2.2 k).2) (QD (.a (fI k))) (L (af 62 31) ⟨[(dy k),b4,bK,jV,jS,(10,((int (IntKind.i64.wrap ((↑j:Int)+1))),[]))],(lJ t k j),[]⟩)) (L (af 62 31) ⟨[(dy k),b4,bK,jV,jS,(10,((int (IntKind.i64.wrap ((↑j:Int)+1))),[]))],(lJ t k j),[]⟩)) (L (af 62 31) ⟨[(dy k),b4,bK,jV,jS,(10,((int (IntKind.i64.wrap ((↑j:Int)+1))),[]))],(lJ t k j),[]⟩))))))) (QD (.a o8))):b5 (Qu s) 62 xS L (bf QD) 31 (gI t k s j):=km h
end
section
variable (L:LP) (t:ak) (QD:D->Prop) (k:Nat)
def NN  : VS:=⟨[(1,int k,[]),gm,ji,wE,Bp],(Du t k),[]⟩
theorem Y4 (t:ak) (k:Nat) (h:(LC 103 (mf t k) [] (int (-1)) []/\br ((t.2.2 k).1==10) (nd (bQ (t.2.2 k).2 t.2.1) (br ((t.2.2 (t.2.2 k).2.toNat).1==16) (nd (bQ (t.2.2 k).2 t.2.1) (br (decide ((t.2.2 k).5<(↑(t.2.2 (t.2.2 k).2.toNat).8.1:Int))) (QD (.a (Lv k))) (QD (.a o8)))) (QD (.a o8)))) (QD (.a o8)))):b5 (Qu (-1)) 62 xS L (bf QD) 8 (NN t k ):=km h
def Ov (j:Nat)  : VS:=⟨[(1,int k,[]),gm,ji,wE,Bp],(Du t k),[]⟩
theorem ZI (t:ak) (k:Nat) (j:Nat) (h:(LC 103 (mf t k) [] (int (↑j:Int)) []/\nd (bQ (↑j:Int) t.2.1) ((LC 104 [(eD t j)] [] (bool (kx (t.2.2 j).1)) []/\br (kx (t.2.2 j).1) (QD (.a [(ci 2),(ci (↑k:Int)),(ci (↑j:Int)),(ci 0),(ci 0),dH])) ((LC 66 (wI t j k) [] (int (cf t j k)) []/\br (decide (cf t j k<2)) (QD (.a o8)) (br ((t.2.2 j).1==11) (QD (.a [(ci 2),(ci (↑k:Int)),(ci ((t.2.2 j).3)),(ci 0),(ci 0),dH])) (QD (.a [(ci 2),(ci (↑k:Int)),(ci ((t.2.2 j).4)),(ci 0),(ci 0),dH]))))))))):b5 (Qu j) 62 xS L (bf QD) 8 (Ov t k j ):=km h
theorem Oq (hk:k<t.ins.n) (hS:aM t) (hm:gK t) (ho:(t.ins.get k).op=7) (hD:ki t k=bif BI dX t k then ⟨3,(k:Int),0,dk⟩ else Mc):∀ j,j<=k->(∀ i,i<j->(t.ins.get i).once=true∨dX t k i=false)->ae 62 0 (a7 (Il (ki t k))) (af 62 25) (rJ t k (-1) j):=by
 have hN:=hS.ins
 refine aN (λj hj ih ha=>?_) (λha=>?_)
 .have hW:=b6 hj (by unfold maxLen; omega:k<=maxLen)
  refine aK (X:=Qu (-1)) (stop:=xS) (Mw _ _ t k (-1) j ?_)
  refine ag (λh0=>?_) (λh=>(dec_lt h hj).elim)
  refine ai (by exact aC (by omega)) ?_
  refine ag (λh1=>?_) (λh1=>?_)
  .refine ai (by exact aC (by omega)) ?_
   refine ⟨av2 _ _,?_⟩
   refine ag (λh2=>?_) (λh2=>?_)
   .have h1:(!(t.ins.get j).once)=true:=h1
    have h2:(Rm (t.ins.get j) (t.ins.get k))=true:=h2
    have g:((t.ins.get j).op==7&&((t.ins.get j).a==(t.ins.get k).a && !gM (t.ins.get j) (t.ins.get k)))=true:=by have:=h2; unfold Rm at this; grind
    have hS2:dX t k j=true:=by show ((t.ins.get j).op==7&&((t.ins.get j).a==(t.ins.get k).a && !gM (t.ins.get k) (t.ins.get j)))=true; rw [H3 (t.ins.get k)]; exact g
    rw [hD,CW hj (by simp_all) hS2]
    exact aX.refl _
   .have h1:(!(t.ins.get j).once)=true:=h1
    have h2:(Rm (t.ins.get j) (t.ins.get k))=false:=h2
    have g:((t.ins.get j).op==7&&((t.ins.get j).a==(t.ins.get k).a && !gM (t.ins.get j) (t.ins.get k)))=false:=by have:=h2; unfold Rm at this; grind
    have hx:(t.ins.get j).once=true∨dX t k j=false:=.inr (by show ((t.ins.get j).op==7&&((t.ins.get j).a==(t.ins.get k).a && !gM (t.ins.get k) (t.ins.get j)))=false; rw [H3 (t.ins.get k)]; exact g)
    rw [hW]
    exact ae.rename [0,1,2,3] rfl (ae.lr (rJ t k (-1) (j+1)) (ih λi hi=>(Nat.lt_succ_iff_lt_or_eq.1 hi).elim (ha i) λe=>e▸hx))
  .have h1:(!(t.ins.get j).once)=false:=h1
   have hx:(t.ins.get j).once=true∨dX t k j=false:=.inl (by simp_all)
   rw [hW]
   exact ae.rename [0,1,2,3] rfl (ae.lr (rJ t k (-1) (j+1)) (ih λi hi=>(Nat.lt_succ_iff_lt_or_eq.1 hi).elim (ha i) λe=>e▸hx))
 .refine aK (X:=Qu (-1)) (stop:=xS) (Mw _ _ t k (-1) _ ?_)
  refine ag (λh=>bq h) (λh=>?_)
  rw [hD,aj7 ha]
  exact aX.refl _
theorem X3 (hk:k<t.ins.n) (hS:aM t) (hm:gK t) (ho:(t.ins.get k).op=8) (hD:ki t k=bif BI dM t k then ⟨3,(k:Int),0,dk⟩ else Mc):∀ j,j<=k->(∀ i,i<j->(t.ins.get i).once=true∨dM t k i=false)->ae 62 0 (a7 (Il (ki t k))) (af 62 31) (gI t k (-1) j):=by
 have hN:=hS.ins
 refine aN (λj hj ih ha=>?_) (λha=>?_)
 .have hW:=b6 hj (by unfold maxLen; omega:k<=maxLen)
  refine aK (X:=Qu (-1)) (stop:=xS) (Og _ _ t k (-1) j ?_)
  refine ag (λh0=>?_) (λh=>(dec_lt h hj).elim)
  refine ai (by exact aC (by omega)) ?_
  refine ag (λh1=>?_) (λh1=>?_)
  .refine ag (λh2=>?_) (λh2=>?_)
   .refine ag (λh3=>?_) (λh3=>?_)
    .have h1:((t.ins.get j).op==8)=true:=h1
     have h2:(!(t.ins.get j).once)=true:=h2
     have h3:((t.ins.get j).a==(t.ins.get k).a)=true:=h3
     have hS2:dM t k j=true:=by show ((t.ins.get j).a==(t.ins.get k).a&&jh (t.ins.get j).op q5)=true; rw [qq]; simp_all
     rw [hD,CW hj (by simp_all) hS2]
     exact aX.refl _
    .have h1:((t.ins.get j).op==8)=true:=h1
     have h2:(!(t.ins.get j).once)=true:=h2
     have h3:((t.ins.get j).a==(t.ins.get k).a)=false:=h3
     have hx:(t.ins.get j).once=true∨dM t k j=false:=.inr (by show ((t.ins.get j).a==(t.ins.get k).a&&jh (t.ins.get j).op q5)=false; rw [qq]; simp_all)
     rw [hW]
     exact ae.rename [0,1,2,3] rfl (ae.lr (gI t k (-1) (j+1)) (ih λi hi=>(Nat.lt_succ_iff_lt_or_eq.1 hi).elim (ha i) λe=>e▸hx))
   .have h1:((t.ins.get j).op==8)=true:=h1
    have h2:(!(t.ins.get j).once)=false:=h2
    have hx:(t.ins.get j).once=true∨dM t k j=false:=.inl (by simp_all)
    rw [hW]
    exact ae.rename [0,1,2,3] rfl (ae.lr (gI t k (-1) (j+1)) (ih λi hi=>(Nat.lt_succ_iff_lt_or_eq.1 hi).elim (ha i) λe=>e▸hx))
  .refine ag (λh2=>?_) (λh2=>?_)
   .refine ag (λh3=>?_) (λh3=>?_)
    .refine ag (λh4=>?_) (λh4=>?_)
     .have h1:((t.ins.get j).op==8)=false:=h1
      have h2:((t.ins.get j).op==9)=true:=h2
      have h3:(!(t.ins.get j).once)=true:=h3
      have h4:((t.ins.get j).a==(t.ins.get k).a)=true:=h4
      have hS2:dM t k j=true:=by show ((t.ins.get j).a==(t.ins.get k).a&&jh (t.ins.get j).op q5)=true; rw [qq]; simp_all
      rw [hD,CW hj (by simp_all) hS2]
      exact aX.refl _
     .have h1:((t.ins.get j).op==8)=false:=h1
      have h2:((t.ins.get j).op==9)=true:=h2
      have h3:(!(t.ins.get j).once)=true:=h3
      have h4:((t.ins.get j).a==(t.ins.get k).a)=false:=h4
      have hx:(t.ins.get j).once=true∨dM t k j=false:=.inr (by show ((t.ins.get j).a==(t.ins.get k).a&&jh (t.ins.get j).op q5)=false; rw [qq]; simp_all)
      rw [hW]
      exact ae.rename [0,1,2,3] rfl (ae.lr (gI t k (-1) (j+1)) (ih λi hi=>(Nat.lt_succ_iff_lt_or_eq.1 hi).elim (ha i) λe=>e▸hx))
    .have h1:((t.ins.get j).op==8)=false:=h1
     have h2:((t.ins.get j).op==9)=true:=h2
     have h3:(!(t.ins.get j).once)=false:=h3
     have hx:(t.ins.get j).once=true∨dM t k j=false:=.inl (by simp_all)
     rw [hW]
     exact ae.rename [0,1,2,3] rfl (ae.lr (gI t k (-1) (j+1)) (ih λi hi=>(Nat.lt_succ_iff_lt_or_eq.1 hi).elim (ha i) λe=>e▸hx))
   .refine ag (λh3=>?_) (λh3=>?_)
    .refine ag (λh4=>?_) (λh4=>?_)
     .refine ag (λh5=>?_) (λh5=>?_)
      .have h1:((t.ins.get j).op==8)=false:=h1
       have h2:((t.ins.get j).op==9)=false:=h2
       have h3:((t.ins.get j).op==12)=true:=h3
       have h4:(!(t.ins.get j).once)=true:=h4
       have h5:((t.ins.get j).a==(t.ins.get k).a)=true:=h5
       have hS2:dM t k j=true:=by show ((t.ins.get j).a==(t.ins.get k).a&&jh (t.ins.get j).op q5)=true; rw [qq]; simp_all
       rw [hD,CW hj (by simp_all) hS2]
       exact aX.refl _
      .have h1:((t.ins.get j).op==8)=false:=h1
       have h2:((t.ins.get j).op==9)=false:=h2
       have h3:((t.ins.get j).op==12)=true:=h3
       have h4:(!(t.ins.get j).once)=true:=h4
       have h5:((t.ins.get j).a==(t.ins.get k).a)=false:=h5
       have hx:(t.ins.get j).once=true∨dM t k j=false:=.inr (by show ((t.ins.get j).a==(t.ins.get k).a&&jh (t.ins.get j).op q5)=false; rw [qq]; simp_all)
       rw [hW]
       exact ae.rename [0,1,2,3] rfl (ae.lr (gI t k (-1) (j+1)) (ih λi hi=>(Nat.lt_succ_iff_lt_or_eq.1 hi).elim (ha i) λe=>e▸hx))
     .have h1:((t.ins.get j).op==8)=false:=h1
      have h2:((t.ins.get j).op==9)=false:=h2
      have h3:((t.ins.get j).op==12)=true:=h3
      have h4:(!(t.ins.get j).once)=false:=h4
      have hx:(t.ins.get j).once=true∨dM t k j=false:=.inl (by simp_all)
      rw [hW]
      exact ae.rename [0,1,2,3] rfl (ae.lr (gI t k (-1) (j+1)) (ih λi hi=>(Nat.lt_succ_iff_lt_or_eq.1 hi).elim (ha i) λe=>e▸hx))
    .refine ag (λh4=>?_) (λh4=>?_)
     .refine ag (λh5=>?_) (λh5=>?_)
      .refine ag (λh6=>?_) (λh6=>?_)
       .have h1:((t.ins.get j).op==8)=false:=h1
        have h2:((t.ins.get j).op==9)=false:=h2
        have h3:((t.ins.get j).op==12)=false:=h3
        have h4:((t.ins.get j).op==13)=true:=h4
        have h5:(!(t.ins.get j).once)=true:=h5
        have h6:((t.ins.get j).a==(t.ins.get k).a)=true:=h6
        have hS2:dM t k j=true:=by show ((t.ins.get j).a==(t.ins.get k).a&&jh (t.ins.get j).op q5)=true; rw [qq]; simp_all
        rw [hD,CW hj (by simp_all) hS2]
        exact aX.refl _
       .have h1:((t.ins.get j).op==8)=false:=h1
        have h2:((t.ins.get j).op==9)=false:=h2
        have h3:((t.ins.get j).op==12)=false:=h3
        have h4:((t.ins.get j).op==13)=true:=h4
        have h5:(!(t.ins.get j).once)=true:=h5
        have h6:((t.ins.get j).a==(t.ins.get k).a)=false:=h6
        have hx:(t.ins.get j).once=true∨dM t k j=false:=.inr (by show ((t.ins.get j).a==(t.ins.get k).a&&jh (t.ins.get j).op q5)=false; rw [qq]; simp_all)
        rw [hW]
        exact ae.rename [0,1,2,3] rfl (ae.lr (gI t k (-1) (j+1)) (ih λi hi=>(Nat.lt_succ_iff_lt_or_eq.1 hi).elim (ha i) λe=>e▸hx))
      .have h1:((t.ins.get j).op==8)=false:=h1
       have h2:((t.ins.get j).op==9)=false:=h2
       have h3:((t.ins.get j).op==12)=false:=h3
       have h4:((t.ins.get j).op==13)=true:=h4
       have h5:(!(t.ins.get j).once)=false:=h5
       have hx:(t.ins.get j).once=true∨dM t k j=false:=.inl (by simp_all)
       rw [hW]
       exact ae.rename [0,1,2,3] rfl (ae.lr (gI t k (-1) (j+1)) (ih λi hi=>(Nat.lt_succ_iff_lt_or_eq.1 hi).elim (ha i) λe=>e▸hx))
     .refine ag (λh5=>?_) (λh5=>?_)
      .refine ag (λh6=>?_) (λh6=>?_)
       .refine ag (λh7=>?_) (λh7=>?_)
        .have h1:((t.ins.get j).op==8)=false:=h1
         have h2:((t.ins.get j).op==9)=false:=h2
         have h3:((t.ins.get j).op==12)=false:=h3
         have h4:((t.ins.get j).op==13)=false:=h4
         have h5:((t.ins.get j).op==14)=true:=h5
         have h6:(!(t.ins.get j).once)=true:=h6
         have h7:((t.ins.get j).a==(t.ins.get k).a)=true:=h7
         have hS2:dM t k j=true:=by show ((t.ins.get j).a==(t.ins.get k).a&&jh (t.ins.get j).op q5)=true; rw [qq]; simp_all
         rw [hD,CW hj (by simp_all) hS2]
         exact aX.refl _
        .have h1:((t.ins.get j).op==8)=false:=h1
         have h2:((t.ins.get j).op==9)=false:=h2
         have h3:((t.ins.get j).op==12)=false:=h3
         have h4:((t.ins.get j).op==13)=false:=h4
         have h5:((t.ins.get j).op==14)=true:=h5
         have h6:(!(t.ins.get j).once)=true:=h6
         have h7:((t.ins.get j).a==(t.ins.get k).a)=false:=h7
         have hx:(t.ins.get j).once=true∨dM t k j=false:=.inr (by show ((t.ins.get j).a==(t.ins.get k).a&&jh (t.ins.get j).op q5)=false; rw [qq]; simp_all)
         rw [hW]
         exact ae.rename [0,1,2,3] rfl (ae.lr (gI t k (-1) (j+1)) (ih λi hi=>(Nat.lt_succ_iff_lt_or_eq.1 hi).elim (ha i) λe=>e▸hx))
       .have h1:((t.ins.get j).op==8)=false:=h1
        have h2:((t.ins.get j).op==9)=false:=h2
        have h3:((t.ins.get j).op==12)=false:=h3
        have h4:((t.ins.get j).op==13)=false:=h4
        have h5:((t.ins.get j).op==14)=true:=h5
        have h6:(!(t.ins.get j).once)=false:=h6
        have hx:(t.ins.get j).once=true∨dM t k j=false:=.inl (by simp_all)
        rw [hW]
        exact ae.rename [0,1,2,3] rfl (ae.lr (gI t k (-1) (j+1)) (ih λi hi=>(Nat.lt_succ_iff_lt_or_eq.1 hi).elim (ha i) λe=>e▸hx))
      .have h1:((t.ins.get j).op==8)=false:=h1
       have h2:((t.ins.get j).op==9)=false:=h2
       have h3:((t.ins.get j).op==12)=false:=h3
       have h4:((t.ins.get j).op==13)=false:=h4
       have h5:((t.ins.get j).op==14)=false:=h5
       have hx:(t.ins.get j).once=true∨dM t k j=false:=.inr (by show ((t.ins.get j).a==(t.ins.get k).a&&jh (t.ins.get j).op q5)=false; rw [qq]; simp_all)
       rw [hW]
       exact ae.rename [0,1,2,3] rfl (ae.lr (gI t k (-1) (j+1)) (ih λi hi=>(Nat.lt_succ_iff_lt_or_eq.1 hi).elim (ha i) λe=>e▸hx))
 .refine aK (X:=Qu (-1)) (stop:=xS) (Og _ _ t k (-1) _ ?_)
  refine ag (λh=>bq h) (λh=>?_)
  rw [hD,aj7 ha]
  exact aX.refl _
theorem Xp {t:ak} {k:Nat} (h:rW t (yr t k) k=none) (h1:(t.ins.get k).once=false) (h2:ij (t.ins.get k).op=true):ki t k=bif rh t k then ⟨1,(k:Int),0,td⟩ else Mc:=by
 grind [tZ,OT,ki,TV]
theorem rd_some {t:ak} {k j:Nat} (h:rW t (yr t k) k=some j) (h1:(t.ins.get k).once=false) (h2:ij (t.ins.get k).op=true):ki t k=bif (iY t k j).2.2.2 then ⟨(iY t k j).1,(iY t k j).2.1,(iY t k j).2.2.1,dk⟩ else Mc:=by
 grind [tZ,OT,ki,TV]
theorem aa4 (hk:k<t.ins.n) (hS:aM t) (hm:gK t) (hD:ki t k=bif rh t k then ⟨1,(k:Int),0,td⟩ else Mc) (ha:(t.ins.get k).op=10->bQ (t.ins.get k).a t.ins.n=true) (he:WQ t k = -1):ae 62 0 (a7 (Il (ki t k))) (af 62 8) (NN t k):=by
 refine aK (X:=Qu (-1)) (stop:=xS) (Y4 _ _ t k ?_)
 refine ⟨(by have:=St t k hk hS hm; rw [he] at this; exact this),?_⟩
 refine ag (λh0=>?_) (λh0=>?_)
 .refine ai (by exact ha (by simp_all)) ?_
  refine ag (λh1=>?_) (λh1=>?_)
  .refine ai (by exact ha (by simp_all)) ?_
   refine ag (λh2=>?_) (λh2=>?_)
   .have h0:((t.ins.get k).op==10)=true:=h0
    have h1:((t.ins.get (t.ins.get k).a.toNat).1==16)=true:=h1
    have h2:(decide ((t.ins.get k).n<(↑(t.ins.get (t.ins.get k).a.toNat).8.1:Int)))=true:=h2
    have e:rh t k=true:=by unfold rh; simp_all
    rw [hD,e]
    exact aX.refl _
   .have h0:((t.ins.get k).op==10)=true:=h0
    have h1:((t.ins.get (t.ins.get k).a.toNat).1==16)=true:=h1
    have h2:(decide ((t.ins.get k).n<(↑(t.ins.get (t.ins.get k).a.toNat).8.1:Int)))=false:=h2
    have e:rh t k=false:=by unfold rh; simp_all
    rw [hD,e]
    exact aX.refl _
  .have h0:((t.ins.get k).op==10)=true:=h0
   have h1:((t.ins.get (t.ins.get k).a.toNat).1==16)=false:=h1
   have e:rh t k=false:=by unfold rh; simp_all
   rw [hD,e]
   exact aX.refl _
 .have h0:((t.ins.get k).op==10)=false:=h0
  have e:rh t k=false:=by unfold rh; simp_all
  rw [hD,e]
  exact aX.refl _
theorem Zm (hk:k<t.ins.n) (hS:aM t) (hm:gK t) (j:Nat) (hj:j<k) (hs:iA t k j=true) (he:WQ t k=j) (hD:ki t k=bif (iY t k j).2.2.2 then ⟨(iY t k j).1,(iY t k j).2.1,(iY t k j).2.2.1,dk⟩ else Mc):ae 62 0 (a7 (Il (ki t k))) (af 62 8) (Ov t k j):=by
 have hc:=Me t j k (by omega) hk hS hm
 refine aK (X:=Qu j) (stop:=xS) (ZI _ _ t k j ?_)
 refine ⟨(by have:=St t k hk hS hm; rw [he] at this; exact this),?_⟩
 refine ai (by exact aC (by omega)) ?_
 refine ⟨AE _,?_⟩
 refine ag (λh0=>?_) (λh0=>?_)
 .have h0:(kx (t.ins.get j).op)=true:=h0
  have e:iY t k j=(2,(k:Int),(j:Int),true):=by grind [iY,iA,la,ad1]
  rw [hD,e]
  exact aX.refl _
 .refine ⟨hc,?_⟩
  refine ag (λh1=>?_) (λh1=>?_)
  .have h0:(kx (t.ins.get j).op)=false:=h0
   have h1:(decide (cf t j k<2))=true:=h1
   have e:iY t k j=(0,0,0,false):=by grind [iY]
   rw [hD,e]
   exact aX.refl _
  .refine ag (λh2=>?_) (λh2=>?_)
   .have h0:(kx (t.ins.get j).op)=false:=h0
    have h1:(decide (cf t j k<2))=false:=h1
    have h2:((t.ins.get j).op==11)=true:=h2
    have e:iY t k j=(2,(k:Int),(t.ins.get j).b,true):=by grind [iY,la,vH]
    rw [hD,e]
    exact aX.refl _
   .have h0:(kx (t.ins.get j).op)=false:=h0
    have h1:(decide (cf t j k<2))=false:=h1
    have h2:((t.ins.get j).op==11)=false:=h2
    have e:iY t k j=(2,(k:Int),(t.ins.get j).c,true):=by grind [iY,la,vH]
    rw [hD,e]
    exact aX.refl _
theorem UE (hk:k<t.ins.n) (hS:aM t) (hm:gK t) (h1:(t.ins.get k).once=false) (h2:ij (t.ins.get k).op=true) (ha:(t.ins.get k).op=10->bQ (t.ins.get k).a t.ins.n=true):ae 62 0 (a7 (Il (ki t k))) (af 62 8) (⟨[(1,int k,[]),(2,.c (.rt 0 0 0),[]),(4,.c (.rt 1 0 0),[]),(5,.c (.rt 2 0 0),[]),(6,.c (.rt 3 0 0),[])],[.box (lift (aT t)),jC 0 0 0 dk,.box (lift (bW (t.ins.get k))),jC 0 0 0 dk],[]⟩):=by
 cases hb:rW t (yr t k) k with
 | none=>exact aa4 t k hk hS hm (Xp hb h1 h2) ha (by unfold WQ; rw [hb])
 | some j=>exact Zm t k hk hS hm j (EM hb) (o6 hb) (by unfold WQ; rw [hb]) (rd_some hb h1 h2)
theorem bj5 (hk:k<t.ins.n) (hS:aM t) (hm:gK t) (aQ8:(t.ins.get k).op=10->bQ (t.ins.get k).a t.ins.n=true) (ha7:(t.ins.get k).op=7->bQ (t.ins.get k).a t.ins.n=true):LC 62 [aO t,int k] [] (Il (ki t k)) []:=by
 refine pv (X:=Qu (-1)) (stop:=xS) bx1 (bC4 _ _ t k (-1) ?_)
 refine ai (by first|exact aC hk|exact ha7 (by simp_all)) ?_
 refine ag (λh0=>?_) (λh0=>?_)
 .have h0:((t.ins.get k).once)=true:=h0
  have e:ki t k=Mc:=by unfold ki tZ; simp only [ij, *,cond_true,cond_false]; rfl
  rw [e]
  exact aX.refl _
 .refine ag (λh1=>?_) (λh1=>?_)
  .have h0:((t.ins.get k).once)=false:=h0
   have h1:((t.ins.get k).op==10)=true:=h1
   exact ae.lr (⟨[(1,int k,[]),(2,.c (.rt 0 0 0),[]),(4,.c (.rt 1 0 0),[]),(5,.c (.rt 2 0 0),[]),(6,.c (.rt 3 0 0),[])],[.box (lift (aT t)),jC 0 0 0 dk,.box (lift (bW (t.ins.get k))),jC 0 0 0 dk],[]⟩) (UE t k hk hS hm h0 (by unfold ij; simp_all) aQ8)
  .refine ag (λh2=>?_) (λh2=>?_)
   .have h0:((t.ins.get k).once)=false:=h0
    have h1:((t.ins.get k).op==10)=false:=h1
    have h2:((t.ins.get k).op==12)=true:=h2
    exact ae.lr (⟨[(1,int k,[]),(2,.c (.rt 0 0 0),[]),(4,.c (.rt 1 0 0),[]),(5,.c (.rt 2 0 0),[]),(6,.c (.rt 3 0 0),[])],[.box (lift (aT t)),jC 0 0 0 dk,.box (lift (bW (t.ins.get k))),jC 0 0 0 dk],[]⟩) (UE t k hk hS hm h0 (by unfold ij; simp_all) aQ8)
   .refine ag (λh3=>?_) (λh3=>?_)
    .refine ai (by grind) ?_
     refine ag (λh4=>?_) (λh4=>?_)
     .refine ai (by grind) ?_
      refine ⟨JE _ _,?_⟩
      refine ag (λh5=>?_) (λh5=>?_)
      .have h0:((t.ins.get k).once)=false:=h0
       have h1:((t.ins.get k).op==10)=false:=h1
       have h2:((t.ins.get k).op==12)=false:=h2
       have h3:((t.ins.get k).op==7)=true:=h3
       have h4:((t.ins.get (t.ins.get k).a.toNat).1==16)=true:=h4
       have h5:(!gM (t.ins.get (t.ins.get k).a.toNat) (t.ins.get k))=true:=h5
       have e:ki t k=⟨3,(k:Int),0,dk⟩:=by unfold ki tZ; simp only [ij, *,cond_true,cond_false]; rfl
       rw [e]
       exact aX.refl _
      .have h0:((t.ins.get k).once)=false:=h0
       have h1:((t.ins.get k).op==10)=false:=h1
       have h2:((t.ins.get k).op==12)=false:=h2
       have h3:((t.ins.get k).op==7)=true:=h3
       have h4:((t.ins.get (t.ins.get k).a.toNat).1==16)=true:=h4
       have h5:(!gM (t.ins.get (t.ins.get k).a.toNat) (t.ins.get k))=false:=h5
       have e:ki t k=bif BI dX t k then ⟨3,(k:Int),0,dk⟩ else Mc:=by unfold ki tZ; simp only [ij, *,cond_true,cond_false]; rfl
       have g:=Oq t k hk hS hm (by simp_all) e 0 (bk _) (λi hi=>absurd hi (Nat.not_lt_zero i))
       exact ae.rename [0,1,2,3] rfl (ae.lr (rJ t k (-1) 0) g)
     .have h0:((t.ins.get k).once)=false:=h0
      have h1:((t.ins.get k).op==10)=false:=h1
      have h2:((t.ins.get k).op==12)=false:=h2
      have h3:((t.ins.get k).op==7)=true:=h3
      have h4:((t.ins.get (t.ins.get k).a.toNat).1==16)=false:=h4
      have e:ki t k=bif BI dX t k then ⟨3,(k:Int),0,dk⟩ else Mc:=by unfold ki tZ; simp only [ij, *,cond_true,cond_false]; rfl
      have g:=Oq t k hk hS hm (by simp_all) e 0 (bk _) (λi hi=>absurd hi (Nat.not_lt_zero i))
      exact ae.rename [0,1,2,3] rfl (ae.lr (rJ t k (-1) 0) g)
    .refine ag (λh4=>?_) (λh4=>?_)
     .have h0:((t.ins.get k).once)=false:=h0
      have h1:((t.ins.get k).op==10)=false:=h1
      have h2:((t.ins.get k).op==12)=false:=h2
      have h3:((t.ins.get k).op==7)=false:=h3
      have h4:((t.ins.get k).op==8)=true:=h4
      have e:ki t k=bif BI dM t k then ⟨3,(k:Int),0,dk⟩ else Mc:=by unfold ki tZ; simp only [ij, *,cond_true,cond_false]; rfl
      have g:=X3 t k hk hS hm (by simp_all) e 0 (bk _) (λi hi=>absurd hi (Nat.not_lt_zero i))
      exact ae.rename [0,1,2,3] rfl (ae.lr (gI t k (-1) 0) g)
     .have h0:((t.ins.get k).once)=false:=h0
      have h1:((t.ins.get k).op==10)=false:=h1
      have h2:((t.ins.get k).op==12)=false:=h2
      have h3:((t.ins.get k).op==7)=false:=h3
      have h4:((t.ins.get k).op==8)=false:=h4
      have e:ki t k=Mc:=by unfold ki tZ; simp only [ij, *,cond_true,cond_false]; rfl
      rw [e]
      exact aX.refl _
end
open Go Go.V
section
def Gt (r:fK) (b:Bool) (u2:ak) (e:Int):eU:={ F:=ext pY [(62,λ_ _=>(Il r,[],[])),(64,λ_ _=>(bool b,[],[])),(44,λ_ _=>(.t [(true,lift (aT u2)),(false,[ci e])],[],[]))] }
end
def wM:Nat->Bool:=λi=>Nat.beq i 5||Nat.beq i 14
theorem bp1:Fn 27:={}
section
variable (L:LP) (QD:D->Prop) (r:fK) (b:Bool) (u2:ak) (e:Int) (t u:ak) (s:Sq fK) (k:Nat)
theorem bp8 (h:(LC 40 [(ez t)] [] (int (dS t)) []/\br (dS t != 0) (QD (.c bS)) (L (af 27 5) ⟨[bM,(3,((.c bS),[])),vD],[(aU t)],[]⟩))):ep (Gt r b u2 e) 27 wM L (bf QD) [aO t] []:=km h
def qY (r:fK) (b:Bool) (u2:ak) (e:Int) (t:ak) (u:ak) (s:Sq fK) (k:Nat):VS:=⟨[iD,(3,.c (.sa 1 s.n),[]),(4,int k,[])],[.box (lift (aT u)),rwR s],[]⟩
abbrev wZ (aj:Sq fK):eQ:=(3,((.c (.sa 1 aj.1)),[]))
theorem DO (h:br (decide ((↑k:Int)<(↑u.2.1:Int))) ((LC 62 (mf u k) [] (.a (kT r)) []/\br (r.kd==0) (L (af 27 5) ⟨[bM,(wZ s),(4,((int (IntKind.i64.wrap ((↑k:Int)+1))),[]))],[(aU u),(lL s),(.box (kT r))],[]⟩) ((LC 44 [(ez u),(.a (kT r))] [] (AK u2 e) []/\br (e==0) (nd (cw (s.1+1) 56) (nd (s.1.beq s.1) (L (af 27 5) ⟨[bM,(3,((.c (.sa 5 (.succ s.1))),[])),(4,((int (IntKind.i64.wrap ((↑k:Int)+1))),[]))],[(aU u2),.dead,(.box (kT r)),(aU u2),(.row 46 6 1 (kT r)),(T7 s r)],[]⟩))) (L (af 27 5) ⟨[bM,(wZ s),(4,((int (IntKind.i64.wrap ((↑k:Int)+1))),[]))],[(aU u),(lL s),(.box (kT r)),(aU u2)],[]⟩))))) (L (af 27 14) ⟨[bM,(wZ s),wj],[(aU u),(lL s)],[]⟩)):b5 (Gt r b u2 e) 27 wM L (bf QD) 5 (qY r b u2 e t u s k):=km h
def ko (r:fK) (b:Bool) (u2:ak) (e:Int) (t:ak) (u:ak) (s:Sq fK) (k:Nat):VS:=⟨[iD,(3,.c (.sa 1 s.n),[]),(8,int k,[])],[.box (lift (aT u)),rwR s],[]⟩
theorem ug (h:br (decide ((↑k:Int)<(↑u.2.1:Int))) (nd (bQ (↑k:Int) u.2.1) ((LC 63 [(eD u k)] [] (bool (zw (u.2.2 k).1)) []/\br (!zw (u.2.2 k).1) (L (af 27 14) ⟨[bM,(wZ s),(8,((int (IntKind.i64.wrap ((↑k:Int)+1))),[]))],[(aU u),(lL s)],[]⟩) ((LC 64 (mf u k) [] (bool b) []/\br (!b) (L (af 27 14) ⟨[bM,(wZ s),(8,((int (IntKind.i64.wrap ((↑k:Int)+1))),[]))],[(aU u),(lL s)],[]⟩) ((LC 44 [(ez u),(.a (fI k))] [] (AK u2 e) []/\br (e==0) (nd (cw (s.1+1) 56) (nd (s.1.beq s.1) (L (af 27 14) ⟨[bM,(3,((.c (.sa 5 (.succ s.1))),[])),(8,((int (IntKind.i64.wrap ((↑k:Int)+1))),[]))],[(aU u2),.dead,(.box (fI k)),(aU u2),(.row 46 6 1 (fI k)),(.arr 46 6 (s.1+1) (fZ s.1 (λi=>Ck (s.2 i)) (1,flat 6 [I.v (Value.int IntKind.i64 3),I.v (Value.int IntKind.i64 (↑k:Int)),I.v (Value.int IntKind.i64 0),I.v (Value.int IntKind.i64 0),I.v (Value.int IntKind.i64 0),I.v (Value.string { data:={ toList:=[] } })]).snd))],[]⟩))) (L (af 27 14) ⟨[bM,(wZ s),(8,((int (IntKind.i64.wrap ((↑k:Int)+1))),[]))],[(aU u),(lL s),(.box (fI k)),(aU u2)],[]⟩)))))))) (QD (qJ s))):b5 (Gt r b u2 e) 27 wM L (bf QD) 14 (ko r b u2 e t u s k):=km h
end
section
variable {n:Nat} (t:ak) (L:LP) {u:ak} (s:Sq fK) (QD:D->Prop) {k:Nat} {r:fK}
theorem Inv.args (h:Inv n u):∀ k,k<u.ins.n->(u.ins.get k).op≠20->(u.ins.get k).args.n=0:=by
 intro k hk ho
 have h1:=wv h.right k hk
 unfold pz a6 at h1
 simp only [fC] at h1
 have h2:=h1.1.2.2
 rw [H0 _ (h.num k hk)] at h2
 grind [bC,rN]
theorem az0 (h:Inv n u) (r:fK):NX (kH u r)=H2 (kH u r):=by
 unfold NX H2
 rw [zA _ λk hk=>Ok h.num r k (by rw [Uh] at hk; exact hk)]
theorem Fit.Hh (hI:Inv n u) (hk:k<n) (h:Fit u k r):LC 44 [aO u,va r.kd r.pos r.src r.v] [] (H2 (kH u r)) []:=by
 have hk:k<u.ins.n:=by rw [hI.n]; exact hk
 rw [<- az0 hI]
 have hs:=vB hI.small r
 rcases h with ⟨rfl,ho⟩|⟨rfl,ho⟩|⟨j,rfl,hj,h1,h2,h3⟩
 .exact aI5 u k hk hI.small hI.right ho hs
 .exact ar1 u k hk hI.small hI.right ho hs
 .have h4:=BA h1
  exact aJ1 u k hk hI.small hI.right j hj (by rcases h4 with e|e<;>rw [e]<;>rfl) h2 (by grind) h3 (by grind) hI.args hs
theorem Fit.kd (h:Fit u k r):(r.kd==0)=false:=by
 rcases h with ⟨rfl,_⟩|⟨rfl,_⟩|⟨j,rfl,_⟩<;>rfl
theorem aB4 (hI:Inv n u) (hk:k<n):∃ r b,tO true u k=(r,b)/\LC 62 [aO u,int k] [] (Il (bif b then r else Mc)) []/\(b=true->Fit u k r):=by
 obtain ⟨r,b,h1,_,h2⟩:=ap4 hI hk
 refine ⟨r,b,h1,?_,h2⟩
 have h:=bj5 u k (by rw [hI.n]; exact hk) hI.small hI.mem (λh=>hI.ZB hk h rfl rfl) (λh=>hI.ZB hk h rfl rfl)
 unfold ki at h
 rw [h1] at h
 exact h
theorem bf6 (n c0:Nat) (hn:n<=1000) (hc:c0<=1000) (d:D):∀ k,k<=n->∀ x:ak×Sq fK,Inv n x.1->x.2.n<=c0+k->d=fM 6 Ck (Gy false (n-k) k x).2->ae 27 0 (a7 d) (af 27 14) (ko gT false t 0 t x.1 x.2 k):=by
 refine aN (λk hk ih=>?_) ?_
 .rintro ⟨u,s⟩ hI hs hf
  have hI:Inv n u:=hI
  have hs:s.n<=c0+k:=hs
  have hku:k<u.ins.n:=by rw [hI.n]; exact hk
  have hW:=b6 hk (by unfold maxLen; omega:_<=maxLen)
  have e0:n-k=(n-(k+1))+1:=by omega
  rw [e0] at hf
  obtain ⟨_,h2⟩:=aq3 hI hk
  have h1:=bi3 u k hku hI.small hI.mem
  generalize hr0:(⟨3,(k:Int),0,dk⟩:fK)=r at h2
  generalize hb0:rZ u k=b at h2
  have hpd:tO false u k=(r,b):=by show ((⟨3,(k:Int),0,dk⟩:fK),rZ u k)=_; rw [hr0,hb0]
  have go:∀ x':ak×Sq fK,De false k (u,s)=x'->Inv n x'.1->x'.2.n<=c0+(k+1)->ae 27 0 (a7 d) (af 27 14) (ko gT false t 0 t x'.1 x'.2 (k+1)):=λx' hx h1 h2=>ih x' h1 h2 (by
   grind [Gy])
  have same:b=false->ae 27 0 (a7 d) (af 27 14) (ko gT false t 0 t u s (k+1)):=λhb=>go (u,s) (by
   show (bif (tO false u k).2 then _ else _)=_
   rw [hpd,hb]; rfl) hI (by show s.n<=_; omega)
  cases hb:b with
  | false=>
    cases hm:et (u.ins.get k).op with
    | false=>
      refine aK (X:=Gt gT false t 0) (stop:=wM) (ug _ _ gT false t 0 t u s k ?_)
      refine ag (λh0=>ai (aC hku) ⟨uP _,ag (λ_=>?_) (λh=>absurd h (by show ¬ (!et (u.ins.get k).op)=false; rw [hm]; decide))⟩) (λh=>(dec_lt h hku).elim)
      rw [hW]
      exact ae.lr (ko gT false t 0 t u s (k+1)) (same hb)
    | true=>
      have hd:kZ u k (u.ins.n-(k+1)) (k+1)=false:=by grind [rZ]
      rw [hd] at h1
      refine aK (X:=Gt gT false t 0) (stop:=wM) (ug _ _ gT false t 0 t u s k ?_)
      refine ag (λh0=>ai (aC hku) ⟨uP _,ag (λh=>absurd h (by show ¬ (!et (u.ins.get k).op)=true; rw [hm]; decide)) (λ_=>⟨h1,ag (λ_=>?_) (λh=>Bool.noConfusion h)⟩)⟩) (λh=>(dec_lt h hku).elim)
      rw [hW]
      exact ae.lr (ko gT false t 0 t u s (k+1)) (same hb)
  | true=>
    have hm:et (u.ins.get k).op=true:=by
     grind [rZ]
    have hd:kZ u k (u.ins.n-(k+1)) (k+1)=true:=by grind [rZ]
    rw [hd] at h1
    subst hr0
    have hw:=(h2 hb).Hh hI hk
    cases hr:cp (kH u (⟨3,(k:Int),0,dk⟩:fK))!=0 with
    | true=>
      have hw:LC 44 [aO u,va (⟨3,(k:Int),0,dk⟩:fK).kd (⟨3,(k:Int),0,dk⟩:fK).pos (⟨3,(k:Int),0,dk⟩:fK).src (⟨3,(k:Int),0,dk⟩:fK).v] [] (.t [(true,lift (aT rL)),(false,[ci 1])]) []:=bt.post hw (by unfold H2; rw [hr]; exact H4 (.cons (dI.refl _) (.cons (dI.refl _) (.cons (dI.im ia) (.cons (dI.im ia) .nil)))))
      refine aK (X:=Gt gT true rL 1) (stop:=wM) (ug _ _ gT true rL 1 t u s k ?_)
      refine ag (λh0=>ai (aC hku) ⟨uP _,ag (λh=>absurd h (by show ¬ (!et (u.ins.get k).op)=true; rw [hm]; decide)) (λ_=>⟨h1,ag (λh=>Bool.noConfusion h) (λ_=>⟨hw,ag (λh=>absurd h (by decide)) (λ_=>?_)⟩)⟩)⟩) (λh=>(dec_lt h hku).elim)
      rw [hW]
      exact ae.rename [0,1] rfl (ae.lr (ko gT false t 0 t u s (k+1)) (go (u,s) (by
       show (bif (tO false u k).2 then (bif cp (kH u (tO false u k).1)!=0 then _ else _) else _)=_
       rw [hpd,hb,hr]; rfl) hI (by show s.n<=_; omega)))
    | false=>
      have hw:LC 44 [aO u,va (⟨3,(k:Int),0,dk⟩:fK).kd (⟨3,(k:Int),0,dk⟩:fK).pos (⟨3,(k:Int),0,dk⟩:fK).src (⟨3,(k:Int),0,dk⟩:fK).v] [] (.t [(true,lift (aT (kH u (⟨3,(k:Int),0,dk⟩:fK)))),(false,[ci 0])]) []:=bt.post hw (by unfold H2; rw [hr]; exact aX.refl _)
      have h0r:cp (kH u (⟨3,(k:Int),0,dk⟩:fK))=0:=by simpa using hr
      refine aK (X:=Gt gT true (kH u ⟨3,(k:Int),0,dk⟩) 0) (stop:=wM) (ug _ _ gT true (kH u ⟨3,(k:Int),0,dk⟩) 0 t u s k ?_)
      refine ag (λh0=>ai (aC hku) ⟨uP _,ag (λh=>absurd h (by show ¬ (!et (u.ins.get k).op)=true; rw [hm]; decide)) (λ_=>⟨h1,ag (λh=>Bool.noConfusion h) (λ_=>⟨hw,ag (λ_=>ai (bO (by show s.n+1<=_; omega) (by omega)) (ai (dv _) ?_)) (λh=>absurd h (by decide))⟩)⟩)⟩) (λh=>(dec_lt h hku).elim)
      rw [hW]
      exact ae.rename [0,5] rfl (ae.lf (ko gT false t 0 t (kH u (⟨3,(k:Int),0,dk⟩:fK)) (snR s (⟨3,(k:Int),0,dk⟩:fK)) (k+1)) (rc (.cons (rE 46 6 s (⟨3,(k:Int),0,dk⟩:fK) Ck (YB (⟨3,(k:Int),0,dk⟩:fK)) λj hj=>by rw [pE (l:=YB (⟨3,(k:Int),0,dk⟩:fK)) hj]; exact cD.refl _) .nil)) (go (kH u (⟨3,(k:Int),0,dk⟩:fK),snR s (⟨3,(k:Int),0,dk⟩:fK)) (by
       show (bif (tO false u k).2 then (bif cp (kH u (tO false u k).1)!=0 then _ else _) else _)=_
       rw [hpd,hb,hr]; rfl) (hI.next h0r) (by show s.n+1<=_; omega)))
 .rintro ⟨u,s⟩ hI hs hf
  rw [Nat.sub_self] at hf
  have hn2:u.ins.n=n:=hI.n
  subst hn2
  refine aK (X:=Gt gT false t 0) (stop:=wM) (ug _ _ gT false t 0 t u s u.ins.n ?_)
  refine ag (λh=>bq h) (λh=>?_)
  rw [hf]
  exact aX.refl _
theorem aX5 (n c0:Nat) (hn:n<=1000) (hc:c0<=1000) (d:D):∀ k,k<=n->∀ x:ak×Sq fK,Inv n x.1->x.2.n<=c0+k->(∀ y:ak×Sq fK,Gy true (n-k) k x=y->ae 27 0 (a7 d) (af 27 14) (ko gT false t 0 t y.1 y.2 0))->ae 27 0 (a7 d) (af 27 5) (qY gT false t 0 t x.1 x.2 k):=by
 refine aN (λk hk ih=>?_) ?_
 .rintro ⟨u,s⟩ hI hs hf
  have hI:Inv n u:=hI
  have hs:s.n<=c0+k:=hs
  have hku:k<u.ins.n:=by rw [hI.n]; exact hk
  have hW:=b6 hk (by unfold maxLen; omega:_<=maxLen)
  have e0:n-k=(n-(k+1))+1:=by omega
  rw [e0] at hf
  obtain ⟨r,b,hpd,h1,h2⟩:=aB4 hI hk
  have go:∀ x':ak×Sq fK,De true k (u,s)=x'->Inv n x'.1->x'.2.n<=c0+(k+1)->ae 27 0 (a7 d) (af 27 5) (qY gT false t 0 t x'.1 x'.2 (k+1)):=λx' hx h1 h2=>ih x' h1 h2 (by
   grind [Gy])
  have same:b=false->ae 27 0 (a7 d) (af 27 5) (qY gT false t 0 t u s (k+1)):=λhb=>go (u,s) (by
   show (bif (tO true u k).2 then _ else _)=_
   rw [hpd,hb]; rfl) hI (by show s.n<=_; omega)
  cases hb:b with
  | false=>
    rw [hb] at h1
    refine aK (X:=Gt Mc false t 0) (stop:=wM) (DO _ _ Mc false t 0 t u s k ?_)
    refine ag (λh0=>⟨h1,ag (λ_=>?_) (λh=>absurd h (by decide))⟩) (λh=>(dec_lt h hku).elim)
    rw [hW]
    exact ae.rename [0,1] rfl (ae.lr (qY gT false t 0 t u s (k+1)) (same hb))
  | true=>
    rw [hb] at h1
    have hkd:=(h2 hb).kd
    have hw:=(h2 hb).Hh hI hk
    cases hr:cp (kH u r)!=0 with
    | true=>
      have hw:LC 44 [aO u,va r.kd r.pos r.src r.v] [] (.t [(true,lift (aT rL)),(false,[ci 1])]) []:=bt.post hw (by unfold H2; rw [hr]; exact H4 (.cons (dI.refl _) (.cons (dI.refl _) (.cons (dI.im ia) (.cons (dI.im ia) .nil)))))
      refine aK (X:=Gt r false rL 1) (stop:=wM) (DO _ _ r false rL 1 t u s k ?_)
      refine ag (λh0=>⟨h1,ag (λh=>Bool.noConfusion (hkd.symm.trans h)) (λ_=>⟨hw,ag (λh=>absurd h (by decide)) (λ_=>?_)⟩)⟩) (λh=>(dec_lt h hku).elim)
      rw [hW]
      exact ae.rename [0,1] rfl (ae.lr (qY gT false t 0 t u s (k+1)) (go (u,s) (by
       show (bif (tO true u k).2 then (bif cp (kH u (tO true u k).1)!=0 then _ else _) else _)=_
       rw [hpd,hb,hr]; rfl) hI (by show s.n<=_; omega)))
    | false=>
      have hw:LC 44 [aO u,va r.kd r.pos r.src r.v] [] (.t [(true,lift (aT (kH u r))),(false,[ci 0])]) []:=bt.post hw (by unfold H2; rw [hr]; exact aX.refl _)
      have h0r:cp (kH u r)=0:=by simpa using hr
      refine aK (X:=Gt r false (kH u r) 0) (stop:=wM) (DO _ _ r false (kH u r) 0 t u s k ?_)
      refine ag (λh0=>⟨h1,ag (λh=>Bool.noConfusion (hkd.symm.trans h)) (λ_=>⟨hw,ag (λ_=>ai (bO (by show s.n+1<=_; omega) (by omega)) (ai (dv _) ?_)) (λh=>absurd h (by decide))⟩)⟩) (λh=>(dec_lt h hku).elim)
      rw [hW]
      exact ae.rename [0,5] rfl (ae.lf (qY gT false t 0 t (kH u r) (snR s r) (k+1)) (rc (.cons (rE 46 6 s r Ck (YB r) λj hj=>by rw [pE (l:=YB r) hj]; exact cD.refl _) .nil)) (go (kH u r,snR s r) (by
       show (bif (tO true u k).2 then (bif cp (kH u (tO true u k).1)!=0 then _ else _) else _)=_
       rw [hpd,hb,hr]; rfl) (hI.next h0r) (by show s.n+1<=_; omega)))
 .rintro ⟨u,s⟩ hI hs hf
  rw [Nat.sub_self] at hf
  have hn2:u.ins.n=n:=hI.n
  subst hn2
  refine aK (X:=Gt gT false t 0) (stop:=wM) (DO _ _ gT false t 0 t u s u.ins.n ?_)
  refine ag (λh=>bq h) (λh=>?_)
  exact ae.lr (ko gT false t 0 t u s 0) (hf (u,s) rfl)
theorem ap1 (hS:aM t) (hn:∀ k,k<t.ins.n->(t.ins.get k).n<=9223372036854775807):LC 27 [aO t] [] (fM 6 Ck (iy t)) []:=by
 have hN:=hS.ins
 have hq:=zA t hn
 refine pv (X:=Gt gT false t 0) (stop:=wM) bp1 (bp8 _ _ gT false t 0 t ⟨MV t hS,ag (λh=>?_) (λh=>?_)⟩)
 .have h:(dS t != 0)=true:=h
  rw [<- hq] at h
  rw [show iy t=aH gT from by unfold iy; rw [h]; rfl]
  exact λE av w v q=>dI.nil 6 _ E av w v q
 .have h:(dS t != 0)=false:=h
  rw [<- hq] at h
  rw [show iy t=(Gy false t.ins.n 0 (Gy true t.ins.n 0 (t,aH gT))).2 from by unfold iy; rw [h]; rfl]
  have hI:Inv t.ins.n t:=⟨hS,by simpa using h,hn,rfl⟩
  have hA:=uB t true t.ins.n 0 t.ins.n (t,aH gT) (by omega) hI
  refine ae.Cj 3 46 6 rfl (ae.lf (qY gT false t 0 t t (aH gT) 0) (rc (.cons (qp 46 6 _ _) .nil)) (aX5 t t.ins.n 0 hN (bk _) _ 0 (bk _) (t,aH gT) hI (bF _) ?_))
  grind [aH,bf6]
def S5:Nat->Bool:=λi=>Nat.beq i 4
theorem bo7:Fn 25:={}
theorem bA3 (s:Sq fK) (h:br ((↑s.1:Int)!=(↑s.1:Int)) (QD (bool false)) (L (af 25 4) ⟨[(0,((qJ s),[])),(1,((qJ s),[])),tr],[],[]⟩)):ep (Gt gT false rL 0) 25 S5 L (bf QD) [fM 6 Ck s,fM 6 Ck s] []:=km h
def Dq (k:Nat):VS:=⟨[(0,(qJ s),[]),(1,(qJ s),[]),(5,int k,[])],[],[]⟩
theorem U0 (s:Sq fK) (k:Nat) (h:br (decide ((↑k:Int)<(↑s.1:Int))) (nd (bQ (↑k:Int) s.1) (nd (bQ (↑k:Int) s.1) (br (!((s.2 k).kd==(s.2 k).kd&&((s.2 k).pos==(s.2 k).pos&&((s.2 k).src==(s.2 k).src&&((s.2 k).v.1==(s.2 k).v.1&&((s.2 k).v.2==(s.2 k).v.2&&((s.2 k).v.3==(s.2 k).v.3&&true))))))) (QD (bool false)) (L (af 25 4) ⟨[(0,((qJ s),[])),(1,((qJ s),[])),(5,((int (IntKind.i64.wrap ((↑k:Int)+1))),[]))],[],[]⟩)))) (QD (bool true))):b5 (Gt gT false rL 0) 25 S5 L (bf QD) 4 (Dq s k):=km h
theorem aa2 {C:Prop} {x:fK} (h:(!(x.kd==x.kd&&(x.pos==x.pos&&(x.src==x.src&&(x.v.kind==x.v.kind&&(x.v.n==x.v.n&&(x.v.s==x.v.s&&true)))))))=true):C:=by
 grind [ej]
theorem aw5 (hn:s.n<=maxLen):∀ k,k<=s.n->ae 25 0 (a7 (bool true)) (af 25 4) (Dq s k):=by
 refine aN (λk hk ih=>?_) ?_
 .have hW:=b6 hk hn
  refine aK (X:=Gt gT false rL 0) (stop:=S5) (U0 _ _ s k ?_)
  refine ag (λ_=>ai (aC hk) (ai (aC hk) (ag (λh=>aa2 h) λ_=>?_))) (λh=>(dec_lt h hk).elim)
  grind [Dq]
 .refine aK (X:=Gt gT false rL 0) (stop:=S5) (U0 _ _ s _ ?_)
  exact ag (λh=>bq h) (λ_=>aX.refl _)
theorem ai4 (hn:s.n<=maxLen):LC 25 [fM 6 Ck s,fM 6 Ck s] [] (bool true) []:=by
 refine pv (X:=Gt gT false rL 0) (stop:=S5) bo7 (bA3 _ _ s ?_)
 exact ag (λh=>absurd h (by simp)) λ_=>ae.lr (Dq s 0) (aw5 s hn 0 (bk _))
end
open Go Go.V
theorem Hp:∀ (m k p p':Nat) (ins:Sq au) (ex:Sq aq),dY ⟨p,ins,ex⟩ ⟨p',Wu m k ins,ex⟩ m 0
 | 0,k,p,p',ins,ex=>⟨bF _,bF _,λh=>h,λh=>h⟩
 | m+1,k,p,p',ins,ex=>by
   have h1:=dY.add ⟨p,ins,ex⟩ p (x:=pI k) ⟨by show (0:Int)<=_; omega,bk _,bk _,bk _⟩
   have h2:=Hp m (k+1) p p' (cy ins (pI k)) ex
   exact (h1.trans h2).le (by omega) (by omega)
theorem I3 (l:Sq Int) (fuel:Int) (param:Nat) (hP:param<=900):∀ (m:Nat) (s:mH),dY s (itS l fuel param m s) (4*m) (2*m)
 | 0,s=>dY.refl s
 | m+1,s=>((Hq l fuel param hP s).trans (I3 l fuel param hP m _)).le (by omega) (by omega)
theorem Ui (l:Sq Int) (ins:Sq au):∀ (m k p:Nat) (h:Sq Int),(Jx l ins m k p h).n=h.n+m
 | 0,k,p,h=>rfl
 | m+1,k,p,h=>by
   unfold Jx
   cases (nx l p 2).1==0 with
   | true=>
     show (Jx l ins m _ _ _).n=_
     rw [Ui]
     show h.n+1+m=_
     omega
   | false=>
     show (Jx l ins m _ _ _).n=_
     rw [Ui]
     show h.n+1+m=_
     omega
structure DX (t:ak):Prop where
 ins:t.ins.n<=900
 aa:t.aa.n<=900
 gi:∀ k,k<t.ins.n->sv (t.ins.get k)
 ge:∀ k,k<t.aa.n->zS (t.aa.get k)
theorem dY.aW7 {p:Nat} {s:mH} {c d:Nat} (h:dY ⟨p,pk,Ai⟩ s c d) (hc:c<=900) (hd:d<=900):DX ⟨⟨0,0⟩,s.ins,s.ex⟩:=by
 have g1:=h.gi λk hk=>absurd hk (Nat.not_lt_zero k)
 have g2:=h.ge λk hk=>absurd hk (Nat.not_lt_zero k)
 have g3:s.ins.n<=0+c:=h.ins
 have g4:s.ex.n<=0+d:=h.ex
 exact ⟨by show s.ins.n<=_; omega,by show s.ex.n<=_; omega,g1,g2⟩
theorem PR (l:Sq Int):DX (made l):=by
 obtain ⟨d,hd,eW⟩:=nw (l:=l) (p:=0) (n:=4) (by omega) (by omega)
 unfold made
 rw [hd]
 show DX (Xi l (1+d) (nx l 0 4).2 (Wu (1+d) 0 pk) Ai)
 have h1:=Hp (1+d) 0 0 0 pk Ai
 generalize (nx l 0 4).2=p
 unfold Xi
 have hf:=OH (l:=l) (p:=p) (n:=4) (by omega) (by omega)
 obtain ⟨e,he,hle⟩:=nw (l:=l) (p:=(lv l (nx l p 4).2 (Wu (1+d) 0 pk) 0 (1+d)).2) (n:=14) (by omega) (by omega)
 rw [he]
 generalize hF:1+(nx l p 4).1=fuel
 have h2:dY ⟨0,Wu (1+d) 0 pk,Ai⟩ (md8 l fuel (1+d) (nx l p 4).2 (Wu (1+d) 0 pk) Ai) 1 1:=
  dY.both _ _ (gg (by omega)) (uR l _ _ _ _ (by omega))
 have h3:=(h1.trans h2).trans (I3 l fuel (1+d) (by omega) e (md8 l fuel (1+d) (nx l p 4).2 (Wu (1+d) 0 pk) Ai))
 show DX (xI l fuel (1+d) (itS l fuel (1+d) e _))
 generalize itS l fuel (1+d) e (md8 l fuel (1+d) (nx l p 4).2 (Wu (1+d) 0 pk) Ai)=s at h3 ⊢
 unfold xI
 cases (nx l s.p 6).1==0 with
 | true=>exact dY.aW7 (h3.trans (dY.both s 0 (gg (by omega)) (uR l _ _ _ _ (by omega)))) (by omega) (by omega)
 | false=>
   refine dY.aW7 (h3.trans (dY.add s 0 (x:={ ew 20 0 0 0 0 (-1) with args:=Jx l s.ins (1+d) 0 (nx l s.p 6).2 (aH 0) }) ⟨by show (0:Int)<=_; omega,?_,bk _,bk _⟩)) (by omega) (by omega)
   grind [aH,Ui]
open Go Go.V
structure DQ (m:Nat) (x:au):Prop where
 n:x.n<=9223372036854775807
 args:x.args.n<=m
 names:x.names.n<=m
 str:x.k.s.size<=m
structure GF (m:Nat) (e:aq):Prop where
 frames:e.frames.n<=m
 vars:∀ j,j<e.frames.n->(e.frames.get j).vars.n<=m
 az:e.az.n<=m
 names:∀ j,j<e.az.n->(e.az.get j).names.n<=m
 items:∀ j,j<e.az.n->(e.az.get j).items.n<=m
 pos:0<e.frames.n
structure BG (m:Nat) (t:ak):Prop where
 ins:t.ins.n<=m
 aa:t.aa.n<=m
 gi:∀ k,k<t.ins.n->DQ m (t.ins.get k)
 ge:∀ k,k<t.aa.n->GF m (t.aa.get k)
section
variable {m:Nat} (l:Sq Int) {m':Nat} {t:ak} {x:au} {k:Nat}
theorem DQ.le (h:DQ m x) (hm:m<=m'):DQ m' x:=⟨h.n,cT h.args hm,cT h.names hm,cT h.str hm⟩
theorem GF.le {x:aq} (h:GF m x) (hm:m<=m'):GF m' x:=⟨cT h.frames hm,λj q=>cT (h.vars j q) hm,cT h.az hm,λj q=>cT (h.names j q) hm,λj q=>cT (h.items j q) hm,h.pos⟩
theorem BG.le {m m':Nat} {t:ak} (h:BG m t) (hm:m<=m'):BG m' t:=⟨cT h.ins hm,cT h.aa hm,λk q=>(h.gi k q).le hm,λk q=>(h.ge k q).le hm⟩
theorem BG.small (h:BG m t) (hm:m<=1000):aM t:=
 ⟨cT h.ins hm,cT h.aa hm,λk q=>cT (h.gi k q).args hm,λk q=>cT (h.gi k q).names hm,λk q=>cT (h.gi k q).str hm,λk q=>
  ⟨cT (h.ge k q).frames hm,λj r=>cT ((h.ge k q).vars j r) hm,cT (h.ge k q).az hm,λj r=>cT ((h.ge k q).names j r) hm,λj r=>cT ((h.ge k q).items j r) hm⟩⟩
theorem HJ:BG 900 (made l):=by
 have h:=PR l
 exact ⟨h.ins,h.aa,λk q=>⟨(h.gi k q).n,(h.gi k q).args,(h.gi k q).names,(h.gi k q).str⟩,λk q=>⟨(h.ge k q).frames,(h.ge k q).vars,(h.ge k q).az,(h.ge k q).names,(h.ge k q).items,(h.ge k q).pos⟩⟩
theorem BG.num (h:BG m t):∀ k,k<t.ins.n->(t.ins.get k).n<=9223372036854775807:=λk q=>(h.gi k q).n
theorem SF (h:BG m t) (hx:k<t.ins.n->DQ (m+1) x):BG (m+1) (fD t k x):=by
 have h':=h.le (Nat.le_succ m)
 refine ⟨h'.ins,h'.aa,λi q=>?_,h'.ge⟩
 show DQ (m+1) (bif Nat.beq i k then x else t.ins.get i)
 cases hb:Nat.beq i k with
 | false=>exact h'.gi i q
 | true=>exact hx (by rw [<- Nat.eq_of_beq_eq_true hb]; exact q)
theorem Ry (h:BG m t) {x:aq} (hx:k<t.aa.n->GF (m+1) x):BG (m+1) (ua t k x):=by
 have h':=h.le (Nat.le_succ m)
 refine ⟨h'.ins,h'.aa,h'.gi,λi q=>?_⟩
 show GF (m+1) (bif Nat.beq i k then x else t.aa.get i)
 cases hb:Nat.beq i k with
 | false=>exact h'.ge i q
 | true=>exact hx (by rw [<- Nat.eq_of_beq_eq_true hb]; exact q)
theorem SE (h:BG m t) (hm:2<=m) (hm2:m<=1000) (hn:0<t.ins.n) (q0 q1 q2:Int) (hq:q2<=9223372036854775807):BG (m+1) (b8 t q0 q1 q2):=by
 have h':=h.le (Nat.le_succ m)
 have G:∀ {b:Bool} {x y:ak},BG (m+1) x->BG (m+1) y->BG (m+1) (bif b then x else y):=λ{b x y} h1 h2=>by cases b<;>assumption
 have I:∀ {k:Nat} {f:au->au},(∀ x,DQ m x->DQ (m+1) (f x))->BG (m+1) (fD t k (f (t.ins.get k))):=λhf=>SF h λhk=>hf _ (h.gi _ hk)
 have E:∀ {k:Nat} {f:aq->aq},(∀ x,GF m x->GF (m+1) (f x))->BG (m+1) (Xa t (ua t k (f (t.aa.get k)))):=λhf=>G (Ry h λhk=>hf _ (h.ge _ hk)) h'
 unfold b8
 refine G ?_ (G ?_ (G ?_ (G ?_ (G ?_ (G ?_ (G ?_ (G ?_ (G ?_ (G ?_ (G ?_ (G ?_ (G ?_ (G ?_ h')))))))))))))
 .exact I (f:=λx=>{ x with op:=ed q2 23 }) λx hx=>let hx:=hx.le (Nat.le_succ m); ⟨hx.n,hx.args,hx.names,hx.str⟩
 .exact I (f:=λx=>{ x with a:=q2 }) λx hx=>let hx:=hx.le (Nat.le_succ m); ⟨hx.n,hx.args,hx.names,hx.str⟩
 .exact I (f:=λx=>{ x with b:=q2 }) λx hx=>let hx:=hx.le (Nat.le_succ m); ⟨hx.n,hx.args,hx.names,hx.str⟩
 .exact I (f:=λx=>{ x with n:=q2 }) λx hx=>let hx:=hx.le (Nat.le_succ m); ⟨hq,hx.args,hx.names,hx.str⟩
 .exact I (f:=λx=>{ x with exit:=IntKind.i64.wrap (ed q2 (IntKind.i64.wrap ((t.aa.n:Int)+2))-1) }) λx hx=>let hx:=hx.le (Nat.le_succ m); ⟨hx.n,hx.args,hx.names,hx.str⟩
 .exact I (f:=λx=>{ x with once := !x.once }) λx hx=>let hx:=hx.le (Nat.le_succ m); ⟨hx.n,hx.args,hx.names,hx.str⟩
 .exact I (f:=λx=>{ x with args:=nt x.args q2 }) λx hx=>⟨hx.n,Nat.succ_le_succ hx.args,Nat.le_succ_of_le hx.names,Nat.le_succ_of_le hx.str⟩
 .exact I (f:=λx=>{ x with names:=nt x.names (xzN (ed q2 3).toNat) }) λx hx=>⟨hx.n,Nat.le_succ_of_le hx.args,Nat.succ_le_succ hx.names,Nat.le_succ_of_le hx.str⟩
 .exact I (f:=λx=>{ x with k:=⟨ed q2 8,ed q2 3,⟨⟨[]⟩⟩⟩ }) λx hx=>let hx:=hx.le (Nat.le_succ m); ⟨hx.n,hx.args,hx.names,bk _⟩
 .exact E (f:=λx=>{ x with back:=q2 }) λx hx=>let hx:=hx.le (Nat.le_succ m); ⟨hx.frames,hx.vars,hx.az,hx.names,hx.items,hx.pos⟩
 .refine E (f:=λx=>{ x with frames:=ZH x.frames 0 { x.frames.get 0 with vars:=nt (x.frames.get 0).vars q2 } }) λx hx=>⟨Nat.le_succ_of_le hx.frames,λj hj=>?_,Nat.le_succ_of_le hx.az,λj hj=>Nat.le_succ_of_le (hx.names j hj),λj hj=>Nat.le_succ_of_le (hx.items j hj),hx.pos⟩
  show (bif Nat.beq j 0 then ({ x.frames.get 0 with vars:=nt (x.frames.get 0).vars q2 }:cK) else x.frames.get j).vars.n<=m+1
  cases Nat.beq j 0 with
  | true=>exact Nat.succ_le_succ (hx.vars 0 hx.pos)
  | false=>exact Nat.le_succ_of_le (hx.vars j hj)
 .refine E (f:=λx=>{ x with az:=nt x.az ⟨q2,0,BU,yT⟩ }) λx hx=>⟨Nat.le_succ_of_le hx.frames,λj hj=>Nat.le_succ_of_le (hx.vars j hj),Nat.succ_le_succ hx.az,λj hj=>?_,λj hj=>?_,hx.pos⟩
  .show (bif Nat.blt j x.az.n then x.az.get j else (⟨q2,0,BU,yT⟩:cZ)).names.n<=m+1
   cases hb:Nat.blt j x.az.n with
   | true=>exact Nat.le_succ_of_le (hx.names j (by simp_all))
   | false=>show 2<=m+1; omega
  .show (bif Nat.blt j x.az.n then x.az.get j else (⟨q2,0,BU,yT⟩:cZ)).items.n<=m+1
   cases hb:Nat.blt j x.az.n with
   | true=>exact Nat.le_succ_of_le (hx.items j (by simp_all))
   | false=>show 2<=m+1; omega
 .have eW:=(kR q2 t.ins.n hn (by have:=h.ins; omega)).2.2
  have hI:=h'.ins
  refine ⟨?_,h'.aa,λk hk=>?_,h'.ge⟩
  .show (ed q2 (Int.ofNat t.ins.n)).toNat<=m+1
   omega
  .have hk:k<(ed q2 (Int.ofNat t.ins.n)).toNat:=hk
   exact h'.gi k (by omega)
 .exact ⟨h'.ins,h'.aa,h'.gi,h'.ge⟩
theorem GQ:0<(made l).ins.n:=by
 unfold made Xi
 generalize itS l _ _ _ _=s
 unfold xI
 cases (nx l s.p 6).1==0 with
 | true=>exact Nat.zero_lt_succ _
 | false=>exact Nat.zero_lt_succ _
end
end
end Go.Proofs.YtgbbdaegmfjahaaGreat
