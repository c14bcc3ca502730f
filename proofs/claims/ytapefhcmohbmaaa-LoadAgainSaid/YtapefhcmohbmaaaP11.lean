/- Loops: what is to be shown. -/
import Derived.Test.YtapefhcmohbmaaaP9
import Derived.Test.YtapefhcmohbmaaaP10
set_option linter.unusedVariables false
set_option linter.unusedSimpArgs false
set_option maxRecDepth 1000000
namespace Go.Proofs.Ytapefhcmohbmaaa
open Go Go.V
noncomputable section
def Pn (t u:af) (m:Nat):gr:={ F:=ext yg [(4,λ_ _=>(bool true,[],[])),(5,λ_ _=>(bH t,[],[])),(6,λds _=>(iR 6 Gt (eC (ff ds 0)),[],[])),(7,λ_ _=>(.t [(true,lift (aJ u)),(false,[ci m]),(false,[ci 0])],[],[]))] }
end
def QC:Nat->Bool:=λi=>Nat.beq i 9
theorem aq8:Fn 3:={}
noncomputable abbrev Bx (aj:af):D:=.c (.im (.sl 6 ((eC aj).1) (λi=>Gt ((eC aj).2 i))))
theorem as6 (L:LP) (QD:D->Prop) (t u:af) (m:Nat) (l:Sq Int) (h:(LC 4 [] [] (bool true) []/\(LC 5 [(.c (pO l))] [] (iv t) []/\(LC 6 [(iv t)] [] (Bx t) []/\(LC 7 [(iv t),(Bx t)] [] (.t [(.true,(lift (aJ (u)))),(.false,[(ci (↑m:Int))]),(.false,[(ci 0)])]) []/\br ((↑u.2.1:Int)!=(↑t.2.1:Int)) (QD (bool false)) (L (ah 3 9) ⟨[(3,((bool true),[])),Ar,(5,((Bx t),[])),qp,(9,((int 0),[])),(36,((gX t),[])),(37,((int 0),[]))],[(bE t),(bE u)],[]⟩)))))):fG (Pn t u m) 3 QC L (cy QD) [iR 1 bF l] []:=km h
noncomputable def Pu (t u:af) (m:Nat) (l:Sq Int) (s:Sq gm) (g:Nat) (k:Nat):VS:=⟨[(3,bool true,[]),(4,.c (.rt 0 0 0),[]),(5,iR 6 Gt s,[]),(6,.c (.rt 1 0 0),[]),(9,int g,[]),(36,int t.ins.n,[]),(37,int k,[])],[.box (lift (aJ t)),.box (lift (aJ u))],[]⟩
theorem Mb (L:LP) (QD:D->Prop) (t u:af) (m:Nat) (l:Sq Int) (s:Sq gm) (g:Nat) (k:Nat) (h:br (decide ((↑k:Int)<(↑t.2.1:Int))) (nd (dm (↑k:Int) t.2.1) (nd (dm (↑k:Int) u.2.1) (br ((t.2.2 k).1 != (u.2.2 k).1) (L (ah 3 9) ⟨[(3,((bool true),[])),Ar,(5,((qw s),[])),qp,(9,((int (IntKind.i64.wrap ((↑g:Int)+1))),[])),(36,((gX t),[])),(37,((int (IntKind.i64.wrap ((↑k:Int)+1))),[]))],[(bE t),(bE u)],[]⟩) (L (ah 3 9) ⟨[(3,((bool true),[])),Ar,(5,((qw s),[])),qp,(9,((int (↑g:Int)),[])),(36,((gX t),[])),(37,((int (IntKind.i64.wrap ((↑k:Int)+1))),[]))],[(bE t),(bE u)],[]⟩)))) (br ((↑g:Int)==(↑s.1:Int)) ((LC 6 [(iv u)] [] (Bx u) []/\QD (bool ((↑(eC u).1:Int)==0)))) (QD (bool false)))):cW (Pn t u m) 3 QC L (cy QD) 9 (Pu t u m l s g k):=km h
theorem xg (l:Sq Int):bk (made l):=by
 have h:=z7 l
 have w:∀ {a:Nat},a<=900->a<=1000:=λh=>eA h (by decide)
 exact ⟨w h.ins,w h.aa,λk q=>w (h.gi k q).args,λk q=>w (h.gi k q).names,λk q=>w (h.gi k q).str,λk q=>⟨w (h.ge k q).frames,λj r=>w ((h.ge k q).vars j r),w (h.ge k q).aC,λj r=>w ((h.ge k q).names j r),λj r=>w ((h.ge k q).items j r)⟩⟩
theorem P7 (l:Sq Int) {P:Nat} (hr:bO (made l) P):Inv (made l).ins.n (made l):=by
 have hn:∀ k,k<(made l).ins.n->((made l).ins.get k).n<=9223372036854775807:=λk q=>((z7 l).gi k q).n
 exact ⟨xg l,by rw [qZ _ hn]; exact hr.right,hn,rfl⟩
theorem V6 (t u:af) (m:Nat) (l:Sq Int) (s:Sq gm) (hn:u.ins.n=t.ins.n) (hx:t.ins.n<=1000) (hS:bk u) (hN:∀ k,k<u.ins.n->(u.ins.get k).n<=9223372036854775807) (hs:s.n=jB (λi=>(u.ins.get i).op != (t.ins.get i).op) t.ins.n) (h0:(eC u).n=0):∀ k,k<=t.ins.n->ag 3 0 (cw (bool true)) (ah 3 9) (Pu t u m l s (jB (λi=>(u.ins.get i).op != (t.ins.get i).op) k) k):=by
 refine bc (λk hk ih=>?_) ?_
 .have hm:t.ins.n<=maxLen:=by unfold maxLen; omega
  refine bt (X:=Pn t u m) (stop:=QC) (Mb _ _ t u m l s _ k ?_)
  refine aq (λ_=>ay (aP hk) (ay (aP (by rw [hn]; exact hk)) (aq (λh1=>?_) (λh1=>?_)))) (λh=>(dec_lt h hk).elim)
  .have e:jB (λi=>(u.ins.get i).op != (t.ins.get i).op) (k+1)=jB (λi=>(u.ins.get i).op != (t.ins.get i).op) k+1:=by
    show (bif (u.ins.get k).op != (t.ins.get k).op then _ else _)=_
    rw [show ((u.ins.get k).op != (t.ins.get k).op)=true from by rw [bne_comm]; exact h1]; rfl
   have g1:jB (λi=>(u.ins.get i).op != (t.ins.get i).op) k<t.ins.n:=Nat.lt_of_le_of_lt Bv hk
   rw [e] at ih
   rw [dy hk hm,dy g1 hm]
   exact ih
  .have e:jB (λi=>(u.ins.get i).op != (t.ins.get i).op) (k+1)=jB (λi=>(u.ins.get i).op != (t.ins.get i).op) k:=by
    show (bif (u.ins.get k).op != (t.ins.get k).op then _ else _)=_
    rw [show ((u.ins.get k).op != (t.ins.get k).op)=false from by rw [bne_comm]; exact h1]; rfl
   rw [e] at ih
   rw [dy hk hm]
   exact ih
 .refine bt (X:=Pn t u m) (stop:=QC) (Mb _ _ t u m l s _ _ ?_)
  refine aq (λh=>cj h) (λ_=>aq (λ_=>⟨T3 u hS hN,?_⟩) (λh=>?_))
  .show bf (bool (((eC u).n:Int)==0)) (bool true)
   rw [h0]
   exact bf.refl _
  .rw [hs] at h
   have h:(((jB (λi=>(u.ins.get i).op != (t.ins.get i).op) t.ins.n:Nat):Int)==((jB (λi=>(u.ins.get i).op != (t.ins.get i).op) t.ins.n:Nat):Int))=false:=h
   rw [beq_self_eq_true] at h
   cases h
theorem ah5 (l:Sq Int) (hl:l.n<=maxLen):LC 3 [iR 1 bF l] [] (bool true) []:=by
 obtain ⟨P,hr⟩:=HA l
 have hI:=P7 l hr
 obtain ⟨u,⟨tr,ht,hu,hR⟩,hU,hs,h0⟩:=GO hI hr
 have hn:(eC (made l)).n<=300:=by
  rw [hs]; exact eA Bv (eA hr.n200 (by decide))
 have c7:=Ze (made l) (eC (made l)) tr hI.small hI.ok hR hn ht
 rw [hu] at c7
 refine pv (X:=Pn (made l) u (eC (made l)).n) (stop:=QC) aq8 (as6 _ _ (made l) u (eC (made l)).n l ⟨ab2,ad9 l hl,T3 _ hI.small hI.num,c7,aq (λh=>?_) (λ_=>?_)⟩)
 .have h:(((u.ins.n:Nat):Int)!=(((made l).ins.n:Nat):Int))=true:=h
  rw [hU.n] at h
  simp at h
 .exact V6 (made l) u (eC (made l)).n l (eC (made l)) hU.n (xg l).ins hU.small hU.num hs h0 0 (bn _)
end Go.Proofs.Ytapefhcmohbmaaa
