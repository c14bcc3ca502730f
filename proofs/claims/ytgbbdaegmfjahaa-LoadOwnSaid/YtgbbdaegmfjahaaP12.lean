/- Loops: what is to be shown. -/
import Derived.Test.YtgbbdaegmfjahaaP10
import Derived.Test.YtgbbdaegmfjahaaP11
set_option linter.unusedVariables false
set_option linter.unusedSimpArgs false
set_option maxRecDepth 1000000
namespace Go.Proofs.Ytgbbdaegmfjahaa
open Go Go.V
noncomputable section
def A8 (bl:ae->Int->Int->Int->ae) (ds:List D):D:=match ds with
 | [d,.a [.im (.v (.int _ x)),.im (.v (.int _ y)),.im (.v (.int _ z))]]=>a7 (bl (fj [d] 0) x y z)
 | _=>.t []
def ae3 (t:ae) (bl:ae->Int->Int->Int->ae) (st:ae->Sq kM) (al:Int):fN:={ F:=ext vh [(4,λ_ _=>(bool true,[],[])),(5,λ_ _=>(a7 t,[],[])),(6,λds _=>(iM 6 OM (st (fj ds 0)),[],[])),(7,λ_ _=>(int al,[],[])),(8,λds _=>(A8 bl ds,[],[])),(9,λ_ _=>(bool true,[],[])),(10,λds _=>(int (bH (fj ds 0)),[],[]))] }
end
def ag7:Nat->Bool:=cE
theorem aB9:Fn 3:={}
theorem ay1 (L:LP) (QD:D->Prop) (t:ae) (bl:ae->Int->Int->Int->ae) (st:ae->Sq kM) (al:Int) (l:Sq Int) (q0 q1 q2:Int) (h:(LC 4 [] [] (bool true) []/\(LC 5 [(nj l)] [] (fX t) []/\(LC 6 [(fX t)] [] (.c (.im (.sl 6 ((st t).1) (λi=>OM ((st t).2 i))))) []/\(LC 7 [(fX t),(int 0),(int 1)] [] (int al) []/\(LC 8 [(fX t),(.a [(ci q0),(ci q1),(ci q2)])] [] (.a (lift (az (bl t q0 q1 q2)))) []/\(LC 5 [(nj l)] [] (fX t) []/\(LC 9 [(fX t),(fX t)] [] (bool true) []/\(LC 10 [(.a (lift (az (bl t q0 q1 q2))))] [] (int (bH (bl t q0 q1 q2))) []/\br (bH (bl t q0 q1 q2)==0) (QD (bool true)) ((LC 6 [(.a (lift (az (bl t q0 q1 q2))))] [] (.c (.im (.sl 6 ((st (bl t q0 q1 q2)).1) (λi=>OM ((st (bl t q0 q1 q2)).2 i))))) []/\QD (bool ((↑(st (bl t q0 q1 q2)).1:Int)==0))))))))))))):fx (ae3 t bl st al) 3 ag7 L (bL QD) [iM 1 bA l,.a [ci q0,ci q1,ci q2]] []:=km h
theorem ao9 (l:Sq Int) (q0 q1 q2:Int) (hl:l.n<=maxLen) (h2:q2<=9223372036854775807):LC 3 [iM 1 bA l,.a [ci q0,ci q1,ci q2]] [] (bool true) []:=by
 have b0:=QR l
 have p0:=QX l
 have b1:=QQ b0 (by omega) (by omega) p0 q0 q1 q2 h2
 have S0:=b0.small (by omega)
 have S1:=b1.small (by omega)
 refine pv (X:=ae3 (made l) bO nO (wQ (made l) 0 1)) (stop:=ag7) aB9 (ay1 _ _ (made l) bO nO (wQ (made l) 0 1) l q0 q1 q2 ⟨ap5,WK l hl,WB _ S0 b0.num,ad1 _ 0 1 S0 (λh=>(show Inv (made l).ins.n (made l) from ⟨S0,h,b0.num,rfl⟩).mem),an0 _ q0 q1 q2 S0 p0 (λe he=>(b0.ge e he).pos),WK l hl,ak8 _ S0,Gl _ S1,aq (λ_=>bh.refl _) (λh=>⟨WB _ S1 b1.num,?_⟩)⟩)
 have e:nO (bO (made l) q0 q1 q2)=bc rP:=by
  unfold nO
  have h:(bH (bO (made l) q0 q1 q2)!=0)=true:=by
   show (!(bH (bO (made l) q0 q1 q2)==0))=true
   rw [h]; rfl
  rw [h]; rfl
 rw [e]
 exact bh.refl _
end Go.Proofs.Ytgbbdaegmfjahaa
