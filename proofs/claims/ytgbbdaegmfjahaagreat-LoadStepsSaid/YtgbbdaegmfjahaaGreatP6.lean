/- Loops: what is to be shown. -/
import Derived.Test.YtgbbdaegmfjahaaGreatP5
set_option linter.unusedVariables false
set_option linter.unusedSimpArgs false
set_option maxRecDepth 1000000
namespace Go.Proofs.YtgbbdaegmfjahaaGreat
open Go Go.V
noncomputable section
def F7L:Ao:=[
 (116,λds rs=>(bool (pP (dO ds 0) (IJ ds 1) (aI ds 2)),[],[]))]
def F7:=ext F6 F7L
def ql (b:Bool):Nat->I:=λ_=>iB b
theorem Mt (x:au) (h:x.args.n<=1000):(aW x).n<=1000:=by
 unfold aW
 cases x.op==20
 .show (gL x.op).toNat<=1000
  grind [nO]
 .exact h
def vf:eU:={ F:=F7 }
def uw:Nat->Bool:=λi=>Nat.beq i 6||Nat.beq i 12||Nat.beq i 16||Nat.beq i 20||Nat.beq i 22
theorem bx9:Fn 73:={}
section
variable (aj:ak) (L:LP) (QD:D->Prop) (t:ak) (ax:Nat) (w:Nat->Bool) (aJ:D->Prop) (k:Nat) (aZ:LP) (bR:Nat->Bool) (j:Nat)
abbrev fY:D:=int ((↑(kN aj.2):Int))
abbrev qM:D:=.c (.sa 1 aj.3.1)
theorem br3 (h:(LC 112 [(ez t)] [] (fY t) []/\br (decide (t.1.1<0)) (QD (bool false)) (br (decide (t.1.2<0)) (QD (bool false)) (br ((↑t.2.1:Int)==0) (QD (bool false)) (nd (t.3.1.ble maxLen&&(t.3.1*1).ble 281474976710656) (nd (t.3.1.beq t.3.1) (L (af 73 6) ⟨[bM,(3,((fY t),[])),(4,((qM t),[])),tr],[(aU t),(.arr 4 1 t.3.1 (λx=>iR [I.v (Value.bool false)]))],[]⟩))))))):ep vf 73 uw L (bf QD) [aO t] []:=km h
def wc:VS:=⟨[kG,(3,(fY t),[]),(4,.c (.sa 1 t.aa.n),[]),(5,int k,[])],[(aU t),.arr 4 1 t.aa.n (λi=>ql (w i))],[]⟩
abbrev NF:Prop:=(LC 113 [(.a (lift (bW (aj.ins.2 ax))))] [] (bool (bw (aj.ins.2 ax))) []/\br (!bw (aj.ins.2 ax)) (aJ (bool false)) (aZ (af 73 12) ⟨[bM,(3,((int ((↑(kN aj.2):Int))),[])),(4,((.c (.sa 1 aj.3.1)),[])),(5,((int (↑ax:Int)),[])),(6,((.c (.rt 2 0 0)),[])),(74,((bool false),[]))],[(aU aj),(.arr 4 1 aj.3.1 (λi=>ql (bR i))),(.box (lift (bW (aj.ins.2 ax))))],[]⟩))
theorem V1 (h:br (decide ((↑k:Int)<(↑t.2.1:Int))) (nd (bQ (↑k:Int) t.2.1) (br ((t.ins.2 k).1==20) (br (!true==((↑k:Int)==IntKind.i64.wrap ((↑t.2.1:Int)-1))) (QD (bool false)) (br ((t.ins.2 k).1==1) (br (decide ((↑k:Int)≥(↑(kN t.2):Int))) (QD (bool false)) (NF t k QD L w)) (NF t k QD L w))) (br (!((t.ins.2 k).1==21)==((↑k:Int)==IntKind.i64.wrap ((↑t.2.1:Int)-1))) (QD (bool false)) (br ((t.ins.2 k).1==1) (br (decide ((↑k:Int)≥(↑(kN t.2):Int))) (QD (bool false)) (NF t k QD L w)) (NF t k QD L w))))) (QD (bool true))):b5 vf 73 uw L (bf QD) 6 (wc t w k):=km h
abbrev fp (aj:Nat):D:=int (↑aj:Int)
abbrev ma:ah:=.box (lift (bW (aj.ins.2 ax)))
abbrev EF (ax:Nat->Bool) (aJ:Nat):List ah:=[(aU aj),(.arr 4 1 aj.3.1 (λi=>ql (ax i))),(ma aj aJ)]
abbrev LG (aJ:Nat->Bool):VS:=⟨[kG,(3,(fY aj),[]),(4,(qM aj),[]),(5,(fp ax),[]),(6,(.c (.rt 2 0 0)),[])],(EF aj aJ ax),[]⟩
def ve:VS:=(LG t k w)
abbrev Uz:D:=.c (.im (.sl 1 ((aW (aj.ins.2 ax)).1) (λi=>bn ((aW (qA [D.a (lift [iI (aj.ins.get ax).op,iI (aj.ins.get ax).a,iI (aj.ins.get ax).b,iI (aj.ins.get ax).c,iI (aj.ins.get ax).n,xT 1 bn (aj.ins.get ax).args,iI (aj.ins.get ax).k.kind,iI (aj.ins.get ax).k.n,iS (aj.ins.get ax).k.s,xT 1 cA (aj.ins.get ax).names,iI (aj.ins.get ax).place.fn,iI (aj.ins.get ax).place.line,iI (aj.ins.get ax).exit,iB (aj.ins.get ax).once])] 0)).2 i))))
abbrev bh3 (aJ:LP) (aZ:Nat->Bool):Prop:=(LC 74 [(.a (lift (bW (aj.ins.2 ax))))] [] (Uz aj ax) []/\aJ (af 73 16) ⟨[(1,((.c (.rt 0 0 0)),[])),(3,((int ((↑(kN aj.2):Int))),[])),(4,((.c (.sa 1 aj.3.1)),[])),(5,((int (↑ax:Int)),[])),(6,((.c (.rt 2 0 0)),[])),(8,((.c (.im (.sl 1 ((aW (aj.ins.2 ax)).1) (λi=>bn ((aW (qA [D.a (lift [iI (aj.ins.get ax).op,iI (aj.ins.get ax).a,iI (aj.ins.get ax).b,iI (aj.ins.get ax).c,iI (aj.ins.get ax).n,xT 1 bn (aj.ins.get ax).args,iI (aj.ins.get ax).k.kind,iI (aj.ins.get ax).k.n,iS (aj.ins.get ax).k.s,xT 1 cA (aj.ins.get ax).names,iI (aj.ins.get ax).place.fn,iI (aj.ins.get ax).place.line,iI (aj.ins.get ax).exit,iB (aj.ins.get ax).once])] 0)).2 i))))),[])),(9,((int 0),[]))],[(.box (lift (aT (aj)))),(.arr 4 1 aj.3.1 (λi=>ql (aZ i))),(.box (lift (bW (aj.ins.2 ax))))],[]⟩)
abbrev K3:Prop:=br ((aj.ins.2 ax).1==20) (br ((↑(aj.ins.2 ax).6.1:Int)!=(↑(kN aj.2):Int)) (aJ (bool false)) (bh3 aj ax aZ bR)) (bh3 aj ax aZ bR)
theorem YH (h:br ((t.ins.2 k).1==1) (br (decide ((↑k:Int)>0)) (nd (bQ (IntKind.i64.wrap ((↑k:Int)-1)) t.2.1) (br (decide ((t.ins.2 k).7.2<=(t.ins.2 (IntKind.i64.wrap ((↑k:Int)-1)).toNat).7.2)) (QD (bool false)) (K3 t k QD L w))) (K3 t k QD L w)) (K3 t k QD L w)):b5 vf 73 uw L (bf QD) 12 (ve t w k):=km h
def oR:VS:=⟨[kG,(3,(fY t),[]),(4,(qM t),[]),(5,(int (↑k:Int)),[]),(6,(.c (.rt 2 0 0)),[]),(8,fM 1 bn (aW (t.ins.get k)),[]),(9,int j,[])],(EF t w k),[]⟩
abbrev mU (aj:Nat):eQ:=(5,((fp aj),[]))
abbrev sJ:eQ:=(6,((.c (.rt 2 0 0)),[]))
abbrev Ko:D:=.c (.im (.sl 1 ((aW (aj.ins.2 ax)).1) (λi=>bn ((aW (aj.ins.get ax)).2 i))))
abbrev oO (aj:Nat):eQ:=(9,((fp aj),[]))
theorem OE (h:br (decide ((↑j:Int)<(↑(aW (t.ins.2 k)).1:Int))) (nd (bQ (↑j:Int) (aW (t.ins.2 k)).1) ((LC 114 [(ez t),(int ((aW (t.ins.get k)).2 j)),(int (↑k:Int))] [] (bool (eF t ((aW (t.ins.get k)).2 j) (Int.ofNat k))) []/\br (!eF t ((aW (t.ins.get k)).2 j) (Int.ofNat k)) (QD (bool false)) (nd (bQ (↑j:Int) (aW (t.ins.2 k)).1) (nd (bQ ((aW (t.ins.get k)).2 j) t.2.1) (br ((t.ins.2 ((aW (t.ins.get k)).2 j).toNat).1==17) (QD (bool false)) (L (af 73 16) ⟨[bM,(3,((fY t),[])),(4,((qM t),[])),(mU k),sJ,(8,((Ko t k),[])),(9,((int (IntKind.i64.wrap ((↑j:Int)+1))),[]))],[(aU t),(.arr 4 1 t.3.1 (λi=>ql (w i))),(ma t k),.dead],[]⟩))))))) (L (af 73 20) ⟨[bM,(3,((fY t),[])),(4,((qM t),[])),(mU k),sJ,(8,((Ko t k),[])),(oO j),(113,((bool false),[]))],(EF t w k),[]⟩)):b5 vf 73 uw L (bf QD) 16 (oR t w k j):=km h
def Dx:VS:=(LG t k w)
abbrev gf:List D:=[(int ((aj.ins.2 ax).1))]
abbrev TE (aj:LP) (ax:ak) (aJ:Nat) (aZ:Nat->Bool):Prop:=aj (af 73 22) ⟨[bM,(3,((int ((↑(kN ax.2):Int))),[])),(4,((.c (.sa 1 ax.3.1)),[])),(5,((int (↑aJ:Int)),[])),(6,((.c (.rt 2 0 0)),[])),(178,((bool false),[]))],[(aU ax),(.arr 4 1 ax.3.1 (λi=>ql (aZ i))),(.box (lift (bW (ax.ins.2 aJ))))],[]⟩
abbrev an0:Prop:=br (decide ((aj.ins.2 ax).10<0)) ((LC 115 (gf aj ax) [] (int (wh (aj.ins.2 ax).1)) []/\br (wh (aj.ins.2 ax).1==2) (aJ (bool false)) (TE aZ aj ax bR))) (TE aZ aj ax bR)
abbrev Se:Prop:=br (decide ((aj.ins.2 ax).10 < -1)) (aJ (bool false)) (br (decide ((aj.ins.2 ax).10≥(↑aj.3.1:Int))) (aJ (bool false)) (br (decide ((aj.ins.2 ax).10≥0)) ((LC 115 (gf aj ax) [] (int (wh (aj.ins.2 ax).1)) []/\br (wh (aj.ins.2 ax).1==0) (aJ (bool false)) (an0 aj ax aJ aZ bR))) (an0 aj ax aJ aZ bR)))
end
section
variable (L:LP) (QD:D->Prop) (t:ak) (w:Nat->Bool) (k:Nat)
theorem Zc (h:br ((t.ins.2 k).11) ((LC 80 (gf t k) [] (bool (Ns (t.ins.2 k).1)) []/\br (!Ns (t.ins.2 k).1) (QD (bool false)) (Se t k QD L w))) (Se t k QD L w)):b5 vf 73 uw L (bf QD) 20 (Dx t w k):=km h
def yx:VS:=(LG t k w)
theorem YC (h:br (decide ((t.ins.2 k).10≥0)) (nd (bQ (t.ins.2 k).10 t.3.1) (nd ((t.ins.2 k).10.toNat.blt t.3.1) (br (w (t.ins.2 k).10.toNat) (QD (bool false)) (nd (bQ (t.ins.2 k).10 t.3.1) ((LC 116 [(ez t),(.a (lift (bJ (t.aa.2 (t.ins.2 k).10.toNat)))),(int (↑k:Int))] [] (bool (pP t (t.aa.2 (t.ins.2 k).10.toNat) (Int.ofNat k))) []/\br (!pP t (t.aa.2 (t.ins.2 k).10.toNat) (Int.ofNat k)) (QD (bool false)) (nd (bQ (t.ins.2 k).10 t.3.1) (nd ((t.ins.2 k).10.toNat.blt t.3.1) (L (af 73 6) ⟨[bM,(3,((fY t),[])),(4,((qM t),[])),(5,((int (IntKind.i64.wrap ((↑k:Int)+1))),[]))],[(aU t),(.arr 4 1 t.3.1 (B2 (λi=>ql (w i)) (t.ins.2 k).10.toNat 0 [I.v (Value.bool true)])),(ma t k),.dead],[]⟩))))))))) (L (af 73 6) ⟨[bM,(3,((fY t),[])),(4,((qM t),[])),(5,((int (IntKind.i64.wrap ((↑k:Int)+1))),[]))],(EF t w k),[]⟩)):b5 vf 73 uw L (bf QD) 22 (yx t w k):=km h
end
def sm (x:au):Bool:=x.op==20||x.op==21
section
variable (t:ak) (k:Nat) (a:Bool) (i n:Nat)
def a6:Bool := !(sm (t.ins.get k)!=((k:Int)==(t.ins.n:Int)-1))&&(!((t.ins.get k).op==1&&decide ((k:Int)≥(kN t.ins:Int)))&&bw (t.ins.get k))
def a12:Bool := !((t.ins.get k).op==1&&(decide ((k:Int)>0)&&decide ((t.ins.get k).k.n<=(t.ins.get (k-1)).k.n))) && !((t.ins.get k).op==20&&(((t.ins.get k).args.n:Int)!=(kN t.ins:Int)))
def u16 (v:Int):Bool:=eF t v k && !((t.ins.get v.toNat).op==17)
def TG:Bool:=eh (λj=>u16 t k ((aW (t.ins.get k)).get j)) (aW (t.ins.get k)).n
def a20:Bool := !((t.ins.get k).once && !Ns (t.ins.get k).op)&&(!decide ((t.ins.get k).exit < -1)&&(!decide ((t.ins.get k).exit≥(t.aa.n:Int))&&(!(decide ((t.ins.get k).exit≥0)&&wh (t.ins.get k).op==0) && !(decide ((t.ins.get k).exit<0)&&wh (t.ins.get k).op==2))))
def cN:Bool := !eh (λj => !((t.ins.get j).exit==(i:Int))) k
def Jt:Bool := !decide ((t.ins.get k).exit≥0)||(!cN t k (t.ins.get k).exit.toNat&&pP t (t.aa.get (t.ins.get k).exit.toNat) k)
def pz:Bool:=a6 t k&&(a12 t k&&(TG t k&&(a20 t k&&Jt t k)))
def qf:Bool := !(decide (t.place.fn<0)||(decide (t.place.line<0)||((t.ins.n:Int)==0)))&&eh (pz t) t.ins.n
theorem xx {p q:Nat->Bool}:∀ {m k:Nat},(∀ i,k<=i->i<k+m->p i=q i)->cB p m k=cB q m k
 | 0,k,_=>rfl
 | m+1,k,h=>by
   unfold cB
   rw [h k (bF _) (by omega),xx λi h1 h2=>h i (by omega) (by omega)]
theorem CK {p:Nat->Bool}:∀ {m k:Nat},cB p (m+1) k=(cB p m k&&p (k+m))
 | 0,k=>by simp [cB]
 | m+1,k=>by
   rw [show cB p (m+1+1) k=(bif p k then cB p (m+1) (k+1) else false) from rfl,CK (m:=m) (k:=k+1),show cB p (m+1) k=(bif p k then cB p m (k+1) else false) from rfl,show k+1+m=k+(m+1) by omega]
   cases p k<;>simp
theorem mo:cN t (k+1) i=(cN t k i||((t.ins.get k).exit==(i:Int))):=by
 grind [cN,eh,CK]
theorem O6 (h0:0<=(t.ins.get k).exit):aY (.arr 4 1 n (B2 (λi=>ql (cN t k i)) (t.ins.get k).exit.toNat 0 [I.v (Value.bool true)])) (.arr 4 1 n λi=>ql (cN t (k+1) i)):=by
 refine aY.arr λi hi j hj=>?_
 have hj:j=0:=by omega
 subst hj
 show cD (Bool.rec (iB (cN t k i)) (iR [I.v (Value.bool true)] 0) (Nat.beq i (t.ins.get k).exit.toNat&&true):I) (iB (cN t (k+1) i))
 rw [mo,Bool.and_true]
 obtain ⟨m,hm⟩:=Int.eq_ofNat_of_zero_le h0
 rw [hm,Int.toNat_natCast,int_eq]
 cases hb:Nat.beq i m with
 | true=>
   have:=Nat.eq_of_beq_eq_true hb
   subst this
   simp only [beq_self_eq_true,Bool.or_true]
   exact cD.refl _
 | false=>
   grind [Nat.ne_of_beq_eq_false,cD.refl]
theorem Lu (h0:(t.ins.get k).exit<0):aY (.arr 4 1 n (λi=>ql (cN t k i))) (.arr 4 1 n λi=>ql (cN t (k+1) i)):=by
 grind [aY.arr,mo,cD.refl]
theorem Cg {n:Nat} (h:0<n) (hn:n<=1000):IntKind.i64.wrap ((n:Int)-1)=(n:Int)-1:=iT (by omega) (by omega)
def R73 (k:Nat):Prop:=ae 73 0 (a7 (bool a)) (af 73 6) (wc t (cN t (k+1)) (k+1))
theorem Yh (hS:aM t) (hk:k<t.ins.n) (hE:(t.ins.get k).exit<t.aa.n) (no:Jt t k=false->a=false) (go:Jt t k=true->R73 t a k):ae 73 0 (a7 (bool a)) (af 73 22) (yx t (cN t k) k):=by
 have no:Jt t k=false->aX (bool false) (bool a):=λq=>by rw [no q]; exact aX.refl _
 refine aK (X:=vf) (stop:=uw) (YC _ _ t (cN t k) k ?_)
 rw [b6 hk (cT hS.ins (by decide))]
 refine ag (λh=>?_) (λh=>?_)
 .have h0:0<=(t.ins.get k).exit:=of_decide_eq_true h
  have h:decide ((t.ins.get k).exit≥0)=true:=h
  have hb:=oN h0 hE
  have hb2:Nat.blt (t.ins.get k).exit.toNat t.aa.n=true:=bX (by omega)
  refine ai hb (ai hb2 (ag (λh1=>no (by grind [Jt])) (λh1=>ai hb ⟨aD6 _ _ _ (by omega) (hS.ex _ (by omega)),?_⟩)))
  have h1:cN t k (t.ins.get k).exit.toNat=false:=h1
  refine ag (λh2=>no (by grind [Jt])) (λh2=>ai hb (ai hb2 ?_))
  have h2:pP t (t.aa.get (t.ins.get k).exit.toNat) k=true:=by simpa using h2
  exact ae.rename [0,1] rfl (ae.lf (wc t (cN t (k+1)) (k+1)) (rc (.cons (O6 t k _ h0) .nil)) (go (by grind [Jt])))
 .have h0:(t.ins.get k).exit<0:=by grind
  exact ae.rename [0,1] rfl (ae.lf (wc t (cN t (k+1)) (k+1)) (rc (.cons (Lu t k _ h0) .nil)) (go (by grind [Jt])))
theorem Z9 (hS:aM t) (hk:k<t.ins.n) (no:(a20 t k&&Jt t k)=false->a=false) (go:(a20 t k&&Jt t k)=true->R73 t a k):ae 73 0 (a7 (bool a)) (af 73 20) (Dx t (cN t k) k):=by
 have no1:a20 t k=false->aX (bool false) (bool a):=λq=>by rw [no (by rw [q]; rfl)]; exact aX.refl _
 have Pt:a20 t k=true->ae 73 0 (a7 (bool a)) (af 73 22) (yx t (cN t k) k):=λq=>by
  grind [a20,Yh]
 refine aK (X:=vf) (stop:=uw) (Zc _ _ t (cN t k) k ?_)
 repeat' (first|refine ag (λh=>?_) (λh=>?_)|refine ⟨al3 _,?_⟩|refine ⟨ar7 _,?_⟩|done)
 all_goals (try simp only [Bool.not_eq_true',Bool.not_eq_false'] at *)
 all_goals first
  | exact no1 (by simp only [a20, *,fg])
  | exact ae.lr (yx t (cN t k) k) (Pt (by grind [a20]))
  | (exfalso; simp only [decide_eq_true_eq,decide_eq_false_iff_not] at *; omega)
theorem af3 (hS:aM t) (hk:k<t.ins.n):∀ j,j<=(aW (t.ins.get k)).n->((cB (λj=>u16 t k ((aW (t.ins.get k)).get j)) ((aW (t.ins.get k)).n-j) j&&(a20 t k&&Jt t k))=false->a=false)->((cB (λj=>u16 t k ((aW (t.ins.get k)).get j)) ((aW (t.ins.get k)).n-j) j&&(a20 t k&&Jt t k))=true->R73 t a k)->ae 73 0 (a7 (bool a)) (af 73 16) (oR t (cN t k) k j):=by
 have hN:(aW (t.ins.get k)).n<=1000:=Mt _ (hS.args k hk)
 refine aN (λj hj ih no go=>?_) (λno go=>?_)
 .have q:(aW (t.ins.get k)).n-j=((aW (t.ins.get k)).n-(j+1))+1:=by omega
  rw [q] at no go
  have no1:u16 t k ((aW (t.ins.get k)).get j)=false->aX (bool false) (bool a):=λq=>by grind [cR,aX.refl]
  have Pt:u16 t k ((aW (t.ins.get k)).get j)=true->ae 73 0 (a7 (bool a)) (af 73 16) (oR t (cN t k) k (j+1)):=λq=>by grind [dR]
  refine aK (X:=vf) (stop:=uw) (OE _ _ t (cN t k) k j ?_)
  rw [b6 hj (cT hN (by decide))]
  refine ag (λh=>?_) (λh=>(dec_lt h hj).elim)
  refine ai (aC hj) ⟨KP _ _ _ (by grind),?_⟩
  refine ag (λh1=>no1 (by grind [u16])) (λh1=>?_)
  have h1:eF t ((aW (t.ins.get k)).get j) k=true:=by simpa using h1
  refine ai (aC hj) (ai (po h1 (by omega)) (ag (λh2=>no1 (by grind [u16])) (λh2=>?_)))
  exact ae.rename [0,1,2] rfl (Pt (by grind [u16]))
 .rw [Nat.sub_self] at no go
  refine aK (X:=vf) (stop:=uw) (OE _ _ t (cN t k) k _ ?_)
  refine ag (λh=>bq h) (λh=>?_)
  exact ae.lr (Dx t (cN t k) k) (Z9 t k a hS hk (by simpa [cB] using no) (by simpa [cB] using go))
theorem ZS (hS:aM t) (hk:k<t.ins.n) (no:(a12 t k&&(TG t k&&(a20 t k&&Jt t k)))=false->a=false) (go:(a12 t k&&(TG t k&&(a20 t k&&Jt t k)))=true->R73 t a k):ae 73 0 (a7 (bool a)) (af 73 12) (ve t (cN t k) k):=by
 have no1:a12 t k=false->aX (bool false) (bool a):=λq=>by rw [no (by rw [q]; rfl)]; exact aX.refl _
 have Pt:a12 t k=true->ae 73 0 (a7 (bool a)) (af 73 16) (oR t (cN t k) k 0):=λq=>by
  rw [q,Bool.true_and] at no go
  exact af3 t k a hS hk 0 (bk _) no go
 refine aK (X:=vf) (stop:=uw) (YH _ _ t (cN t k) k ?_)
 have w1:decide ((k:Int)>0)=true->IntKind.i64.wrap ((k:Int)-1)=((k-1:Nat):Int):=λh=>by
  have h:=of_decide_eq_true h
  rw [iT (by omega) (by have:=hS.ins; omega)]
  omega
 refine ag (λh=>?_) (λh=>?_)
 .have h:((t.ins.get k).op==1)=true:=h
  refine ag (λh1=>?_) (λh1=>?_)
  .rw [w1 h1]
   have nD:decide ((k:Int)>0)=true:=h1
   have h1'':=of_decide_eq_true h1
   clear h1
   refine ai (aC (by omega)) (ag (λh2=>no1 ?_) (λh2=>?_))
   .grind [a12]
   .have h2:decide ((t.ins.get k).k.n<=(t.ins.get (k-1)).k.n)=false:=h2
    clear h1''
    repeat' (first|refine ag (λh=>?_) (λh=>?_)|refine ⟨NI _,?_⟩|done)
    all_goals first
     | exact no1 (by simp only [a12, *,fg])
     | exact ae.lr (oR t (cN t k) k 0) (Pt (by grind [a12]))
  .have h1:decide ((k:Int)>0)=false:=h1
   repeat' (first|refine ag (λh=>?_) (λh=>?_)|refine ⟨NI _,?_⟩|done)
   all_goals first
    | exact no1 (by simp only [a12, *,fg])
    | exact ae.lr (oR t (cN t k) k 0) (Pt (by grind [a12]))
 .have h:((t.ins.get k).op==1)=false:=h
  repeat' (first|refine ag (λh=>?_) (λh=>?_)|refine ⟨NI _,?_⟩|done)
  all_goals first
   | exact no1 (by simp only [a12, *,fg])
   | exact ae.lr (oR t (cN t k) k 0) (Pt (by grind [a12]))
theorem aH6 (hS:aM t) (hn:0<t.ins.n):∀ k,k<=t.ins.n->cB (pz t) (t.ins.n-k) k=a->ae 73 0 (a7 (bool a)) (af 73 6) (wc t (cN t k) k):=by
 have hN:=hS.ins
 refine aN (λk hk ih ha=>?_) (λha=>?_)
 .have q:t.ins.n-k=(t.ins.n-(k+1))+1:=by omega
  rw [q] at ha
  have no:pz t k=false->a=false:=λq=>by rw [cR q] at ha; exact ha.symm
  have go:pz t k=true->R73 t a k:=λq=>by rw [dR q] at ha; exact ih ha
  have no1:a6 t k=false->aX (bool false) (bool a):=λq=>by rw [no (by unfold pz; rw [q]; rfl)]; exact aX.refl _
  have Pt:a6 t k=true->ae 73 0 (a7 (bool a)) (af 73 12) (ve t (cN t k) k):=λq=>by
   grind [pz,ZS]
  clear no go
  refine aK (X:=vf) (stop:=uw) (V1 _ _ t (cN t k) k ?_)
  rw [Cg hn hN]
  refine ag (λh=>?_) (λh=>(dec_lt h hk).elim)
  refine ai (aC hk) ?_
  have hs:(t.ins.get k).k.s.size<=maxLen:=cT (hS.str k hk) (by decide)
  refine ag (λh=>?_) (λh=>?_)
  .have h0:sm (t.ins.get k)=true:=by grind [sm]
   clear h
   refine ag (λh1=>?_) (λh1=>?_)
   .grind [a6]
   have h1:(true != ((k:Int)==(t.ins.n:Int)-1))=false:=h1
   repeat' (first|refine ag (λh=>?_) (λh=>?_)|refine ⟨W2 _ hs,?_⟩|done)
   all_goals (try simp only [Bool.not_eq_true',Bool.not_eq_false'] at *)
   all_goals first
    | exact no1 (by simp only [a6, *,fg])
    | exact ae.lr (ve t (cN t k) k) (Pt (by grind [a6]))
  .have h0:sm (t.ins.get k)=((t.ins.get k).op==21):=by grind [sm]
   clear h
   refine ag (λh1=>?_) (λh1=>?_)
   .grind [a6]
   have h1:(((t.ins.get k).op==21)!=((k:Int)==(t.ins.n:Int)-1))=false:=h1
   repeat' (first|refine ag (λh=>?_) (λh=>?_)|refine ⟨W2 _ hs,?_⟩|done)
   all_goals (try simp only [Bool.not_eq_true',Bool.not_eq_false'] at *)
   all_goals first
    | exact no1 (by simp only [a6, *,fg])
    | exact ae.lr (ve t (cN t k) k) (Pt (by grind [a6]))
 .rw [Nat.sub_self] at ha
  refine aK (X:=vf) (stop:=uw) (V1 _ _ t _ _ ?_)
  refine ag (λh=>bq h) (λh=>?_)
  subst ha; exact aX.refl _
theorem bc6 (hS:aM t):LC 73 [aO t] [] (bool (qf t)) []:=by
 refine pv (X:=vf) (stop:=uw) bx9 (br3 _ _ t ⟨av8 _,?_⟩)
 have hE:=hS.aa
 refine ag (λh1=>?_) (λh1=>ag (λh2=>?_) (λh2=>ag (λh3=>?_) (λh3=>ai ?_ (ai (dv _) ?_))))
 .grind [qf,aX.refl]
 .grind [qf,aX.refl]
 .grind [qf,aX.refl]
 .simp only [fC,Nat.ble_eq]
  exact ⟨cT hE (by decide),cT (Nat.mul_le_mul hE (bF 1)) (by decide)⟩
 .have hn:0<t.ins.n:=by
   grind
  refine ae.lf (wc t (cN t 0) 0) (rc (.cons (aY.arr λi hi j hj=>by
   have:j=0:=by omega
   subst this
   exact cD.refl _) .nil)) ?_
  grind [aH6,qf,eh]
end
open Go Go.V
def F8L:Ao:=[
 (73,λds rs=>(bool (qf (dO ds 0)),[],[])),
 (92,λds rs=>(bool (eF (dO ds 0) (aI ds 1) (aI ds 2)),[],[])),
 (56,λds rs=>(.c (.fL 96 [rs.length]),[],[.box (lift (bJ (IJ ds 0)))]))]
def F8:=ext F7 F8L
section
variable (t:ak) (q:Nat)
def hX:List C:=[.im (iI t.place.fn),.im (iI t.place.line),.im (xT 14 gw t.ins),.im (xT 3 dQ t.aa),.mp q]
def BR:D:=.a (hX t q)
theorem X5 (op:Int):fy op [1,2,3,4,10,12,14,16,17]=xU op:=by
 simp [fy,xU]
def X8:eU:={ F:=F8 }
def aY3:eU:={ F:=F8 }
def bf0:Nat->Bool:=bH
theorem bv3:Fn 40:={}
theorem bu8 (L:LP) (QD:D->Prop) (t:ak) (h:br (decide ((↑t.2.1:Int)>200)) (QD (int 2)) (br (decide ((↑t.3.1:Int)>60)) (QD (int 2)) ((LC 73 [(ez t)] [] (bool (qf t)) []/\br (!qf t) (QD (int 31)) (QD (int 0)))))):ep aY3 40 bf0 L (bf QD) [aO t] []:=km h
def dS:Int:=bif decide ((t.ins.n:Int)>200) then 2 else bif decide ((t.aa.n:Int)>60) then 2 else bif qf t then 0 else 31
theorem MV (hS:aM t):LC 40 [aO t] [] (int (dS t)) []:=by
 refine pv (X:=aY3) (stop:=bf0) bv3 (bu8 _ _ t ?_)
 refine ag (λh1=>?_) (λh1=>ag (λh2=>?_) (λh2=>⟨bc6 _ hS,ag (λh3=>?_) (λh3=>?_)⟩))
 .grind [dS,aX.refl]
 all_goals grind [dS,aX.refl]
end
def bi6:eU:={ F:=F8 }
def aN5:Nat->Bool:=bH
theorem bx4:Fn 56:={}
section
variable (L:LP) (QE:D->List ah->Prop) (e:aq) (t:ak) (n before:Int) (r0 r1 r2 r3 r4 r5 r6 r7 r8 r9 e8 e9 Mx fE r14 r15:ah)
theorem bA6 (h:QE (.c (.fL 96 [12])) [r0,r1,r2,r3,r4,r5,r6,r7,r8,r9,e8,e9,(.box (lift (bJ (e))))]):ep bi6 56 aN5 L QE [qd e] [r0,r1,r2,r3,r4,r5,r6,r7,r8,r9,e8,e9]:=km h
theorem aO6:LC 56 [qd e] [r0,r1,r2,r3,r4,r5,r6,r7,r8,r9,e8,e9] (.c (.fL 96 [12])) [r0,r1,r2,r3,r4,r5,r6,r7,r8,r9,e8,e9,.box (lift (bJ e))]:=
 iW bx4 (aQ (by kernel_rfl)) (cY (X:=bi6) (stop:=aN5) (bA6 _ _ e r0 r1 r2 r3 r4 r5 r6 r7 r8 r9 e8 e9 ⟨13,aQ rfl,aQ rfl,rfl,rfl,aX.refl _,by repeat' (first|exact trivial|refine ⟨.inl (.inl rfl),?_⟩|refine ⟨rfl,?_⟩|done)⟩))
def O8:Nat->Bool:=bH
theorem aC5:Fn 92:={}
abbrev Ls (aj:ak) (ax:Int):D:=bool (fy (aj.ins.2 ax.toNat).1 [1,2,3,4,10,12,14,16,17])
theorem au5 (h:br (decide (n≥0)) (br (decide (n<before)) (nd (bQ n t.2.1) ((LC 124 [(int ((t.ins.2 n.toNat).1))] [] (Ls t n) []/\QE (bool (fy (t.ins.2 n.toNat).1 [1,2,3,4,10,12,14,16,17])) [r0,r1,r2,r3,r4,(.box (hX (t) 1))]))) (QE (bool false) [r0,r1,r2,r3,r4,(.box (hX (t) 1))])) (QE (bool false) [r0,r1,r2,r3,r4,(.box (hX (t) 1))])):ep X8 92 O8 L QE [BR t 1,int n,int before] [r0,r1,r2,r3,r4]:=km h
theorem Y2 (hb:before<=t.ins.n):LC 92 [BR t 1,int n,int before] [r0,r1,r2,r3,r4] (bool (eF t n before)) [r0,r1,r2,r3,r4]:=by
 refine iW aC5 (aQ (by kernel_rfl)) (cY (X:=X8) (stop:=O8) (au5 _ _ t n before r0 r1 r2 r3 r4 ?_))
 refine ag (λh=>ag (λh2=>ai (oN (of_decide_eq_true h) (by grind)) ⟨wT _,?_⟩) (λh2=>?_)) (λh=>?_)
 .rw [show eF t n before=fy (t.ins.get n.toNat).op [1,2,3,4,10,12,14,16,17] from by grind [eF,X5]]; exact ⟨5,aQ rfl,aQ rfl,rfl,rfl,aX.refl _,bG _ _⟩
 .rw [show eF t n before=false from by grind [eF]]; exact ⟨5,aQ rfl,aQ rfl,rfl,rfl,aX.refl _,bG _ _⟩
 .rw [show eF t n before=false from by grind [eF]]; exact ⟨5,aQ rfl,aQ rfl,rfl,rfl,aX.refl _,bG _ _⟩
theorem X2 (h:br (decide (n≥0)) (br (decide (n<before)) (nd (bQ n t.2.1) ((LC 124 [(int ((t.ins.2 n.toNat).1))] [] (Ls t n) []/\QE (bool (fy (t.ins.2 n.toNat).1 [1,2,3,4,10,12,14,16,17])) [r0,r1,r2,r3,r4,r5,r6,r7,r8,r9,e8,e9,Mx,(.box (hX (t) 1))]))) (QE (bool false) [r0,r1,r2,r3,r4,r5,r6,r7,r8,r9,e8,e9,Mx,(.box (hX (t) 1))])) (QE (bool false) [r0,r1,r2,r3,r4,r5,r6,r7,r8,r9,e8,e9,Mx,(.box (hX (t) 1))])):ep X8 92 O8 L QE [BR t 1,int n,int before] [r0,r1,r2,r3,r4,r5,r6,r7,r8,r9,e8,e9,Mx]:=km h
theorem Vy (hb:before<=t.ins.n):LC 92 [BR t 1,int n,int before] [r0,r1,r2,r3,r4,r5,r6,r7,r8,r9,e8,e9,Mx] (bool (eF t n before)) [r0,r1,r2,r3,r4,r5,r6,r7,r8,r9,e8,e9,Mx]:=by
 refine iW aC5 (aQ (by kernel_rfl)) (cY (X:=X8) (stop:=O8) (X2 _ _ t n before r0 r1 r2 r3 r4 r5 r6 r7 r8 r9 e8 e9 Mx ?_))
 refine ag (λh=>ag (λh2=>ai (oN (of_decide_eq_true h) (by grind)) ⟨wT _,?_⟩) (λh2=>?_)) (λh=>?_)
 .rw [show eF t n before=fy (t.ins.get n.toNat).op [1,2,3,4,10,12,14,16,17] from by grind [eF,X5]]; exact ⟨13,aQ rfl,aQ rfl,rfl,rfl,aX.refl _,bG _ _⟩
 .rw [show eF t n before=false from by grind [eF]]; exact ⟨13,aQ rfl,aQ rfl,rfl,rfl,aX.refl _,bG _ _⟩
 .rw [show eF t n before=false from by grind [eF]]; exact ⟨13,aQ rfl,aQ rfl,rfl,rfl,aX.refl _,bG _ _⟩
theorem aa6 (h:br (decide (n≥0)) (br (decide (n<before)) (nd (bQ n t.2.1) ((LC 124 [(int ((t.ins.2 n.toNat).1))] [] (Ls t n) []/\QE (bool (fy (t.ins.2 n.toNat).1 [1,2,3,4,10,12,14,16,17])) [r0,r1,r2,r3,r4,r5,r6,r7,r8,r9,e8,e9,Mx,fE,r14,r15,(.box (hX (t) 1))]))) (QE (bool false) [r0,r1,r2,r3,r4,r5,r6,r7,r8,r9,e8,e9,Mx,fE,r14,r15,(.box (hX (t) 1))])) (QE (bool false) [r0,r1,r2,r3,r4,r5,r6,r7,r8,r9,e8,e9,Mx,fE,r14,r15,(.box (hX (t) 1))])):ep X8 92 O8 L QE [BR t 1,int n,int before] [r0,r1,r2,r3,r4,r5,r6,r7,r8,r9,e8,e9,Mx,fE,r14,r15]:=km h
theorem VI (hb:before<=t.ins.n):LC 92 [BR t 1,int n,int before] [r0,r1,r2,r3,r4,r5,r6,r7,r8,r9,e8,e9,Mx,fE,r14,r15] (bool (eF t n before)) [r0,r1,r2,r3,r4,r5,r6,r7,r8,r9,e8,e9,Mx,fE,r14,r15]:=by
 refine iW aC5 (aQ (by kernel_rfl)) (cY (X:=X8) (stop:=O8) (aa6 _ _ t n before r0 r1 r2 r3 r4 r5 r6 r7 r8 r9 e8 e9 Mx fE r14 r15 ?_))
 refine ag (λh=>ag (λh2=>ai (oN (of_decide_eq_true h) (by grind)) ⟨wT _,?_⟩) (λh2=>?_)) (λh=>?_)
 .rw [show eF t n before=fy (t.ins.get n.toNat).op [1,2,3,4,10,12,14,16,17] from by grind [eF,X5]]; exact ⟨16,aQ rfl,aQ rfl,rfl,rfl,aX.refl _,bG _ _⟩
 .rw [show eF t n before=false from by grind [eF]]; exact ⟨16,aQ rfl,aQ rfl,rfl,rfl,aX.refl _,bG _ _⟩
 .rw [show eF t n before=false from by grind [eF]]; exact ⟨16,aQ rfl,aQ rfl,rfl,rfl,aX.refl _,bG _ _⟩
end
open Go Go.V
def rfC:Code->Option (List Tmp×Code×Code)
 | .rangeFunc _ ps a b=>some (ps.toList,a,b)
 | .seq a b=>match rfC a with
   | some x=>some x
   | none=>rfC b
 | .cond _ a b=>match rfC a with
   | some x=>some x
   | none=>rfC b
 | .block _ a=>rfC a
 | .loop a=>rfC a
 | _=>none
section
variable (f:FuncId) {ps:List Tmp}
def sg:Code:=match rfC (pM f) with
 | some x=>x.2.1
 | none=>.skip
def sB:Code:=match rfC (pM f) with
 | some x=>x.2.2
 | none=>.skip
def vcY (X:eU) (f:FuncId) (r:Nat) (Q:D->List ah->Prop) (sl:a8) (rs:List ah):Prop:=
 wS nF Tryz.prog X hints (yK f).ntmps f (some r) bH (λ_ _=>False) (QO r Q) 10000 false [.code (sg f),.beginRound,.code (sB f)] ⟨sl,rs,[]⟩
theorem an9 {X:eU} {f:FuncId} {r:Nat} {yF CE:a8} {ds:List D} {rs:List ah} {d:D} {aV:List ah} (hr:rs[r]?=some (.loop f (yK f).ntmps yF ps (sg f) (sB f) .ready none)) (LX:Pp (yK f).ntmps ps ds yF=some CE) (h:vcY X f r (Go.V.Ends rs d aV) CE rs):nS nF Tryz.prog r ds rs d aV:=
 C9 si hr LX λb cs hb=>yN (L:=λ_ _=>False) si mixed hb (λ_ _ q=>q.elim) (λ_ _ q=>q) 10000 h
def GU (b:Bool) (x:Option ah):ah:=match x with
 | some (.loop f N sl ps c d _ _)=>.loop f N sl ps c d (bif b then .ready else .done) (bif b then none else some .ret)
 | _=>.dead
def N8 (n:Nat) (sl:a8):Bool:=List.rec true (λx _ ih=>Bool.rec false ih (kf n x.2.1)) sl
theorem vN {n:Nat}:∀ {sl:a8},N8 n sl=true->∀ x∈sl,kf n x.2.1=true
 | [],_,x,hx=>by cases hx
 | y::l,h,x,hx=>by
   obtain ⟨h1,h2⟩:=Bool.gU (show (Bool.rec false (N8 n l) (kf n y.2.1):Bool)=true from h)
   rcases List.mem_cons.1 hx with rfl|hx
   .exact h1
   .exact vN h2 x hx
def e6 (n:Nat):List ah->Prop
 | []=>True
 | x::l=>jF n x/\e6 n l
theorem e6.mem {n:Nat}:∀ {l:List ah},e6 n l->∀ x∈l,jF n x
 | [],_,x,hx=>by cases hx
 | y::l,h,x,hx=>by
   rcases List.mem_cons.1 hx with rfl|hx
   .exact h.1
   .exact e6.mem h.2 x hx
theorem e6.mono {n m:Nat} (hnm:n<=m):∀ {l:List ah},e6 n l->e6 m l
 | [],_=>trivial
 | _::_,h=>⟨h.1.mono hnm,e6.mono hnm h.2⟩
theorem uW {n:Nat} {f N:Nat} {sl:a8} {a b:Code} {st:LoopState} {pd:Option Code} (h:N8 n sl=true):jF n (.loop f N sl ps a b st pd):=
 .inr ⟨f,N,sl,ps,a,b,st,pd,rfl,λt d c q=>vN h _ (jl q)⟩
theorem ae.cut {f:FuncId} {n0:Nat} {Q:D->List ah->Prop} {todo:List Item} {s:VS} (n:Nat) (h0:n0<=n) (hn:n<=s.rs.length) (Qv:N8 n s.sl=true) (US:s.df=[]) (Ju:e6 n (s.rs.take n)) (g:ae f n0 Q todo ⟨s.sl,s.rs.take n,s.df⟩):ae f n0 Q todo s:=
 λb cs hb=>Goal.ghost (g b cs hb) λaA w0 sp a w E eb vo hR te=>by
  refine ⟨E.take n,by grind,?_,te⟩
  exact hR.cut hn (λx hx=>rv h0 (eb x hx)) (λt d q=>vN Qv _ (jl q)) (λt d c q=>te _ (jl q)) (by grind) (λq x e=>Ju.mem x (List.mem_of_getElem? e))
end
open Go Go.V
def NJ (p:Int->Bool):eU:={ F:=F8,S:=[14],FY:=λr ds rs=>(bool (p (aI ds 0)),[(r,GU (p (aI ds 0)) (bh rs r))],[]) }
def allM (p:Int->Bool) (e:aq):Bool:=eh (λj=>eh (λi=>p ((e.frames.get j).vars.get i)) (e.frames.get j).vars.n) e.frames.n&&eh (λj=>eh (λi=>p ((e.az.get j).items.get i)) (e.az.get j).items.n) e.az.n
def vk:Nat->Bool:=λi=>Nat.beq i 1||Nat.beq i 4||Nat.beq i 10||Nat.beq i 13
theorem bv1:Fn 96:={}
abbrev qQ:eQ:=(0,((.c (.yl 14)),[]))
abbrev EE:eQ:=(1,((.c (.rt 12 0 0)),[]))
section
variable (aj:aq) (L:LP) (QE:D->List ah->Prop) (p:Int->Bool) (e:aq) (r0 r1 r2 r3 r4 r5 r6 r7 r8 r9 e8 e9 fE:ah) (f N:Nat) (sl:a8) (ps:List Tmp) (ca cb:Code) (j i:Nat)
abbrev tl:D:=.c (.im (.sl 3 aj.1.1 (λi=>dD (aj.frames.2 i))))
abbrev j6:D:=int (↑aj.1.1:Int)
abbrev kQ (aj ax:Nat) (aJ:a8) (aZ:List Tmp) (bR cW:Code):ah:=.loop aj ax aJ aZ bR cW .ready none
theorem bu9 (h:L (af 96 1) ⟨[qQ,EE,(12,((tl e),[])),(13,((j6 e),[])),(14,((int 0),[]))],[r0,r1,r2,r3,r4,r5,r6,r7,r8,r9,e8,e9,(dm e),fE,(kQ f N sl ps ca cb)],[]⟩):ep (NJ p) 96 vk L QE [.c (.yl 14),.c (.rt 12 0 0)] [r0,r1,r2,r3,r4,r5,r6,r7,r8,r9,e8,e9,.box (lift (bJ e)),fE,.loop f N sl ps ca cb .ready none]:=km h
abbrev Fs:eQ:=(0,(.c (.yl 14)),[])
def Ml (p:Int->Bool) (e:aq) (r0 r1 r2 r3 r4 r5 r6 r7 r8 r9 e8 e9 fE:ah) (f N:Nat) (sl:a8) (ps:List Tmp) (ca cb:Code) (j:Nat):VS:=⟨[Fs,(1,(.c (.rt 12 0 0)),[]),(12,(tl e),[]),(13,(j6 e),[]),(14,int j,[])],[r0,r1,r2,r3,r4,r5,r6,r7,r8,r9,e8,e9,(dm e),fE,(kQ f N sl ps ca cb)],[]⟩
abbrev vU:D:=.c (.im (.sl 4 aj.2.1 (λi=>ff (aj.az.2 i))))
abbrev jY:D:=int (↑aj.2.1:Int)
theorem RI (h:br (decide ((↑j:Int)<(↑e.1.1:Int))) (nd (bQ (↑j:Int) e.1.1) (L (af 96 4) ⟨[qQ,EE,(12,((tl e),[])),(13,((j6 e),[])),(14,((int (↑j:Int)),[])),(19,((.c (.im (.sl 1 ((e.frames.2 j).3.1) (λi=>bn ((e.frames.get (↑j:Int).toNat).vars.2 i))))),[])),(20,((int ((↑(e.frames.2 j).3.1:Int))),[])),(21,((int 0),[]))],[r0,r1,r2,r3,r4,r5,r6,r7,r8,r9,e8,e9,(dm e),fE,(kQ f N sl ps ca cb),(wO e j)],[]⟩)) (L (af 96 10) ⟨[qQ,(32,((vU e),[])),(33,((jY e),[])),(34,((int 0),[]))],[r0,r1,r2,r3,r4,r5,r6,r7,r8,r9,e8,e9,(dm e),fE,(kQ f N sl ps ca cb)],[]⟩)):b5 (NJ p) 96 vk L QE 1 (Ml p e r0 r1 r2 r3 r4 r5 r6 r7 r8 r9 e8 e9 fE f N sl ps ca cb j):=km h
def SY (p:Int->Bool) (e:aq) (r0 r1 r2 r3 r4 r5 r6 r7 r8 r9 e8 e9 fE:ah) (f N:Nat) (sl:a8) (ps:List Tmp) (ca cb:Code) (j i:Nat):VS:=⟨[Fs,(1,(.c (.rt 12 0 0)),[]),(12,(.c (.im (.sl 3 e.1.1 (λi=>dD (e.frames.2 i))))),[]),(13,(j6 e),[]),(14,int j,[]),(19,(.c (.im (.sl 1 ((e.frames.2 j).3.1) (λi=>bn ((e.frames.get (↑j:Int).toNat).vars.2 i))))),[]),(20,(int ((↑(e.frames.2 j).3.1:Int))),[]),(21,int i,[])],[r0,r1,r2,r3,r4,r5,r6,r7,r8,r9,e8,e9,(dm e),fE,(kQ f N sl ps ca cb),(wO e j)],[]⟩
theorem TY (h:br (decide ((↑i:Int)<(↑(e.frames.2 j).3.1:Int))) (nd (bQ (↑i:Int) (e.frames.2 j).3.1) ((nS nF Tryz.prog 14 [(int ((e.frames.get (↑j:Int).toNat).vars.2 i))] [r0,r1,r2,r3,r4,r5,r6,r7,r8,r9,e8,e9,(.box (lift (bJ (e)))),fE,(.loop f N sl ps ca cb .ready none),(.box (lift (mS (e.frames.2 j))))] (bool (p ((e.frames.get (↑j:Int).toNat).vars.2 i))) [r0,r1,r2,r3,r4,r5,r6,r7,r8,r9,e8,e9,(.box (lift (bJ (e)))),fE,(.loop f N sl ps ca cb (bif p ((e.frames.get (↑j:Int).toNat).vars.2 i) then LoopState.ready else LoopState.done) (bif p ((e.frames.get (↑j:Int).toNat).vars.2 i) then none else some Code.ret)),(.box (lift (mS (e.frames.2 j))))]/\br (!p ((e.frames.get (↑j:Int).toNat).vars.2 i)) (QE (.t []) [r0,r1,r2,r3,r4,r5,r6,r7,r8,r9,e8,e9,(.box (lift (bJ (e)))),fE,(.loop f N sl ps ca cb (bif p ((e.frames.get (↑j:Int).toNat).vars.2 i) then LoopState.ready else LoopState.done) (bif p ((e.frames.get (↑j:Int).toNat).vars.2 i) then none else some Code.ret)),(.box (lift (mS (e.frames.2 j))))]) (L (af 96 4) ⟨[qQ,EE,(12,((.c (.im (.sl 3 e.1.1 (λi=>dD (e.frames.2 i))))),[])),(13,((j6 e),[])),(14,((int (↑j:Int)),[])),(19,((.c (.im (.sl 1 ((e.frames.2 j).3.1) (λi=>bn ((e.frames.get (↑j:Int).toNat).vars.2 i))))),[])),(20,((int ((↑(e.frames.2 j).3.1:Int))),[])),(21,((int (IntKind.i64.wrap ((↑i:Int)+1))),[]))],[r0,r1,r2,r3,r4,r5,r6,r7,r8,r9,e8,e9,(dm e),fE,(.loop f N sl ps ca cb (bif p ((e.frames.get (↑j:Int).toNat).vars.2 i) then LoopState.ready else LoopState.done) (bif p ((e.frames.get (↑j:Int).toNat).vars.2 i) then none else some Code.ret)),(wO e j)],[]⟩)))) (L (af 96 1) ⟨[qQ,EE,(12,((.c (.im (.sl 3 e.1.1 (λi=>dD (e.frames.2 i))))),[])),(13,((j6 e),[])),(14,((int (IntKind.i64.wrap ((↑j:Int)+1))),[]))],[r0,r1,r2,r3,r4,r5,r6,r7,r8,r9,e8,e9,(dm e),fE,(kQ f N sl ps ca cb),(wO e j)],[]⟩)):b5 (NJ p) 96 vk L QE 4 (SY p e r0 r1 r2 r3 r4 r5 r6 r7 r8 r9 e8 e9 fE f N sl ps ca cb j i):=km h
def Ea (p:Int->Bool) (e:aq) (r0 r1 r2 r3 r4 r5 r6 r7 r8 r9 e8 e9 fE:ah) (f N:Nat) (sl:a8) (ps:List Tmp) (ca cb:Code) (j:Nat):VS:=⟨[Fs,(32,(vU e),[]),(33,(jY e),[]),(34,int j,[])],[r0,r1,r2,r3,r4,r5,r6,r7,r8,r9,e8,e9,(dm e),fE,(kQ f N sl ps ca cb)],[]⟩
theorem Ny (h:br (decide ((↑j:Int)<(↑e.2.1:Int))) (nd (bQ (↑j:Int) e.2.1) (L (af 96 13) ⟨[qQ,(32,((vU e),[])),(33,((jY e),[])),(34,((int (↑j:Int)),[])),(39,((.c (.im (.sl 1 ((e.az.2 j).4.1) (λi=>bn ((e.az.get (↑j:Int).toNat).items.2 i))))),[])),(40,((int ((↑(e.az.2 j).4.1:Int))),[])),(41,((int 0),[]))],[r0,r1,r2,r3,r4,r5,r6,r7,r8,r9,e8,e9,(dm e),fE,(kQ f N sl ps ca cb),(qm e j)],[]⟩)) (QE (.t []) [r0,r1,r2,r3,r4,r5,r6,r7,r8,r9,e8,e9,(.box (lift (bJ (e)))),fE,(.loop f N sl ps ca cb .ready none)])):b5 (NJ p) 96 vk L QE 10 (Ea p e r0 r1 r2 r3 r4 r5 r6 r7 r8 r9 e8 e9 fE f N sl ps ca cb j):=km h
def Nr (p:Int->Bool) (e:aq) (r0 r1 r2 r3 r4 r5 r6 r7 r8 r9 e8 e9 fE:ah) (f N:Nat) (sl:a8) (ps:List Tmp) (ca cb:Code) (j i:Nat):VS:=⟨[Fs,(32,(.c (.im (.sl 4 e.2.1 (λi=>ff (e.az.2 i))))),[]),(33,(jY e),[]),(34,int j,[]),(39,(.c (.im (.sl 1 ((e.az.2 j).4.1) (λi=>bn ((e.az.get (↑j:Int).toNat).items.2 i))))),[]),(40,(int ((↑(e.az.2 j).4.1:Int))),[]),(41,int i,[])],[r0,r1,r2,r3,r4,r5,r6,r7,r8,r9,e8,e9,(dm e),fE,(kQ f N sl ps ca cb),(qm e j)],[]⟩
theorem MK (h:br (decide ((↑i:Int)<(↑(e.az.2 j).4.1:Int))) (nd (bQ (↑i:Int) (e.az.2 j).4.1) ((nS nF Tryz.prog 14 [(int ((e.az.get (↑j:Int).toNat).items.2 i))] [r0,r1,r2,r3,r4,r5,r6,r7,r8,r9,e8,e9,(.box (lift (bJ (e)))),fE,(.loop f N sl ps ca cb .ready none),(.box (lift (xm (e.az.2 j))))] (bool (p ((e.az.get (↑j:Int).toNat).items.2 i))) [r0,r1,r2,r3,r4,r5,r6,r7,r8,r9,e8,e9,(.box (lift (bJ (e)))),fE,(.loop f N sl ps ca cb (bif p ((e.az.get (↑j:Int).toNat).items.2 i) then LoopState.ready else LoopState.done) (bif p ((e.az.get (↑j:Int).toNat).items.2 i) then none else some Code.ret)),(.box (lift (xm (e.az.2 j))))]/\br (!p ((e.az.get (↑j:Int).toNat).items.2 i)) (QE (.t []) [r0,r1,r2,r3,r4,r5,r6,r7,r8,r9,e8,e9,(.box (lift (bJ (e)))),fE,(.loop f N sl ps ca cb (bif p ((e.az.get (↑j:Int).toNat).items.2 i) then LoopState.ready else LoopState.done) (bif p ((e.az.get (↑j:Int).toNat).items.2 i) then none else some Code.ret)),(.box (lift (xm (e.az.2 j))))]) (L (af 96 13) ⟨[qQ,(32,((.c (.im (.sl 4 e.2.1 (λi=>ff (e.az.2 i))))),[])),(33,((jY e),[])),(34,((int (↑j:Int)),[])),(39,((.c (.im (.sl 1 ((e.az.2 j).4.1) (λi=>bn ((e.az.get (↑j:Int).toNat).items.2 i))))),[])),(40,((int ((↑(e.az.2 j).4.1:Int))),[])),(41,((int (IntKind.i64.wrap ((↑i:Int)+1))),[]))],[r0,r1,r2,r3,r4,r5,r6,r7,r8,r9,e8,e9,(dm e),fE,(.loop f N sl ps ca cb (bif p ((e.az.get (↑j:Int).toNat).items.2 i) then LoopState.ready else LoopState.done) (bif p ((e.az.get (↑j:Int).toNat).items.2 i) then none else some Code.ret)),(qm e j)],[]⟩)))) (L (af 96 10) ⟨[qQ,(32,((.c (.im (.sl 4 e.2.1 (λi=>ff (e.az.2 i))))),[])),(33,((jY e),[])),(34,((int (IntKind.i64.wrap ((↑j:Int)+1))),[]))],[r0,r1,r2,r3,r4,r5,r6,r7,r8,r9,e8,e9,(dm e),fE,(kQ f N sl ps ca cb),(qm e j)],[]⟩)):b5 (NJ p) 96 vk L QE 13 (Nr p e r0 r1 r2 r3 r4 r5 r6 r7 r8 r9 e8 e9 fE f N sl ps ca cb j i):=km h
theorem ac8 (hy:∀ (n:Int) (x:ah),nS nF Tryz.prog 14 [int n] [r0,r1,r2,r3,r4,r5,r6,r7,r8,r9,e8,e9,.box (lift (bJ e)),fE,.loop f N sl ps ca cb .ready none,x] (bool (p n)) [r0,r1,r2,r3,r4,r5,r6,r7,r8,r9,e8,e9,.box (lift (bJ e)),fE,.loop f N sl ps ca cb (bif p n then .ready else .done) (bif p n then none else some .ret),x]) (hS:fW e) (hw:e6 15 [r0,r1,r2,r3,r4,r5,r6,r7,r8,r9,e8,e9,.box (lift (bJ e)),fE,.loop f N sl ps ca cb .ready none]) (a:Bool) (j:Nat) (hj:j<e.az.n) (end_:cB (λj=>eh (λi=>p ((e.az.get j).items.get i)) (e.az.get j).items.n) (e.az.n-(j+1)) (j+1)=a->ae 96 15 (Go.V.Ends [r0,r1,r2,r3,r4,r5,r6,r7,r8,r9,e8,e9,.box (lift (bJ e)),fE,.loop f N sl ps ca cb .ready none] (.t []) [r0,r1,r2,r3,r4,r5,r6,r7,r8,r9,e8,e9,.box (lift (bJ e)),fE,.loop f N sl ps ca cb (bif a then .ready else .done) (bif a then none else some .ret)]) (af 96 10) (Ea p e r0 r1 r2 r3 r4 r5 r6 r7 r8 r9 e8 e9 fE f N sl ps ca cb (j+1))):∀ i,i<=(e.az.get j).items.n->(cB (λi=>p ((e.az.get j).items.get i)) ((e.az.get j).items.n-i) i&&cB (λj=>eh (λi=>p ((e.az.get j).items.get i)) (e.az.get j).items.n) (e.az.n-(j+1)) (j+1))=a->ae 96 15 (Go.V.Ends [r0,r1,r2,r3,r4,r5,r6,r7,r8,r9,e8,e9,.box (lift (bJ e)),fE,.loop f N sl ps ca cb .ready none] (.t []) [r0,r1,r2,r3,r4,r5,r6,r7,r8,r9,e8,e9,.box (lift (bJ e)),fE,.loop f N sl ps ca cb (bif a then .ready else .done) (bif a then none else some .ret)]) (af 96 13) (Nr p e r0 r1 r2 r3 r4 r5 r6 r7 r8 r9 e8 e9 fE f N sl ps ca cb j i):=by
 have hV:(e.az.get j).items.n<=1000:=hS.items j hj
 have hN:e.az.n<=1000:=hS.az
 refine aN (λi hi ih ha=>?_) (λha=>?_)
 .have q:(e.az.get j).items.n-i=((e.az.get j).items.n-(i+1))+1:=by omega
  rw [q] at ha
  refine aG (X:=NJ p) (stop:=vk) (MK _ _ p e r0 r1 r2 r3 r4 r5 r6 r7 r8 r9 e8 e9 fE f N sl ps ca cb j i ?_)
  rw [b6 hi (cT hV (by decide))]
  refine ag (λh=>?_) (λh=>(dec_lt h hi).elim)
  refine ai (aC hi) ⟨hy _ _,?_⟩
  refine ag (λh1=>?_) (λh1=>?_)
  .have h1:=(Bool.not_eq_true' _).mp h1
   rw [h1]
   rw [cR (p:=(λi=>p ((e.az.get j).items.get i))) h1,Bool.false_and] at ha
   subst ha
   refine ⟨15,aQ rfl,aQ rfl,rfl,rfl,aX.refl _,?_⟩
   repeat' (first|exact trivial|refine ⟨.inl (.inl rfl),?_⟩|refine ⟨.inl (.inr ⟨_,_,_,_,_,_,_,_,_,_,rfl,rfl⟩),?_⟩|done)
  .have h1:=(Bool.not_eq_false' _▸h1:p _=true)
   rw [h1]
   rw [dR (p:=(λi=>p ((e.az.get j).items.get i))) h1] at ha
   exact ih ha
 .rw [Nat.sub_self] at ha
  refine aG (X:=NJ p) (stop:=vk) (MK _ _ p e r0 r1 r2 r3 r4 r5 r6 r7 r8 r9 e8 e9 fE f N sl ps ca cb j _ ?_)
  rw [b6 hj (cT hN (by decide))]
  refine ag (λh=>bq h) (λh=>?_)
  exact ae.cut 15 (bF _) (aQ rfl) rfl rfl hw (end_ (by simpa [cB] using ha))
end
section
variable (p:Int->Bool) (e:aq) (r0 r1 r2 r3 r4 r5 r6 r7 r8 r9 e8 e9 fE:ah) (f N:Nat) (sl:a8) (ps:List Tmp) (ca cb:Code)
theorem af8 (hy:∀ (n:Int) (x:ah),nS nF Tryz.prog 14 [int n] [r0,r1,r2,r3,r4,r5,r6,r7,r8,r9,e8,e9,.box (lift (bJ e)),fE,.loop f N sl ps ca cb .ready none,x] (bool (p n)) [r0,r1,r2,r3,r4,r5,r6,r7,r8,r9,e8,e9,.box (lift (bJ e)),fE,.loop f N sl ps ca cb (bif p n then .ready else .done) (bif p n then none else some .ret),x]) (hS:fW e) (hw:e6 15 [r0,r1,r2,r3,r4,r5,r6,r7,r8,r9,e8,e9,.box (lift (bJ e)),fE,.loop f N sl ps ca cb .ready none]) (a:Bool):∀ j,j<=e.az.n->(cB (λj=>eh (λi=>p ((e.az.get j).items.get i)) (e.az.get j).items.n) (e.az.n-j) j)=a->ae 96 15 (Go.V.Ends [r0,r1,r2,r3,r4,r5,r6,r7,r8,r9,e8,e9,.box (lift (bJ e)),fE,.loop f N sl ps ca cb .ready none] (.t []) [r0,r1,r2,r3,r4,r5,r6,r7,r8,r9,e8,e9,.box (lift (bJ e)),fE,.loop f N sl ps ca cb (bif a then .ready else .done) (bif a then none else some .ret)]) (af 96 10) (Ea p e r0 r1 r2 r3 r4 r5 r6 r7 r8 r9 e8 e9 fE f N sl ps ca cb j):=by
 have hN:e.az.n<=1000:=hS.az
 refine aN (λj hj ih ha=>?_) (λha=>?_)
 .have q:e.az.n-j=(e.az.n-(j+1))+1:=by omega
  rw [q] at ha
  refine aG (X:=NJ p) (stop:=vk) (Ny _ _ p e r0 r1 r2 r3 r4 r5 r6 r7 r8 r9 e8 e9 fE f N sl ps ca cb j ?_)
  refine ag (λh=>?_) (λh=>(dec_lt h hj).elim)
  refine ai (aC hj) ?_
  refine ac8 p e r0 r1 r2 r3 r4 r5 r6 r7 r8 r9 e8 e9 fE f N sl ps ca cb hy hS hw a j hj (λq=>ih q) 0 (bk _) ?_
  grind [cB,eh]
 .rw [Nat.sub_self] at ha
  refine aG (X:=NJ p) (stop:=vk) (Ny _ _ p e r0 r1 r2 r3 r4 r5 r6 r7 r8 r9 e8 e9 fE f N sl ps ca cb _ ?_)
  refine ag (λh=>bq h) (λh=>?_)
  have ha:true=a:=ha
  subst ha
  refine ⟨15,aQ rfl,aQ rfl,rfl,rfl,aX.refl _,?_⟩
  repeat' (first|exact trivial|refine ⟨.inl (.inl rfl),?_⟩|refine ⟨.inl (.inr ⟨_,_,_,_,_,_,_,_,_,_,rfl,rfl⟩),?_⟩|done)
theorem aA6 (hy:∀ (n:Int) (x:ah),nS nF Tryz.prog 14 [int n] [r0,r1,r2,r3,r4,r5,r6,r7,r8,r9,e8,e9,.box (lift (bJ e)),fE,.loop f N sl ps ca cb .ready none,x] (bool (p n)) [r0,r1,r2,r3,r4,r5,r6,r7,r8,r9,e8,e9,.box (lift (bJ e)),fE,.loop f N sl ps ca cb (bif p n then .ready else .done) (bif p n then none else some .ret),x]) (hS:fW e) (hw:e6 15 [r0,r1,r2,r3,r4,r5,r6,r7,r8,r9,e8,e9,.box (lift (bJ e)),fE,.loop f N sl ps ca cb .ready none]) (a:Bool) (j:Nat) (hj:j<e.frames.n) (end_:(cB (λj=>eh (λi=>p ((e.frames.get j).vars.get i)) (e.frames.get j).vars.n) (e.frames.n-(j+1)) (j+1)&&eh (λj=>eh (λi=>p ((e.az.get j).items.get i)) (e.az.get j).items.n) e.az.n)=a->ae 96 15 (Go.V.Ends [r0,r1,r2,r3,r4,r5,r6,r7,r8,r9,e8,e9,.box (lift (bJ e)),fE,.loop f N sl ps ca cb .ready none] (.t []) [r0,r1,r2,r3,r4,r5,r6,r7,r8,r9,e8,e9,.box (lift (bJ e)),fE,.loop f N sl ps ca cb (bif a then .ready else .done) (bif a then none else some .ret)]) (af 96 1) (Ml p e r0 r1 r2 r3 r4 r5 r6 r7 r8 r9 e8 e9 fE f N sl ps ca cb (j+1))):∀ i,i<=(e.frames.get j).vars.n->(cB (λi=>p ((e.frames.get j).vars.get i)) ((e.frames.get j).vars.n-i) i&&(cB (λj=>eh (λi=>p ((e.frames.get j).vars.get i)) (e.frames.get j).vars.n) (e.frames.n-(j+1)) (j+1)&&eh (λj=>eh (λi=>p ((e.az.get j).items.get i)) (e.az.get j).items.n) e.az.n))=a->ae 96 15 (Go.V.Ends [r0,r1,r2,r3,r4,r5,r6,r7,r8,r9,e8,e9,.box (lift (bJ e)),fE,.loop f N sl ps ca cb .ready none] (.t []) [r0,r1,r2,r3,r4,r5,r6,r7,r8,r9,e8,e9,.box (lift (bJ e)),fE,.loop f N sl ps ca cb (bif a then .ready else .done) (bif a then none else some .ret)]) (af 96 4) (SY p e r0 r1 r2 r3 r4 r5 r6 r7 r8 r9 e8 e9 fE f N sl ps ca cb j i):=by
 have hV:(e.frames.get j).vars.n<=1000:=hS.vars j hj
 have hN:e.frames.n<=1000:=hS.frames
 refine aN (λi hi ih ha=>?_) (λha=>?_)
 .have q:(e.frames.get j).vars.n-i=((e.frames.get j).vars.n-(i+1))+1:=by omega
  rw [q] at ha
  refine aG (X:=NJ p) (stop:=vk) (TY _ _ p e r0 r1 r2 r3 r4 r5 r6 r7 r8 r9 e8 e9 fE f N sl ps ca cb j i ?_)
  rw [b6 hi (cT hV (by decide))]
  refine ag (λh=>?_) (λh=>(dec_lt h hi).elim)
  refine ai (aC hi) ⟨hy _ _,?_⟩
  refine ag (λh1=>?_) (λh1=>?_)
  .have h1:=(Bool.not_eq_true' _).mp h1
   rw [h1]
   rw [cR (p:=(λi=>p ((e.frames.get j).vars.get i))) h1,Bool.false_and] at ha
   subst ha
   refine ⟨15,aQ rfl,aQ rfl,rfl,rfl,aX.refl _,?_⟩
   repeat' (first|exact trivial|refine ⟨.inl (.inl rfl),?_⟩|refine ⟨.inl (.inr ⟨_,_,_,_,_,_,_,_,_,_,rfl,rfl⟩),?_⟩|done)
  .have h1:=(Bool.not_eq_false' _▸h1:p _=true)
   rw [h1]
   rw [dR (p:=(λi=>p ((e.frames.get j).vars.get i))) h1] at ha
   exact ih ha
 .rw [Nat.sub_self] at ha
  refine aG (X:=NJ p) (stop:=vk) (TY _ _ p e r0 r1 r2 r3 r4 r5 r6 r7 r8 r9 e8 e9 fE f N sl ps ca cb j _ ?_)
  rw [b6 hj (cT hN (by decide))]
  refine ag (λh=>bq h) (λh=>?_)
  exact ae.cut 15 (bF _) (aQ rfl) rfl rfl hw (end_ (by simpa [cB] using ha))
theorem az8 (hy:∀ (n:Int) (x:ah),nS nF Tryz.prog 14 [int n] [r0,r1,r2,r3,r4,r5,r6,r7,r8,r9,e8,e9,.box (lift (bJ e)),fE,.loop f N sl ps ca cb .ready none,x] (bool (p n)) [r0,r1,r2,r3,r4,r5,r6,r7,r8,r9,e8,e9,.box (lift (bJ e)),fE,.loop f N sl ps ca cb (bif p n then .ready else .done) (bif p n then none else some .ret),x]) (hS:fW e) (hw:e6 15 [r0,r1,r2,r3,r4,r5,r6,r7,r8,r9,e8,e9,.box (lift (bJ e)),fE,.loop f N sl ps ca cb .ready none]) (a:Bool):∀ j,j<=e.frames.n->(cB (λj=>eh (λi=>p ((e.frames.get j).vars.get i)) (e.frames.get j).vars.n) (e.frames.n-j) j&&eh (λj=>eh (λi=>p ((e.az.get j).items.get i)) (e.az.get j).items.n) e.az.n)=a->ae 96 15 (Go.V.Ends [r0,r1,r2,r3,r4,r5,r6,r7,r8,r9,e8,e9,.box (lift (bJ e)),fE,.loop f N sl ps ca cb .ready none] (.t []) [r0,r1,r2,r3,r4,r5,r6,r7,r8,r9,e8,e9,.box (lift (bJ e)),fE,.loop f N sl ps ca cb (bif a then .ready else .done) (bif a then none else some .ret)]) (af 96 1) (Ml p e r0 r1 r2 r3 r4 r5 r6 r7 r8 r9 e8 e9 fE f N sl ps ca cb j):=by
 have hN:e.frames.n<=1000:=hS.frames
 refine aN (λj hj ih ha=>?_) (λha=>?_)
 .have q:e.frames.n-j=(e.frames.n-(j+1))+1:=by omega
  rw [q] at ha
  refine aG (X:=NJ p) (stop:=vk) (RI _ _ p e r0 r1 r2 r3 r4 r5 r6 r7 r8 r9 e8 e9 fE f N sl ps ca cb j ?_)
  refine ag (λh=>?_) (λh=>(dec_lt h hj).elim)
  refine ai (aC hj) ?_
  refine aA6 p e r0 r1 r2 r3 r4 r5 r6 r7 r8 r9 e8 e9 fE f N sl ps ca cb hy hS hw a j hj (λq=>ih q) 0 (bk _) ?_
  grind [cB,eh]
 .rw [Nat.sub_self] at ha
  refine aG (X:=NJ p) (stop:=vk) (RI _ _ p e r0 r1 r2 r3 r4 r5 r6 r7 r8 r9 e8 e9 fE f N sl ps ca cb _ ?_)
  refine ag (λh=>bq h) (λh=>?_)
  exact af8 p e r0 r1 r2 r3 r4 r5 r6 r7 r8 r9 e8 e9 fE f N sl ps ca cb hy hS hw a 0 (bk _) (by simpa [cB,eh] using ha)
theorem bd7 (hy:∀ (n:Int) (x:ah),nS nF Tryz.prog 14 [int n] [r0,r1,r2,r3,r4,r5,r6,r7,r8,r9,e8,e9,.box (lift (bJ e)),fE,.loop f N sl ps ca cb .ready none,x] (bool (p n)) [r0,r1,r2,r3,r4,r5,r6,r7,r8,r9,e8,e9,.box (lift (bJ e)),fE,.loop f N sl ps ca cb (bif p n then .ready else .done) (bif p n then none else some .ret),x]) (hS:fW e) (hw:e6 15 [r0,r1,r2,r3,r4,r5,r6,r7,r8,r9,e8,e9,.box (lift (bJ e)),fE,.loop f N sl ps ca cb .ready none]):LC 96 [.c (.yl 14),.c (.rt 12 0 0)] [r0,r1,r2,r3,r4,r5,r6,r7,r8,r9,e8,e9,.box (lift (bJ e)),fE,.loop f N sl ps ca cb .ready none] (.t []) [r0,r1,r2,r3,r4,r5,r6,r7,r8,r9,e8,e9,.box (lift (bJ e)),fE,.loop f N sl ps ca cb (bif allM p e then .ready else .done) (bif allM p e then none else some .ret)]:=
 iW bv1 (aQ (by kernel_rfl)) (cY (X:=NJ p) (stop:=vk) (bu9 _ _ p e r0 r1 r2 r3 r4 r5 r6 r7 r8 r9 e8 e9 fE f N sl ps ca cb (az8 p e r0 r1 r2 r3 r4 r5 r6 r7 r8 r9 e8 e9 fE f N sl ps ca cb hy hS hw (allM p e) 0 (bk _) (by unfold allM eh; rfl))))
end
open Go Go.V
def JQ:a8:=[(3,.c (.rt 6 0 0),[]),(5,.c (.rt 8 0 0),[]),(6,.c (.rt 9 0 0),[]),(7,.c (.rt 11 0 0),[]),(110,.c (.fL 96 [12]),[])]
def Xe (p:Bool):eU:={ F:=F8,S:=[14],B:=λ_ _ _=>p,R1:=λ_ _ _=>(.t [],[],[]),R2:=λ_ ds rs=>(.t [],[(14,GU false (bh rs 14))],[]) }
def kO (t:ak) (k:Int) (v:List Int) (n:Int):Bool:=n == -1||(eF t n k && !((t.ins.get n.toNat).op==17 && !fe n v))
def nk (x:Sq cZ):Nat->List Int
 | 0=>[]
 | j+1=>vi (x.get j).value (nk x j)
section
variable (aj:D->List ah->Prop) (L:LP) (QE:D->List ah->Prop) (p:Bool) (ax:ah) (t:ak) (aJ:ah) (e:aq) (aZ:ah) (k n:Int) (bR r0 cW r1 de r2:ah) (nB:ak) (r3:ah) (BD:aq) (r4:ah) (Mv:Int) (r5:ah) (Rz v:List Int) (j Ja:Nat)
def OO:Bool := !(!eF t (e.az.get j).value k||(fe (e.az.get j).value (nk e.az j)||((((e.az.get j).items.n:Int)!=((e.az.get j).names.n:Int))||(((t.ins.get (e.az.get j).value.toNat).op != 17)||(((t.ins.get (e.az.get j).value.toNat).n != (e.az.get j).cls) || !cz lg (t.ins.get (e.az.get j).value.toNat).names (e.az.get j).names)))))
def lK:Bool := !(decide ((e.frames.n:Int)<1)||(decide ((e.frames.n:Int)>6)||decide (e.back<0)))&&(eh (OO t e k) e.az.n&&(eh (λj=>Gr (e.frames.get j)) e.frames.n&&allM (kO t k (nk e.az e.az.n)) e))
def B4:Nat->Bool:=λi=>Nat.beq i 5||Nat.beq i 15||Nat.beq i 20
theorem by1:Fn 93:={}
abbrev Ke:Prop:=aj (bool false) [ax,aJ,aZ,bR,cW,de,(.box (hX (nB) 1)),(.box (lift (bJ (BD)))),(.box [(ci Mv)]),(.box [(.im (.v (.bool false)))])]
abbrev zN:eQ:=(3,((.c (.rt 6 0 0)),[]))
abbrev zX:eQ:=(4,((.c (.rt 7 0 0)),[]))
abbrev Ay:eQ:=(5,((.c (.rt 8 0 0)),[]))
abbrev Aq:eQ:=(6,((.c (.rt 9 0 0)),[]))
abbrev Ae:eQ:=(7,((.c (.rt 11 0 0)),[]))
abbrev eX (aj:ak):ah:=.box (hX (aj) 1)
abbrev ea:C:=.im (.v (.bool false))
theorem br8 (h:br (decide ((↑e.1.1:Int)<1)) (Ke QE r0 r1 r2 r3 r4 r5 t e k) (br (decide ((↑e.1.1:Int)>6)) (Ke QE r0 r1 r2 r3 r4 r5 t e k) (br (decide (e.3<0)) (Ke QE r0 r1 r2 r3 r4 r5 t e k) (L (af 93 5) ⟨[zN,zX,Ay,Aq,Ae,(31,((vU e),[])),(32,((jY e),[])),(33,((int 0),[]))],[r0,r1,r2,r3,r4,r5,(eX t),(dm e),(.box [(ci k)]),(.box [ea]),(.set []),(.box [(.mp 10)])],[]⟩)))):ep (Xe p) 93 B4 L QE [BR t 1,qd e,int k] [r0,r1,r2,r3,r4,r5]:=km h
def KN (p:Bool) (t:ak) (e:aq) (k:Int) (r0 r1 r2 r3 r4 r5:ah) (v:List Int) (j:Nat):VS:=⟨[(3,(.c (.rt 6 0 0)),[]),(4,(.c (.rt 7 0 0)),[]),(5,(.c (.rt 8 0 0)),[]),(6,(.c (.rt 9 0 0)),[]),(7,(.c (.rt 11 0 0)),[]),(31,(vU e),[]),(32,(jY e),[]),(33,int j,[])],[r0,r1,r2,r3,r4,r5,(eX t),(dm e),(.box [(ci k)]),(.box [ea]),.set v,(.box [(.mp 10)])],[]⟩
abbrev Kw:Prop:=aj (bool false) [ax,aJ,aZ,bR,cW,de,(.box (hX (nB) 1)),(.box (lift (bJ (BD)))),(.box [(ci Mv)]),(.box [(.im (.v (.bool false)))]),(.set Rz),(.box [(.mp 10)]),(.box (lift (xm (BD.az.2 Ja))))]
abbrev LK:Prop:=aj (bool false) [ax,aJ,aZ,bR,cW,de,(.box (hX (nB) 1)),(.box (lift (bJ (BD)))),(.box [(ci Mv)]),(.box [(.im (.v (.bool false)))]),(.set Rz),(.box [(.mp 10)]),(.box (lift (xm (BD.az.2 Ja)))),(.box (lift (bW (nB.ins.2 (BD.az.2 Ja).1.toNat))))]
theorem Uo (h:br (decide ((↑j:Int)<(↑e.2.1:Int))) (nd (bQ (↑j:Int) e.2.1) ((LC 92 [(.a (hX (t) 1)),(int ((e.az.2 j).1)),(int k)] [r0,r1,r2,r3,r4,r5,(eX t),(dm e),(.box [(ci k)]),(.box [ea]),(.set v),(.box [(.mp 10)]),(qm e j)] (bool (eF t (e.az.2 j).1 k)) [r0,r1,r2,r3,r4,r5,(eX t),(dm e),(.box [(ci k)]),(.box [ea]),(.set v),(.box [(.mp 10)]),(qm e j)]/\br (!eF t (e.az.2 j).1 k) (Kw QE r0 r1 r2 r3 r4 r5 t e k v j) (br (fe (e.az.2 j).1 v) (Kw QE r0 r1 r2 r3 r4 r5 t e k v j) (br ((↑(e.az.2 j).4.1:Int)!=(↑(e.az.2 j).3.1:Int)) (Kw QE r0 r1 r2 r3 r4 r5 t e k v j) (nd (bQ (e.az.2 j).1 t.2.1) (br ((t.ins.2 (e.az.2 j).1.toNat).1 != 17) (LK QE r0 r1 r2 r3 r4 r5 t e k v j) (br ((t.ins.2 (e.az.2 j).1.toNat).5 != (e.az.2 j).2) (LK QE r0 r1 r2 r3 r4 r5 t e k v j) ((LC 72 [(TX t e j),(QW e j)] [] (bool (cz lg (t.ins.2 (e.az.2 j).1.toNat).8 (e.az.2 j).3)) []/\br (!cz lg (t.ins.2 (e.az.2 j).1.toNat).8 (e.az.2 j).3) (LK QE r0 r1 r2 r3 r4 r5 t e k v j) (L (af 93 5) ⟨[zN,zX,Ay,Aq,Ae,(31,((vU e),[])),(32,((jY e),[])),(33,((int (IntKind.i64.wrap ((↑j:Int)+1))),[]))],[r0,r1,r2,r3,r4,r5,(eX t),(dm e),(.box [(ci k)]),(.box [ea]),(.set (vi (e.az.2 j).1 v)),(.box [(.mp 10)]),(qm e j),(.box (lift (bW (t.ins.2 (e.az.2 j).1.toNat))))],[]⟩))))))))))) (L (af 93 15) ⟨[zN,zX,Ay,Aq,Ae,(88,((tl e),[])),(89,((j6 e),[])),(90,((int 0),[]))],[r0,r1,r2,r3,r4,r5,(eX t),(dm e),(.box [(ci k)]),(.box [ea]),(.set v),(.box [(.mp 10)])],[]⟩)):b5 (Xe p) 93 B4 L QE 5 (KN p t e k r0 r1 r2 r3 r4 r5 v j):=km h
def FM (p:Bool) (t:ak) (e:aq) (k:Int) (r0 r1 r2 r3 r4 r5:ah) (v:List Int) (j:Nat):VS:=⟨[(3,(.c (.rt 6 0 0)),[]),(4,(.c (.rt 7 0 0)),[]),(5,(.c (.rt 8 0 0)),[]),(6,(.c (.rt 9 0 0)),[]),(7,(.c (.rt 11 0 0)),[]),(88,(tl e),[]),(89,(j6 e),[]),(90,int j,[])],[r0,r1,r2,r3,r4,r5,(eX t),(dm e),(.box [(ci k)]),(.box [ea]),.set v,(.box [(.mp 10)])],[]⟩
abbrev J6:Prop:=aj (bool false) [ax,aJ,aZ,bR,cW,de,(.box (hX (nB) 1)),(.box (lift (bJ (BD)))),(.box [(ci Mv)]),(.box [(.im (.v (.bool false)))]),(.set Rz),(.box [(.mp 10)]),(.box (lift (mS (BD.frames.2 Ja))))]
theorem MD (h:br (decide ((↑j:Int)<(↑e.1.1:Int))) (nd (bQ (↑j:Int) e.1.1) (br (decide ((e.frames.2 j).1<0)) (J6 QE r0 r1 r2 r3 r4 r5 t e k v j) (br (decide ((e.frames.2 j).2<0)) (J6 QE r0 r1 r2 r3 r4 r5 t e k v j) (br (decide ((↑(e.frames.2 j).3.1:Int)>24)) (J6 QE r0 r1 r2 r3 r4 r5 t e k v j) (L (af 93 15) ⟨[zN,zX,Ay,Aq,Ae,(88,((tl e),[])),(89,((j6 e),[])),(90,((int (IntKind.i64.wrap ((↑j:Int)+1))),[]))],[r0,r1,r2,r3,r4,r5,(eX t),(dm e),(.box [(ci k)]),(.box [ea]),(.set v),(.box [(.mp 10)]),(wO e j)],[]⟩))))) (L (af 93 20) ⟨[zN,zX,Ay,Aq,Ae,(88,((tl e),[])),(89,((j6 e),[])),(90,((int (↑j:Int)),[])),(91,((bool false),[]))],[r0,r1,r2,r3,r4,r5,(eX t),(dm e),(.box [(ci k)]),(.box [ea]),(.set v),(.box [(.mp 10)])],[]⟩)):b5 (Xe p) 93 B4 L QE 15 (FM p t e k r0 r1 r2 r3 r4 r5 v j):=km h
def D7 (p:Bool) (t:ak) (e:aq) (k:Int) (r0 r1 r2 r3 r4 r5:ah) (v:List Int):VS:=⟨[(3,(.c (.rt 6 0 0)),[]),(4,(.c (.rt 7 0 0)),[]),(5,(.c (.rt 8 0 0)),[]),(6,(.c (.rt 9 0 0)),[]),(7,(.c (.rt 11 0 0)),[])],[r0,r1,r2,r3,r4,r5,(eX t),(dm e),(.box [(ci k)]),(.box [ea]),.set v,(.box [(.mp 10)])],[]⟩
abbrev Wq (aj ax aJ aZ bR cW:ah) (de:ak) (nB:aq) (BD:Int) (Mv:List Int):List ah:=[aj,ax,aJ,aZ,bR,cW,(eX de),(dm nB),(.box [(ci BD)]),(.box [ea]),(.set Mv),(.box [(.mp 10)]),(dm nB),.mi,(.loop 93 137 [(3,((.c (.rt 6 0 0)),[])),(5,((.c (.rt 8 0 0)),[])),(6,((.c (.rt 9 0 0)),[])),(7,((.c (.rt 11 0 0)),[])),(110,((.c (.fL 96 [12])),[]))] [111] (sg 93) (sB 93) .ready none)]
theorem ZE (h:(LC 56 [(.a (lift (bJ (e))))] [r0,r1,r2,r3,r4,r5,(eX t),(dm e),(.box [(ci k)]),(.box [ea]),(.set v),(.box [(.mp 10)])] (.c (.fL 96 [12])) [r0,r1,r2,r3,r4,r5,(eX t),(dm e),(.box [(ci k)]),(.box [ea]),(.set v),(.box [(.mp 10)]),(dm e)]/\br (p) ((LC 96 [(.c (.yl 14)),(.c (.rt 12 0 0))] (Wq r0 r1 r2 r3 r4 r5 t e k v) (.t []) (Wq r0 r1 r2 r3 r4 r5 t e k v)/\QE (bool true) [r0,r1,r2,r3,r4,r5,(.box (hX (t) 1)),(.box (lift (bJ (e)))),(.box [(ci k)]),(.box [(.im (.v (.bool true)))]),(.set v),(.box [(.mp 10)]),(.box (lift (bJ (e)))),.dead,.dead])) ((LC 96 [(.c (.yl 14)),(.c (.rt 12 0 0))] (Wq r0 r1 r2 r3 r4 r5 t e k v) (.t []) [r0,r1,r2,r3,r4,r5,(eX t),(dm e),(.box [(ci k)]),(.box [ea]),(.set v),(.box [(.mp 10)]),(dm e),.mi,(.loop 93 137 [(3,((.c (.rt 6 0 0)),[])),(5,((.c (.rt 8 0 0)),[])),(6,((.c (.rt 9 0 0)),[])),(7,((.c (.rt 11 0 0)),[])),(110,((.c (.fL 96 [12])),[]))] [111] (sg 93) (sB 93) .done (some .ret))]/\QE (bool false) [r0,r1,r2,r3,r4,r5,(.box (hX (t) 1)),(.box (lift (bJ (e)))),(.box [(ci k)]),(.box [(.im (.v (.bool false)))]),(.set v),(.box [(.mp 10)]),(.box (lift (bJ (e)))),.dead,.dead])))):b5 (Xe p) 93 B4 L QE 20 (D7 p t e k r0 r1 r2 r3 r4 r5 v):=km h
abbrev VW:ah:=.loop 93 137 [(3,((.c (.rt 6 0 0)),[])),(5,((.c (.rt 8 0 0)),[])),(6,((.c (.rt 9 0 0)),[])),(7,((.c (.rt 11 0 0)),[])),(110,((.c (.fL 96 [12])),[]))] [111] (sg 93) (sB 93) .busy none
abbrev Rq (Ja:ah):Prop:=aj (bool false) [ax,aJ,aZ,bR,cW,de,(.box (hX (nB) 1)),(.box (lift (bJ (BD)))),(.box [(ci Mv)]),(.box [(.im (.v (.bool false)))]),(.set Rz),(.box [(.mp 10)]),(.box (lift (bJ (BD)))),.mi,(.loop 93 137 [(3,((.c (.rt 6 0 0)),[])),(5,((.c (.rt 8 0 0)),[])),(6,((.c (.rt 9 0 0)),[])),(7,((.c (.rt 11 0 0)),[])),(110,((.c (.fL 96 [12])),[]))] [111] (sg 93) (sB 93) .done (some .ret)),Ja]
abbrev WN (Ja:ah):Prop:=aj (bool true) [ax,aJ,aZ,bR,cW,de,(.box (hX (nB) 1)),(.box (lift (bJ (BD)))),(.box [(ci Mv)]),(.box [(.im (.v (.bool false)))]),(.set Rz),(.box [(.mp 10)]),(.box (lift (bJ (BD)))),.mi,(.loop 93 137 [(3,((.c (.rt 6 0 0)),[])),(5,((.c (.rt 8 0 0)),[])),(6,((.c (.rt 9 0 0)),[])),(7,((.c (.rt 11 0 0)),[])),(110,((.c (.fL 96 [12])),[]))] [111] (sg 93) (sB 93) .ready none),Ja]
theorem ba8 (r0 r1 r2 r3 r4 r5:ah) (x:ah) (h:br (n != -1) ((LC 92 [(.a (hX (t) 1)),(int n),(int k)] [r0,r1,r2,r3,r4,r5,(eX t),(dm e),(.box [(ci k)]),(.box [ea]),(.set v),(.box [(.mp 10)]),(dm e),.mi,VW,x] (bool (eF t n k)) [r0,r1,r2,r3,r4,r5,(eX t),(dm e),(.box [(ci k)]),(.box [ea]),(.set v),(.box [(.mp 10)]),(dm e),.mi,VW,x]/\br (!eF t n k) (Rq QE r0 r1 r2 r3 r4 r5 t e k v x) (nd (bQ n t.2.1) (br ((t.ins.2 n.toNat).1==17) (br (!fe n v) (Rq QE r0 r1 r2 r3 r4 r5 t e k v x) (WN QE r0 r1 r2 r3 r4 r5 t e k v x)) (WN QE r0 r1 r2 r3 r4 r5 t e k v x))))) (WN QE r0 r1 r2 r3 r4 r5 t e k v x)):vcY X8 93 14 QE ((111,int n,[])::JQ) [r0,r1,r2,r3,r4,r5,.box (hX t 1),.box (lift (bJ e)),.box [.im (iI k)],.box [.im (iB false)],.set v,.box [.mp 10],.box (lift (bJ e)),.mi,.loop 93 137 JQ [111] (sg 93) (sB 93) .ready none,x]:=km h
theorem y93 (r0 r1 r2 r3 r4 r5:ah) (x:ah) (hk:k<=t.ins.n):nS nF Tryz.prog 14 [int n] [r0,r1,r2,r3,r4,r5,.box (hX t 1),.box (lift (bJ e)),.box [.im (iI k)],.box [.im (iB false)],.set v,.box [.mp 10],.box (lift (bJ e)),.mi,.loop 93 137 JQ [111] (sg 93) (sB 93) .ready none,x] (bool (kO t k v n)) [r0,r1,r2,r3,r4,r5,.box (hX t 1),.box (lift (bJ e)),.box [.im (iI k)],.box [.im (iB false)],.set v,.box [.mp 10],.box (lift (bJ e)),.mi,.loop 93 137 JQ [111] (sg 93) (sB 93) (bif kO t k v n then .ready else .done) (bif kO t k v n then none else some .ret),x]:=by
 refine an9 (X:=X8) (f:=93) (yF:=JQ) (CE:=(111,int n,[])::JQ) (ps:=[111]) (by kernel_rfl) (by kernel_rfl) (ba8 _ t e k n v r0 r1 r2 r3 r4 r5 x ?_)
 refine ag (λh=>?_) (λh=>?_)
 .have h:(n == -1)=false:=(Bool.not_eq_true' _).mp h
  refine ⟨VI _ _ _ _ _ _ _ _ _ _ _ _ _ _ _ _ _ _ _ hk,?_⟩
  refine ag (λh1=>?_) (λh1=>ai (po (by simpa using h1) hk) ?_)
  .have e1:kO t k v n=false:=by grind [kO]
   rw [e1]
   exact ⟨16,aQ rfl,aQ rfl,rfl,rfl,aX.refl _,by repeat' (first|exact trivial|refine ⟨.inl (.inl rfl),?_⟩|refine ⟨.inl (.inr ⟨_,_,_,_,_,_,_,_,_,_,rfl,rfl⟩),?_⟩|done)⟩
  .have h1:eF t n k=true:=by simpa using h1
   refine ag (λh2=>ag (λh3=>?_) (λh3=>?_)) (λh2=>?_)
   .have e1:kO t k v n=false:=by grind [kO]
    rw [e1]
    exact ⟨16,aQ rfl,aQ rfl,rfl,rfl,aX.refl _,by repeat' (first|exact trivial|refine ⟨.inl (.inl rfl),?_⟩|refine ⟨.inl (.inr ⟨_,_,_,_,_,_,_,_,_,_,rfl,rfl⟩),?_⟩|done)⟩
   .have e1:kO t k v n=true:=by grind [kO]
    rw [e1]
    exact ⟨16,aQ rfl,aQ rfl,rfl,rfl,aX.refl _,by repeat' (first|exact trivial|refine ⟨.inl (.inl rfl),?_⟩|refine ⟨.inl (.inr ⟨_,_,_,_,_,_,_,_,_,_,rfl,rfl⟩),?_⟩|done)⟩
   .have e1:kO t k v n=true:=by grind [kO]
    rw [e1]
    exact ⟨16,aQ rfl,aQ rfl,rfl,rfl,aX.refl _,by repeat' (first|exact trivial|refine ⟨.inl (.inl rfl),?_⟩|refine ⟨.inl (.inr ⟨_,_,_,_,_,_,_,_,_,_,rfl,rfl⟩),?_⟩|done)⟩
 .have h:(n == -1)=true:=(Bool.not_eq_false' _▸h:(n == -1)=true)
  have e1:kO t k v n=true:=by grind [kO]
  rw [e1]
  exact ⟨16,aQ rfl,aQ rfl,rfl,rfl,aX.refl _,by repeat' (first|exact trivial|refine ⟨.inl (.inl rfl),?_⟩|refine ⟨.inl (.inr ⟨_,_,_,_,_,_,_,_,_,_,rfl,rfl⟩),?_⟩|done)⟩
theorem YA (hk:k<=t.ins.n) (hS:fW e) (hw:e6 6 [r0,r1,r2,r3,r4,r5]) (v:List Int) (a:Bool) (hp:p=allM (kO t k v) e) (ha:p=a):ae 93 6 (Go.V.Ends [r0,r1,r2,r3,r4,r5] (bool a) [r0,r1,r2,r3,r4,r5]) (af 93 20) (D7 p t e k r0 r1 r2 r3 r4 r5 v):=by
 have c:=bd7 (kO t k v) e (r0) (r1) (r2) (r3) (r4) (r5) (.box (hX t 1)) (.box (lift (bJ e))) (.box [.im (iI k)]) (.box [.im (iB false)]) (.set v) (.box [.mp 10]) (.mi) 93 137 JQ [111] (sg 93) (sB 93) (λn x=>y93 t e k n v r0 r1 r2 r3 r4 r5 x hk) hS ⟨(hw.1).mono (by decide),(hw.2.1).mono (by decide),(hw.2.2.1).mono (by decide),(hw.2.2.2.1).mono (by decide),(hw.2.2.2.2.1).mono (by decide),(hw.2.2.2.2.2.1).mono (by decide),.inl rfl,.inl rfl,.inl rfl,.inl rfl,.inl rfl,.inl rfl,.inl rfl,.inl rfl,uW rfl,trivial⟩
 refine aG (X:=Xe p) (stop:=B4) (ZE _ _ p t e k r0 r1 r2 r3 r4 r5 v ⟨aO6 _ _ _ _ _ _ _ _ _ _ _ _ _,?_⟩)
 rw [<- hp] at c
 refine ag (λh=>⟨?_,?_⟩) (λh=>⟨?_,?_⟩)
 .rw [h] at c; exact c
 .rw [<- ha,h]; exact ⟨6,aQ rfl,aQ rfl,rfl,rfl,aX.refl _,bG _ _⟩
 .rw [h] at c; exact c
 .rw [<- ha,h]; exact ⟨6,aQ rfl,aQ rfl,rfl,rfl,aX.refl _,bG _ _⟩
theorem Z2 (hk:k<=t.ins.n) (hS:fW e) (hw:e6 6 [r0,r1,r2,r3,r4,r5]) (v:List Int) (a:Bool) (hN:e.frames.n<=6) (hp:p=allM (kO t k v) e):∀ j,j<=e.frames.n->(cB (λj=>Gr (e.frames.get j)) (e.frames.n-j) j&&p)=a->ae 93 6 (Go.V.Ends [r0,r1,r2,r3,r4,r5] (bool a) [r0,r1,r2,r3,r4,r5]) (af 93 15) (FM p t e k r0 r1 r2 r3 r4 r5 v j):=by
 refine aN (λj hj ih ha=>?_) (λha=>?_)
 .have q:e.frames.n-j=(e.frames.n-(j+1))+1:=by omega
  rw [q] at ha
  have no:Gr (e.frames.get j)=false->a=false:=λq=>by grind [cR]
  have go:Gr (e.frames.get j)=true->ae 93 6 (Go.V.Ends [r0,r1,r2,r3,r4,r5] (bool a) [r0,r1,r2,r3,r4,r5]) (af 93 15) (FM p t e k r0 r1 r2 r3 r4 r5 v (j+1)):=λq=>by grind [dR]
  refine aG (X:=Xe p) (stop:=B4) (MD _ _ p t e k r0 r1 r2 r3 r4 r5 v j ?_)
  rw [b6 hj (cT hN (by decide))]
  refine ag (λh=>?_) (λh=>(dec_lt h hj).elim)
  refine ai (aC hj) ?_
  refine ag (λh1=>?_) (λh1=>ag (λh2=>?_) (λh2=>ag (λh3=>?_) (λh3=>?_)))
  .rw [no (by grind [Gr])]; exact ⟨6,aQ rfl,aQ rfl,rfl,rfl,aX.refl _,bG _ _⟩
  .rw [no (by grind [Gr])]; exact ⟨6,aQ rfl,aQ rfl,rfl,rfl,aX.refl _,bG _ _⟩
  .rw [no (by grind [Gr])]; exact ⟨6,aQ rfl,aQ rfl,rfl,rfl,aX.refl _,bG _ _⟩
  .refine ae.cut 12 (aQ rfl) (aQ rfl) rfl rfl ⟨(hw.1).mono (by decide),(hw.2.1).mono (by decide),(hw.2.2.1).mono (by decide),(hw.2.2.2.1).mono (by decide),(hw.2.2.2.2.1).mono (by decide),(hw.2.2.2.2.2.1).mono (by decide),.inl rfl,.inl rfl,.inl rfl,.inl rfl,.inl rfl,.inl rfl,trivial⟩ (go ?_)
   grind [Gr]
 .rw [Nat.sub_self] at ha
  refine aG (X:=Xe p) (stop:=B4) (MD _ _ p t e k r0 r1 r2 r3 r4 r5 v _ ?_)
  refine ag (λh=>bq h) (λh=>?_)
  exact ae.lr (D7 p t e k r0 r1 r2 r3 r4 r5 v) (YA p t e k r0 r1 r2 r3 r4 r5 hk hS hw v a hp (by simpa [cB] using ha))
theorem av6 (hk:k<=t.ins.n) (hS:fW e) (hw:e6 6 [r0,r1,r2,r3,r4,r5]) (a:Bool) (hN:e.frames.n<=6) (hp:p=allM (kO t k (nk e.az e.az.n)) e):∀ j,j<=e.az.n->(cB (OO t e k) (e.az.n-j) j&&(eh (λj=>Gr (e.frames.get j)) e.frames.n&&p))=a->ae 93 6 (Go.V.Ends [r0,r1,r2,r3,r4,r5] (bool a) [r0,r1,r2,r3,r4,r5]) (af 93 5) (KN p t e k r0 r1 r2 r3 r4 r5 (nk e.az j) j):=by
 have hO:=hS.az
 refine aN (λj hj ih ha=>?_) (λha=>?_)
 .have q:e.az.n-j=(e.az.n-(j+1))+1:=by omega
  rw [q] at ha
  have no:OO t e k j=false->a=false:=λq=>by rw [cR q,Bool.false_and] at ha; exact ha.symm
  have go:OO t e k j=true->ae 93 6 (Go.V.Ends [r0,r1,r2,r3,r4,r5] (bool a) [r0,r1,r2,r3,r4,r5]) (af 93 5) (KN p t e k r0 r1 r2 r3 r4 r5 (nk e.az (j+1)) (j+1)):=λq=>by rw [dR q] at ha; exact ih ha
  refine aG (X:=Xe p) (stop:=B4) (Uo _ _ p t e k r0 r1 r2 r3 r4 r5 (nk e.az j) j ?_)
  rw [b6 hj (cT hO (by decide))]
  refine ag (λh=>?_) (λh=>(dec_lt h hj).elim)
  refine ai (aC hj) ⟨Vy _ _ _ _ _ _ _ _ _ _ _ _ _ _ _ _ hk,?_⟩
  refine ag (λh1=>?_) (λh1=>?_)
  .rw [no (by grind [OO])]; exact ⟨6,aQ rfl,aQ rfl,rfl,rfl,aX.refl _,bG _ _⟩
  have h1:eF t (e.az.get j).value k=true:=by simpa using h1
  refine ag (λh2=>?_) (λh2=>?_)
  .rw [no (by grind [OO])]; exact ⟨6,aQ rfl,aQ rfl,rfl,rfl,aX.refl _,bG _ _⟩
  have h2:fe (e.az.get j).value (nk e.az j)=false:=h2
  refine ag (λh3=>?_) (λh3=>ai (po h1 hk) ?_)
  .rw [no (by grind [OO])]; exact ⟨6,aQ rfl,aQ rfl,rfl,rfl,aX.refl _,bG _ _⟩
  have h3:(((e.az.get j).items.n:Int)!=((e.az.get j).names.n:Int))=false:=h3
  refine ag (λh4=>?_) (λh4=>?_)
  .rw [no (by grind [OO])]; exact ⟨6,aQ rfl,aQ rfl,rfl,rfl,aX.refl _,bG _ _⟩
  have h4:((t.ins.get (e.az.get j).value.toNat).op != 17)=false:=h4
  refine ag (λh5=>?_) (λh5=>⟨ao0 _ _,?_⟩)
  .rw [no (by grind [OO])]; exact ⟨6,aQ rfl,aQ rfl,rfl,rfl,aX.refl _,bG _ _⟩
  have h5:((t.ins.get (e.az.get j).value.toNat).n != (e.az.get j).cls)=false:=h5
  refine ag (λh6=>?_) (λh6=>?_)
  .rw [no (by grind [OO])]; exact ⟨6,aQ rfl,aQ rfl,rfl,rfl,aX.refl _,bG _ _⟩
  have h6:(!cz lg (t.ins.get (e.az.get j).value.toNat).names (e.az.get j).names)=false:=h6
  refine ae.cut 12 (aQ rfl) (aQ rfl) rfl rfl ⟨(hw.1).mono (by decide),(hw.2.1).mono (by decide),(hw.2.2.1).mono (by decide),(hw.2.2.2.1).mono (by decide),(hw.2.2.2.2.1).mono (by decide),(hw.2.2.2.2.2.1).mono (by decide),.inl rfl,.inl rfl,.inl rfl,.inl rfl,.inl rfl,.inl rfl,trivial⟩ (go ?_)
  grind [OO]
 .rw [Nat.sub_self] at ha
  refine aG (X:=Xe p) (stop:=B4) (Uo _ _ p t e k r0 r1 r2 r3 r4 r5 (nk e.az _) _ ?_)
  refine ag (λh=>bq h) (λh=>?_)
  exact Z2 p t e k r0 r1 r2 r3 r4 r5 hk hS hw _ a hN hp 0 (bk _) (by simpa [cB,eh] using ha)
theorem aX3 (hk:k<=t.ins.n) (hS:fW e) (hw:e6 6 [r0,r1,r2,r3,r4,r5]):LC 93 [BR t 1,qd e,int k] [r0,r1,r2,r3,r4,r5] (bool (lK t e k)) [r0,r1,r2,r3,r4,r5]:=by
 refine iW by1 (aQ (by kernel_rfl)) (cY (X:=Xe (allM (kO t k (nk e.az e.az.n)) e)) (stop:=B4) (br8 _ _ (allM (kO t k (nk e.az e.az.n)) e) t e k r0 r1 r2 r3 r4 r5 ?_))
 refine ag (λh1=>?_) (λh1=>ag (λh2=>?_) (λh2=>ag (λh3=>?_) (λh3=>?_)))
 .rw [show lK t e k=false from by grind [lK]]; exact ⟨6,aQ rfl,aQ rfl,rfl,rfl,aX.refl _,bG _ _⟩
 .rw [show lK t e k=false from by grind [lK]]; exact ⟨6,aQ rfl,aQ rfl,rfl,rfl,aX.refl _,bG _ _⟩
 .rw [show lK t e k=false from by grind [lK]]; exact ⟨6,aQ rfl,aQ rfl,rfl,rfl,aX.refl _,bG _ _⟩
 .have hN:e.frames.n<=6:=by grind
  refine av6 _ t e k r0 r1 r2 r3 r4 r5 hk hS hw _ hN rfl 0 (bk _) ?_
  grind [lK,eh]
end
open Go Go.V
section
variable (t:ak) (l:List Int) (k:Nat)
def b3:Bool := !(sm (t.ins.get k)!=((k:Int)==(t.ins.n:Int)-1))&&(bC (t.ins.get k) && !((t.ins.get k).once && !fy (t.ins.get k).op [2,3,4,5,6,7,8,9,10,12,14]))
def b7:Bool := !((t.ins.get k).op==1&&(decide ((k:Int)≥(kN t.ins:Int))||(decide ((k:Int)>0)&&decide ((t.ins.get k).k.n<=(t.ins.get (k-1)).k.n))))
def b9:Bool := !((t.ins.get k).op==20&&(((t.ins.get k).args.n:Int)!=(kN t.ins:Int)))
def W7:Bool := !decide ((t.ins.get k).exit < -1)&&(!decide ((t.ins.get k).exit≥(t.aa.n:Int))&&(!(decide ((t.ins.get k).exit≥0) && !Jq (t.ins.get k).op) && !(decide ((t.ins.get k).exit<0)&&fy (t.ins.get k).op [5,6,7,8,9,15,18,21])))
def Wm:Bool×List Int:=bif decide ((t.ins.get k).exit<0) then (true,l) else bif fe (t.ins.get k).exit l then (false,l) else (lK t (t.aa.get (t.ins.get k).exit.toNat) k,vi (t.ins.get k).exit l)
def o13:Bool×List Int:=bif TG t k then Wm t l k else (false,l)
def RT:Bool×List Int:=bif W7 t k then o13 t l k else (false,l)
def o9:Bool×List Int:=bif b9 t k then RT t l k else (false,l)
def o7:Bool×List Int:=bif b7 t k then o9 t l k else (false,l)
def o3:Bool×List Int:=bif b3 t k then o7 t l k else (false,l)
end
def PA (x:Option ah):List Int:=match x with
 | some (.set l)=>l
 | _=>[]
def F9L:Ao:=[
 (93,λds rs=>(bool (lK (dO ds 0) (IJ ds 1) (aI ds 2)),[],[])),
 (50,λds rs=>(bool (o3 (dO ds 0) (PA (bh rs 1)) (aI ds 1).toNat).1,[(1,.set (o3 (dO ds 0) (PA (bh rs 1)) (aI ds 1).toNat).2)],[]))]
def F9:=ext F8 F9L
def Db:eU:={ F:=F9,S:=[1] }
def tM:Nat->Bool:=λi=>Nat.beq i 3||Nat.beq i 7||Nat.beq i 9||Nat.beq i 11||Nat.beq i 13||Nat.beq i 14
theorem bx5:Fn 50:={}
section
variable (aj:Nat) (L:LP) (QE:D->List ah->Prop) (t:ak) (r0 r2:ah) (l:List Int) (k j:Nat)
abbrev dy:eQ:=(1,((fp aj),[]))
abbrev tK:eQ:=(3,((.c (.rt 3 0 0)),[]))
abbrev qB:eQ:=(7,((.c (.rt 4 0 0)),[]))
abbrev kB (aj:ah) (ax:List Int) (aJ:ah) (aZ:ak) (bR:Nat):List ah:=[aj,(.set ax),aJ,(eX aZ),(ma aZ bR)]
theorem bs3 (h:nd (bQ (↑k:Int) t.2.1) (L (af 50 3) ⟨[(dy k),(2,((fY t),[])),tK,qB,(8,((bool ((↑k:Int)==IntKind.i64.wrap ((↑t.2.1:Int)-1))),[]))],(kB r0 l r2 t k),[]⟩)):ep Db 50 tM L QE [BR t 1,int k,int (kN t.ins)] [r0,.set l,r2]:=km h
abbrev oM:eQ:=(1,(fp aj),[])
abbrev vO:eQ:=(3,(.c (.rt 3 0 0)),[])
abbrev wV:eQ:=(7,(.c (.rt 4 0 0)),[])
def Ub  : VS:=⟨[(oM k),(2,(fY t),[]),vO,wV,(8,(bool ((↑k:Int)==IntKind.i64.wrap ((↑t.2.1:Int)-1))),[])],(kB r0 l r2 t k),[]⟩
abbrev mq (aj:D->List ah->Prop) (ax:ah) (aJ:List Int) (aZ:ah) (bR:ak) (cW:Nat):Prop:=aj (bool false) [ax,(.set aJ),aZ,(.box (hX (bR) 1)),(.box (lift (bW (bR.ins.2 cW))))]
abbrev We (aj:LP) (ax:Nat) (aJ:ak) (aZ:ah) (bR:List Int) (cW:ah):Prop:=aj (af 50 7) ⟨[(dy ax),(2,((int ((↑(kN aJ.2):Int))),[])),(3,((.c (.rt 3 0 0)),[])),(7,((.c (.rt 4 0 0)),[])),(24,((bool false),[]))],(kB aZ bR cW aJ ax),[]⟩
abbrev aj0 (aj:ak) (ax:Nat) (aJ:D->List ah->Prop) (aZ:ah) (bR:List Int) (cW:ah) (de:LP):Prop:=(LC 88 [(.a (lift (bW (aj.ins.2 ax))))] [] (bool (bC (aj.ins.2 ax))) []/\br (!bC (aj.ins.2 ax)) (mq aJ aZ bR cW aj ax) (br ((aj.ins.2 ax).11) ((LC 89 (gf aj ax) [] (bool (fy (aj.ins.2 ax).1 [2,3,4,5,6,7,8,9,10,12,14])) []/\br (!fy (aj.ins.2 ax).1 [2,3,4,5,6,7,8,9,10,12,14]) (mq aJ aZ bR cW aj ax) (We de ax aj aZ bR cW))) (We de ax aj aZ bR cW)))
theorem ay0 (h:br ((t.ins.2 k).1==20) (br (!true==((↑k:Int)==IntKind.i64.wrap ((↑t.2.1:Int)-1))) (mq QE r0 l r2 t k) (aj0 t k QE r0 l r2 L)) (br (!((t.ins.2 k).1==21)==((↑k:Int)==IntKind.i64.wrap ((↑t.2.1:Int)-1))) (mq QE r0 l r2 t k) (aj0 t k QE r0 l r2 L))):b5 Db 50 tM L QE 3 (Ub t r0 r2 l k ):=km h
def Bm  : VS:=⟨[(oM k),(2,(fY t),[]),vO,wV],(kB r0 l r2 t k),[]⟩
abbrev JJ (aj:LP) (ax:Nat) (aJ:ak) (aZ:ah) (bR:List Int) (cW:ah):Prop:=aj (af 50 9) ⟨[(dy ax),(2,((fY aJ),[])),tK,qB,(46,((bool false),[]))],(kB aZ bR cW aJ ax),[]⟩
theorem aJ7 (h:br ((t.ins.2 k).1==1) (br (decide ((↑k:Int)≥(↑(kN t.2):Int))) (mq QE r0 l r2 t k) (br (decide ((↑k:Int)>0)) (nd (bQ (IntKind.i64.wrap ((↑k:Int)-1)) t.2.1) (br (decide ((t.ins.2 k).7.2<=(t.ins.2 (IntKind.i64.wrap ((↑k:Int)-1)).toNat).7.2)) (mq QE r0 l r2 t k) (JJ L k t r0 l r2))) (JJ L k t r0 l r2))) (JJ L k t r0 l r2)):b5 Db 50 tM L QE 7 (Bm t r0 r2 l k ):=km h
def vI  : VS:=⟨[(oM k),(2,(fY t),[]),vO,wV],(kB r0 l r2 t k),[]⟩
theorem aF2 (h:br ((t.ins.2 k).1==20) (br ((↑(t.ins.2 k).6.1:Int)!=(↑(kN t.2):Int)) (mq QE r0 l r2 t k) (L (af 50 11) ⟨[(dy k),tK,qB,(74,((bool false),[]))],(kB r0 l r2 t k),[]⟩)) (L (af 50 11) ⟨[(dy k),tK,qB,(74,((bool false),[]))],(kB r0 l r2 t k),[]⟩)):b5 Db 50 tM L QE 9 (vI t r0 r2 l k ):=km h
def yp  : VS:=⟨[(oM k),vO,wV],(kB r0 l r2 t k),[]⟩
abbrev VX (aj:ak) (ax:Nat) (aJ:D->List ah->Prop) (aZ:ah) (bR:List Int) (cW:ah) (de:LP):Prop:=br (decide ((aj.ins.2 ax).10<0)) ((LC 91 (gf aj ax) [] (bool (fy (aj.ins.2 ax).1 [5,6,7,8,9,15,18,21])) []/\br (fy (aj.ins.2 ax).1 [5,6,7,8,9,15,18,21]) (mq aJ aZ bR cW aj ax) (de (af 50 13) ⟨[(dy ax),(3,((.c (.rt 3 0 0)),[])),(7,((.c (.rt 4 0 0)),[])),(85,((bool false),[]))],(kB aZ bR cW aj ax),[]⟩))) (de (af 50 13) ⟨[(dy ax),(3,((.c (.rt 3 0 0)),[])),(7,((.c (.rt 4 0 0)),[])),(85,((bool false),[]))],(kB aZ bR cW aj ax),[]⟩)
theorem af0 (h:br (decide ((t.ins.2 k).10 < -1)) (mq QE r0 l r2 t k) (br (decide ((t.ins.2 k).10≥(↑t.3.1:Int))) (mq QE r0 l r2 t k) (br (decide ((t.ins.2 k).10≥0)) ((LC 90 (gf t k) [] (bool (Jq (t.ins.2 k).1)) []/\br (!Jq (t.ins.2 k).1) (mq QE r0 l r2 t k) (VX t k QE r0 l r2 L))) (VX t k QE r0 l r2 L)))):b5 Db 50 tM L QE 11 (yp t r0 r2 l k ):=km h
def yz  : VS:=⟨[(oM k),vO,wV],(kB r0 l r2 t k),[]⟩
theorem ab5 (h:(LC 55 [(.a (lift (bW (t.ins.2 k))))] [] (Uz t k) []/\L (af 50 14) ⟨[(dy k),tK,qB,(120,((Uz t k),[])),(121,((int ((↑(aW (t.ins.2 k)).1:Int))),[])),(122,((int 0),[]))],(kB r0 l r2 t k),[]⟩)):b5 Db 50 tM L QE 13 (yz t r0 r2 l k ):=km h
def Ee:VS:=⟨[(oM k),vO,wV,(120,fM 1 bn (aW (t.ins.get k)),[]),(121,(int ((↑(aW (t.ins.2 k)).1:Int))),[]),(122,int j,[])],(kB r0 l r2 t k),[]⟩
theorem NM (h:br (decide ((↑j:Int)<(↑(aW (t.ins.2 k)).1:Int))) (nd (bQ (↑j:Int) (aW (t.ins.2 k)).1) ((LC 92 [(.a (hX (t) 1)),(int ((aW (t.ins.get k)).2 j)),(int (↑k:Int))] (kB r0 l r2 t k) (bool (eF t ((aW (t.ins.get k)).2 j) (Int.ofNat k))) (kB r0 l r2 t k)/\br (!eF t ((aW (t.ins.get k)).2 j) (Int.ofNat k)) (mq QE r0 l r2 t k) (nd (bQ ((aW (t.ins.get k)).2 j) t.2.1) (br ((t.ins.2 ((aW (t.ins.get k)).2 j).toNat).1==17) (mq QE r0 l r2 t k) (L (af 50 14) ⟨[(dy k),tK,qB,(120,((Ko t k),[])),(121,((int ((↑(aW (t.ins.2 k)).1:Int))),[])),(122,((int (IntKind.i64.wrap ((↑j:Int)+1))),[]))],(kB r0 l r2 t k),[]⟩)))))) (br (decide ((t.ins.2 k).10<0)) (QE (bool true) [r0,(.set l),r2,(.box (hX (t) 1)),(.box (lift (bW (t.ins.2 k))))]) (br (fe (t.ins.2 k).10 l) (mq QE r0 l r2 t k) (nd (bQ (t.ins.2 k).10 t.3.1) ((LC 93 [(.a (hX (t) 1)),(.a (lift (bJ (t.aa.2 (t.ins.2 k).10.toNat)))),(int (↑k:Int))] [r0,(.set (vi (t.ins.2 k).10 l)),r2,(eX t),(ma t k),.dead] (bool (lK t (t.aa.2 (t.ins.2 k).10.toNat) (Int.ofNat k))) [r0,(.set (vi (t.ins.2 k).10 l)),r2,(eX t),(ma t k),.dead]/\QE (bool (lK t (t.aa.2 (t.ins.2 k).10.toNat) (Int.ofNat k))) [r0,(.set (vi (t.ins.2 k).10 l)),r2,(.box (hX (t) 1)),(.box (lift (bW (t.ins.2 k)))),.dead])))))):b5 Db 50 tM L QE 14 (Ee t r0 r2 l k j):=km h
theorem Zd (hk:k<t.ins.n) (hS:aM t) (hw:e6 3 [r0,.set l,r2]) (hE:(t.ins.get k).exit<t.aa.n):∀ j,j<=(aW (t.ins.get k)).n->∀ o:Bool×List Int,(bif cB (λj=>u16 t k ((aW (t.ins.get k)).get j)) ((aW (t.ins.get k)).n-j) j then Wm t l k else (false,l))=o->ae 50 3 (Go.V.Ends [r0,.set l,r2] (bool (o).1) [r0,.set (o).2,r2]) (af 50 14) (Ee t r0 r2 l k j):=by
 have hN:(aW (t.ins.get k)).n<=1000:=Mt _ (hS.args k hk)
 refine aN (λj hj ih o ho=>?_) (λo ho=>?_)
 .have q:(aW (t.ins.get k)).n-j=((aW (t.ins.get k)).n-(j+1))+1:=by omega
  rw [q] at ho
  have no:u16 t k ((aW (t.ins.get k)).get j)=false->o=(false,l):=λq=>by grind [cR]
  have go:u16 t k ((aW (t.ins.get k)).get j)=true->ae 50 3 (Go.V.Ends [r0,.set l,r2] (bool (o).1) [r0,.set (o).2,r2]) (af 50 14) (Ee t r0 r2 l k (j+1)):=λq=>by grind [dR]
  refine aG (X:=Db) (stop:=tM) (NM _ _ t r0 r2 l k j ?_)
  rw [b6 hj (cT hN (by decide))]
  refine ag (λh=>?_) (λh=>(dec_lt h hj).elim)
  refine ai (aC hj) ⟨Y2 _ _ _ _ _ _ _ _ (by omega),?_⟩
  refine ag (λh1=>?_) (λh1=>?_)
  .rw [no (by grind [u16])]; exact ⟨3,aQ rfl,aQ rfl,rfl,rfl,aX.refl _,⟨.inl (.inl rfl),.inr rfl,.inl (.inl rfl),trivial⟩⟩
  have h1:eF t ((aW (t.ins.get k)).get j) k=true:=by simpa using h1
  refine ai (po h1 (by omega)) (ag (λh2=>?_) (λh2=>?_))
  .rw [no (by grind [u16])]; exact ⟨3,aQ rfl,aQ rfl,rfl,rfl,aX.refl _,⟨.inl (.inl rfl),.inr rfl,.inl (.inl rfl),trivial⟩⟩
  refine ae.cut 5 (aQ rfl) (aQ rfl) rfl rfl ⟨hw.1.mono (by decide),.inl rfl,hw.2.2.1.mono (by decide),.inl rfl,.inl rfl,trivial⟩ (go ?_)
  grind [u16]
 .rw [Nat.sub_self] at ho
  have ho:Wm t l k=o:=ho
  subst ho
  refine aG (X:=Db) (stop:=tM) (NM _ _ t r0 r2 l k _ ?_)
  refine ag (λh=>bq h) (λh=>?_)
  refine ag (λh1=>?_) (λh1=>ag (λh2=>?_) (λh2=>?_))
  .rw [show Wm t l k=(true,l) from by grind [Wm]]; exact ⟨3,aQ rfl,aQ rfl,rfl,rfl,aX.refl _,⟨.inl (.inl rfl),.inr rfl,.inl (.inl rfl),trivial⟩⟩
  .rw [show Wm t l k=(false,l) from by grind [Wm]]; exact ⟨3,aQ rfl,aQ rfl,rfl,rfl,aX.refl _,⟨.inl (.inl rfl),.inr rfl,.inl (.inl rfl),trivial⟩⟩
  .have h0:0<=(t.ins.get k).exit:=by grind
   have hx:=hE
   refine ai (oN h0 hx) ⟨aX3 _ _ _ _ _ _ _ _ _ (by omega) (hS.ex _ (by omega)) ⟨hw.1.mono (by decide),.inl rfl,hw.2.2.1.mono (by decide),.inl rfl,.inl rfl,.inl rfl,trivial⟩,?_⟩
   rw [show Wm t l k=(lK t (t.aa.get (t.ins.get k).exit.toNat) k,vi (t.ins.get k).exit l) from by grind [Wm]]; exact ⟨3,aQ rfl,aQ rfl,rfl,rfl,aX.refl _,⟨.inl (.inl rfl),.inr rfl,.inl (.inl rfl),trivial⟩⟩
end
section
variable (L:LP) (t:ak) (r0:ah) (QD:D->Prop) (r2:ah) (l:List Int) (k:Nat)
theorem Yt (hk:k<t.ins.n) (hS:aM t) (hw:e6 3 [r0,.set l,r2]) (hE:(t.ins.get k).exit<t.aa.n):ae 50 3 (Go.V.Ends [r0,.set l,r2] (bool (o13 t l k).1) [r0,.set (o13 t l k).2,r2]) (af 50 13) (yz t r0 r2 l k):=by
 refine aG (X:=Db) (stop:=tM) (ab5 _ _ t r0 r2 l k ⟨aZ9 _,?_⟩)
 exact Zd t r0 r2 l k hk hS hw hE 0 (bk _) _ rfl
theorem ac9 (hk:k<t.ins.n) (hS:aM t) (hw:e6 3 [r0,.set l,r2]):ae 50 3 (Go.V.Ends [r0,.set l,r2] (bool (RT t l k).1) [r0,.set (RT t l k).2,r2]) (af 50 11) (yp t r0 r2 l k):=by
 have no:W7 t k=false->Go.V.Ends [r0,.set l,r2] (bool (RT t l k).1) [r0,.set (RT t l k).2,r2] (bool false) [r0,.set l,r2,.box (hX t 1),.box (lift (bW (t.ins.get k)))]:=λq=>by
  rw [show RT t l k=(false,l) from by unfold RT; rw [q]; rfl]; exact ⟨3,aQ rfl,aQ rfl,rfl,rfl,aX.refl _,⟨.inl (.inl rfl),.inr rfl,.inl (.inl rfl),trivial⟩⟩
 have go:W7 t k=true->ae 50 3 (Go.V.Ends [r0,.set l,r2] (bool (RT t l k).1) [r0,.set (RT t l k).2,r2]) (af 50 13) (yz t r0 r2 l k):=λq=>by
  grind [RT,Yt,W7]
 refine aG (X:=Db) (stop:=tM) (af0 _ _ t r0 r2 l k ?_)
 repeat' (first|refine ag (λh=>?_) (λh=>?_)|refine ⟨aT1 _,?_⟩|refine ⟨an2 _,?_⟩|done)
 all_goals (try simp only [Bool.not_eq_true',Bool.not_eq_false'] at *)
 all_goals first
  | exact no (by simp only [W7, *,fg])
  | exact ae.lr (yz t r0 r2 l k) (go (by grind [W7]))
  | (exfalso; simp only [decide_eq_true_eq,decide_eq_false_iff_not] at *; omega)
theorem aw1 (hk:k<t.ins.n) (hS:aM t) (hw:e6 3 [r0,.set l,r2]):ae 50 3 (Go.V.Ends [r0,.set l,r2] (bool (o9 t l k).1) [r0,.set (o9 t l k).2,r2]) (af 50 9) (vI t r0 r2 l k):=by
 have no:b9 t k=false->Go.V.Ends [r0,.set l,r2] (bool (o9 t l k).1) [r0,.set (o9 t l k).2,r2] (bool false) [r0,.set l,r2,.box (hX t 1),.box (lift (bW (t.ins.get k)))]:=λq=>by
  rw [show o9 t l k=(false,l) from by unfold o9; rw [q]; rfl]; exact ⟨3,aQ rfl,aQ rfl,rfl,rfl,aX.refl _,⟨.inl (.inl rfl),.inr rfl,.inl (.inl rfl),trivial⟩⟩
 have go:b9 t k=true->ae 50 3 (Go.V.Ends [r0,.set l,r2] (bool (o9 t l k).1) [r0,.set (o9 t l k).2,r2]) (af 50 11) (yp t r0 r2 l k):=λq=>by
  grind [o9,ac9]
 refine aG (X:=Db) (stop:=tM) (aF2 _ _ t r0 r2 l k ?_)
 repeat' (first|refine ag (λh=>?_) (λh=>?_) |  done)
 all_goals (try simp only [Bool.not_eq_true',Bool.not_eq_false'] at *)
 all_goals first
  | exact no (by simp only [b9, *,fg])
  | exact ae.lr (yp t r0 r2 l k) (go (by grind [b9]))
  | (exfalso; simp only [decide_eq_true_eq,decide_eq_false_iff_not] at *; omega)
theorem ay9 (hk:k<t.ins.n) (hS:aM t) (hw:e6 3 [r0,.set l,r2]):ae 50 3 (Go.V.Ends [r0,.set l,r2] (bool (o7 t l k).1) [r0,.set (o7 t l k).2,r2]) (af 50 7) (Bm t r0 r2 l k):=by
 have no:b7 t k=false->Go.V.Ends [r0,.set l,r2] (bool (o7 t l k).1) [r0,.set (o7 t l k).2,r2] (bool false) [r0,.set l,r2,.box (hX t 1),.box (lift (bW (t.ins.get k)))]:=λq=>by
  rw [show o7 t l k=(false,l) from by unfold o7; rw [q]; rfl]; exact ⟨3,aQ rfl,aQ rfl,rfl,rfl,aX.refl _,⟨.inl (.inl rfl),.inr rfl,.inl (.inl rfl),trivial⟩⟩
 have go:b7 t k=true->ae 50 3 (Go.V.Ends [r0,.set l,r2] (bool (o7 t l k).1) [r0,.set (o7 t l k).2,r2]) (af 50 9) (vI t r0 r2 l k):=λq=>by
  grind [o7,aw1]
 refine aG (X:=Db) (stop:=tM) (aJ7 _ _ t r0 r2 l k ?_)
 have w1:decide ((k:Int)>0)=true->IntKind.i64.wrap ((k:Int)-1)=((k-1:Nat):Int):=λh=>by
  have h:=of_decide_eq_true h
  rw [iT (by omega) (by have:=hS.ins; omega)]
  omega
 refine ag (λh=>?_) (λh=>?_)
 .have h:((t.ins.get k).op==1)=true:=h
  refine ag (λh0=>no (by grind [b7])) (λh0=>?_)
  have h0:decide ((k:Int)≥(kN t.ins:Int))=false:=h0
  refine ag (λh1=>?_) (λh1=>?_)
  .rw [w1 h1]
   have nD:decide ((k:Int)>0)=true:=h1
   have h1'':=of_decide_eq_true h1
   refine ai (aC (by omega)) (ag (λh2=>no ?_) (λh2=>?_))
   .grind [b7]
   .exact ae.lr (vI t r0 r2 l k) (go (by grind [b7]))
  .exact ae.lr (vI t r0 r2 l k) (go (by grind [b7]))
 .exact ae.lr (vI t r0 r2 l k) (go (by grind [b7]))
theorem as7 (hk:k<t.ins.n) (hS:aM t) (hw:e6 3 [r0,.set l,r2]):ae 50 3 (Go.V.Ends [r0,.set l,r2] (bool (o3 t l k).1) [r0,.set (o3 t l k).2,r2]) (af 50 3) (Ub t r0 r2 l k):=by
 have no:b3 t k=false->Go.V.Ends [r0,.set l,r2] (bool (o3 t l k).1) [r0,.set (o3 t l k).2,r2] (bool false) [r0,.set l,r2,.box (hX t 1),.box (lift (bW (t.ins.get k)))]:=λq=>by
  rw [show o3 t l k=(false,l) from by unfold o3; rw [q]; rfl]; exact ⟨3,aQ rfl,aQ rfl,rfl,rfl,aX.refl _,⟨.inl (.inl rfl),.inr rfl,.inl (.inl rfl),trivial⟩⟩
 have go:b3 t k=true->ae 50 3 (Go.V.Ends [r0,.set l,r2] (bool (o3 t l k).1) [r0,.set (o3 t l k).2,r2]) (af 50 7) (Bm t r0 r2 l k):=λq=>by
  grind [o3,ay9]
 refine aG (X:=Db) (stop:=tM) (ay0 _ _ t r0 r2 l k ?_)
 rw [Cg (by omega) hS.ins]
 refine ag (λh=>?_) (λh=>?_)
 .have h0:sm (t.ins.get k)=true:=by grind [sm]
  clear h
  refine ag (λh1=>?_) (λh1=>?_)
  .grind [b3]
  have h1:(true != ((k:Int)==(t.ins.n:Int)-1))=false:=h1
  repeat' (first|refine ag (λh=>?_) (λh=>?_)|refine ⟨ai0 _,?_⟩|refine ⟨aj1 _,?_⟩|done)
  all_goals (try simp only [Bool.not_eq_true',Bool.not_eq_false'] at *)
  all_goals first
   | exact no (by simp only [b3, *,fg])
   | exact ae.lr (Bm t r0 r2 l k) (go (by grind [b3]))
   | (exfalso; simp only [decide_eq_true_eq,decide_eq_false_iff_not] at *; omega)
 .have h0:sm (t.ins.get k)=((t.ins.get k).op==21):=by grind [sm]
  clear h
  refine ag (λh1=>?_) (λh1=>?_)
  .grind [b3]
  have h1:(((t.ins.get k).op==21)!=((k:Int)==(t.ins.n:Int)-1))=false:=h1
  repeat' (first|refine ag (λh=>?_) (λh=>?_)|refine ⟨ai0 _,?_⟩|refine ⟨aj1 _,?_⟩|done)
  all_goals (try simp only [Bool.not_eq_true',Bool.not_eq_false'] at *)
  all_goals first
   | exact no (by simp only [b3, *,fg])
   | exact ae.lr (Bm t r0 r2 l k) (go (by grind [b3]))
   | (exfalso; simp only [decide_eq_true_eq,decide_eq_false_iff_not] at *; omega)
theorem aV7 (hk:k<t.ins.n) (hS:aM t) (hw:e6 3 [r0,.set l,r2]):LC 50 [BR t 1,int k,int (kN t.ins)] [r0,.set l,r2] (bool (o3 t l k).1) [r0,.set (o3 t l k).2,r2]:=
 iW bx5 (aQ (by kernel_rfl)) (cY (X:=Db) (stop:=tM) (bs3 _ _ t r0 r2 l k (ai (aC hk) (as7 t r0 r2 l k hk hS hw))))
def Sy:Nat->Bool:=λi=>Nat.beq i 8
theorem bC1:Fn 18:={}
abbrev cX:eQ:=(3,((.c (.rt 2 0 0)),[]))
theorem by8 (t:ak) (h:br (decide ((↑t.2.1:Int)>200)) (QD (int 2)) (br (decide ((↑t.3.1:Int)>60)) (QD (int 2)) (br (decide (t.1.1<0)) (QD (int 31)) (br (decide (t.1.2<0)) (QD (int 31)) (br ((↑t.2.1:Int)==0) (QD (int 31)) ((LC 49 [(ez t)] [] (fY t) []/\L (af 18 8) ⟨[cX,(4,((fY t),[])),(39,((gY t),[])),(40,((int 0),[]))],[(aU t),(.set []),(eX t)],[]⟩))))))):ep Db 18 Sy L (bf QD) [aO t] []:=km h
def SA:VS:=⟨[(3,(.c (.rt 2 0 0)),[]),(4,(fY t),[]),(39,(gY t),[]),(40,int k,[])],[(aU t),.set l,(eX t)],[]⟩
theorem TN (t:ak) (l:List Int) (k:Nat) (h:br (decide ((↑k:Int)<(↑t.2.1:Int))) ((LC 50 [(.a (hX (t) 1)),(int (↑k:Int)),(fY t)] [(aU t),(.set l),(eX t)] (bool ((o3 t (PA (some (ah.set l))) k).1)) [(aU t),(.set ((o3 t (PA (some (ah.set l))) k).2)),(eX t)]/\br (!(o3 t (PA (some (ah.set l))) k).1) (QD (int 31)) (L (af 18 8) ⟨[cX,(4,((fY t),[])),(39,((gY t),[])),(40,((int (IntKind.i64.wrap ((↑k:Int)+1))),[]))],[(aU t),(.set ((o3 t (PA (some (ah.set l))) k).2)),(eX t)],[]⟩))) (QD (int 0))):b5 Db 18 Sy L (bf QD) 8 (SA t l k):=km h
def EO (t:ak):Nat->Nat->List Int->Bool
 | 0,_,_=>true
 | m+1,k,l=>bif (o3 t l k).1 then EO t m (k+1) (o3 t l k).2 else false
def cp:Int:=bif decide ((t.ins.n:Int)>200) then 2 else bif decide ((t.aa.n:Int)>60) then 2 else bif !(decide (t.place.fn<0)||(decide (t.place.line<0)||((t.ins.n:Int)==0)))&&EO t t.ins.n 0 [] then 0 else 31
theorem az9 (hS:aM t) (a:Int):∀ k,k<=t.ins.n->∀ l,(bif EO t (t.ins.n-k) k l then 0 else 31)=a->ae 18 0 (a7 (int a)) (af 18 8) (SA t l k):=by
 have hN:=hS.ins
 refine aN (λk hk ih l ha=>?_) (λl ha=>?_)
 .have q:t.ins.n-k=(t.ins.n-(k+1))+1:=by omega
  rw [q] at ha
  refine aK (X:=Db) (stop:=Sy) (TN _ _ t l k ?_)
  rw [b6 hk (cT hN (by decide))]
  refine ag (λh=>?_) (λh=>(dec_lt h hk).elim)
  refine ⟨aV7 t _ _ l k hk hS ⟨.inl rfl,.inl rfl,.inl rfl,trivial⟩,?_⟩
  refine ag (λh1=>?_) (λh1=>?_)
  .have h1:(o3 t l k).1=false:=(Bool.not_eq_true' _).mp h1
   grind [EO,aX.refl]
  .have h1:(o3 t l k).1=true:=(Bool.not_eq_false' _▸h1:(o3 t l k).1=true)
   rw [show EO t (t.ins.n-(k+1)+1) k l=EO t (t.ins.n-(k+1)) (k+1) (o3 t l k).2 from by grind [EO]] at ha
   exact ih _ ha
 .rw [Nat.sub_self] at ha
  refine aK (X:=Db) (stop:=Sy) (TN _ _ t l _ ?_)
  refine ag (λh=>bq h) (λh=>?_)
  subst ha; exact aX.refl _
theorem Wk (hS:aM t):LC 18 [aO t] [] (int (cp t)) []:=by
 refine pv (X:=Db) (stop:=Sy) bC1 (by8 _ _ t ?_)
 refine ag (λh1=>?_) (λh1=>ag (λh2=>?_) (λh2=>ag (λh3=>?_) (λh3=>ag (λh4=>?_) (λh4=>ag (λh5=>?_) (λh5=>⟨aW5 _,?_⟩)))))
 .grind [cp,aX.refl]
 .grind [cp,aX.refl]
 .grind [cp,aX.refl]
 .grind [cp,aX.refl]
 .grind [cp,aX.refl]
 .exact az9 t hS _ 0 (bk _) [] (by grind [cp])
end
open Go Go.V
section
variable (x:au) (t:ak) (op a:Int)
def qt (b:Bool):D:=.t [(true,lift (bW x)),(false,[.im (iB b)])]
def gM (y:au):Bool:=x.n != y.n || !cz lg x.names y.names
def kv:Bool:=ij op||et op
def SC:au:=⟨0,0,0,0,0,aH 0,⟨0,0,ByteArray.mk ⟨[]⟩⟩,aH (ByteArray.mk ⟨[]⟩),⟨0,0⟩,0,false⟩
def Hn (k:Nat):Bool:=(t.ins.get k).op==7&&(!(t.ins.get k).once&&(t.ins.get k).a==a)
def l6 (i:Nat):Int:=bif (t.ins.get a.toNat).op==16 then a else ku (Hn t a) i
def shD (s:Int):D:=bif decide (s≥0) then qt (t.ins.get s.toNat) true else qt SC false
def bn6:Ao:=[
 (18,λds rs=>(int (cp (dO ds 0)),[],[])),
 (40,λds rs=>(int (dS (dO ds 0)),[],[])),
 (107,λds rs=>(bool (kv (aI ds 0)),[],[])),
 (100,λds rs=>(bool (gM (qA ds 0) (qA ds 1)),[],[])),
 (105,λds rs=>(bool (gM (qA ds 0) (qA ds 1)),[],[]))]
def F10:=ext F9 bn6
theorem H4 {l l':List C} {c:C} (h:aF dI l l'):aX (.t [(true,l),(false,[c])]) (.t [(true,l'),(false,[c])]):=by
 rintro E av w v ⟨vs,rfl,hv⟩
 refine ⟨vs,rfl,?_⟩
 generalize vs.toList=ys at hv
 cases hv with|cons h1 hv=>cases hv with|cons h2 hv=>
  cases hv
  obtain ⟨cs,rfl,h3⟩:=h1
  exact .cons ⟨cs,rfl,aF.cle h h3⟩ (.cons h2 .nil)
theorem zero_le:aX (.t [(true,[(.im (.v (.int .i64 0))),(.im (.v (.int .i64 0))),(.im (.v (.int .i64 0))),(.im (.v (.int .i64 0))),(.im (.v (.int .i64 0))),(.im (.v (.slice .none 0 0))),(.im (.v (.int .i64 0))),(.im (.v (.int .i64 0))),(.im (.v (.string ⟨⟨[]⟩⟩))),(.im (.v (.slice .none 0 0))),(.im (.v (.int .i64 0))),(.im (.v (.int .i64 0))),(.im (.v (.int .i64 0))),(.im (.v (.bool false)))]),(false,[(.im (.v (.bool false)))])]) (qt SC false):=by
 refine H4 ?_
 repeat' (first|exact .nil|refine .cons (dI.refl _) ?_|refine .cons (dI.nil 1 _) ?_|done)
def al6:eU:={ F:=F10 }
def ak1:Nat->Bool:=bH
theorem aO0:Fn 107:={}
theorem ba3 (L:LP) (QD:D->Prop) (op:Int) (h:(LC 98 [(int op)] [] (bool (ij op)) []/\br (ij op) (QD (bool true)) ((LC 102 [(int op)] [] (bool (et op)) []/\QD (bool (et op)))))):ep al6 107 ak1 L (bf QD) [int op] []:=km h
theorem TB:LC 107 [int op] [] (bool (kv op)) []:=by
 refine pv (X:=al6) (stop:=ak1) aO0 (ba3 _ _ op ⟨Ar _,ag (λh=>?_) (λh=>⟨vF _,?_⟩)⟩)
 all_goals grind [kv,aX.refl]
end
def ai5:eU:={ F:=F10 }
section
variable (L:LP) (QD:D->Prop) (x:au) (t:ak) (y:au) (a:Int) (i k:Nat)
def ao7:Nat->Bool:=bH
theorem bf1:Fn 100:={}
theorem bc8 (h:br (x.5 != y.5) (QD (bool true)) ((LC 72 [(qX x),(qX y)] [] (bool (cz lg x.8 y.8)) []/\QD (bool (!cz lg x.8 y.8))))):ep ai5 100 ao7 L (bf QD) [fk x,fk y] []:=km h
theorem Kf:LC 100 [fk x,fk y] [] (bool (gM x y)) []:=by
 refine pv (X:=ai5) (stop:=ao7) bf1 (bc8 _ _ x y (ag (λh=>?_) (λh=>⟨ao0 _ _,?_⟩)))
 all_goals grind [gM,aX.refl]
def am1:eU:={ F:=F10 }
def an8:Nat->Bool:=bH
theorem aX0:Fn 105:={}
theorem be4 (h:br (x.5 != y.5) (QD (bool true)) ((LC 22 [(qX x),(qX y)] [] (bool (cz lg x.8 y.8)) []/\QD (bool (!cz lg x.8 y.8))))):ep am1 105 an8 L (bf QD) [fk x,fk y] []:=km h
theorem JE:LC 105 [fk x,fk y] [] (bool (gM x y)) []:=by
 refine pv (X:=am1) (stop:=an8) aX0 (be4 _ _ x y (ag (λh=>?_) (λh=>⟨Uw _ _,?_⟩)))
 all_goals grind [gM,aX.refl]
def HI:eU:={ F:=F10 }
def G9:Nat->Bool:=λi=>Nat.beq i 4
theorem aY6:Fn 133:={}
abbrev Ge:eQ:=(6,((.c (.rt 1 0 0)),[]))
abbrev FF (aj:Nat):eQ:=(26,((int (↑aj:Int)),[]))
abbrev Ag:ah:=.box [(ci 0),(ci 0),(ci 0),(ci 0),(ci 0),bS,(ci 0),(ci 0),dH,bS,(ci 0),(ci 0),(ci 0),ea]
theorem aZ7 (h:nd (bQ a t.2.1) (br ((t.ins.2 a.toNat).1==16) (nd (bQ a t.2.1) (QD (.t [(.true,(lift (bW (t.ins.2 a.toNat)))),(.false,[(.im (.v (.bool true)))])]))) (nd (Js (↑i:Int) t.2.1) (L (af 133 4) ⟨[(dC a),Ge,(25,((.c (.im (.sl 14 i (λi=>gw (t.ins.2 i))))),[])),(FF i),(27,((int 0),[]))],[(aU t),Ag],[]⟩)))):ep HI 133 G9 L (bf QD) [aO t,int a,int i] []:=km h
def E8:VS:=⟨[(1,(int a),[]),(6,(.c (.rt 1 0 0)),[]),(25,(.c (.im (.sl 14 i (λi=>gw (t.ins.2 i))))),[]),(26,(int (↑i:Int)),[]),(27,int k,[])],[(aU t),Ag],[]⟩
theorem M5 (h:br (decide ((↑k:Int)<(↑i:Int))) (nd (bQ (↑k:Int) i) (br ((t.ins.2 k).1==7) (br (!(t.ins.2 k).11) (br ((t.ins.2 k).2==a) (QD (.t [(.true,(lift (bW (t.ins.2 k)))),(.false,[(.im (.v (.bool true)))])])) (L (af 133 4) ⟨[(dC a),Ge,(25,((.c (.im (.sl 14 i (λi=>gw (t.ins.2 i))))),[])),(FF i),(27,((int (IntKind.i64.wrap ((↑k:Int)+1))),[]))],[(aU t),Ag,(ma t k)],[]⟩)) (L (af 133 4) ⟨[(dC a),Ge,(25,((.c (.im (.sl 14 i (λi=>gw (t.ins.2 i))))),[])),(FF i),(27,((int (IntKind.i64.wrap ((↑k:Int)+1))),[]))],[(aU t),Ag,(ma t k)],[]⟩)) (L (af 133 4) ⟨[(dC a),Ge,(25,((.c (.im (.sl 14 i (λi=>gw (t.ins.2 i))))),[])),(FF i),(27,((int (IntKind.i64.wrap ((↑k:Int)+1))),[]))],[(aU t),Ag,(ma t k)],[]⟩))) (QD (.t [(.true,[(ci 0),(ci 0),(ci 0),(ci 0),(ci 0),(.im (.v (.slice .none 0 0))),(ci 0),(ci 0),(.im (.v (.string ⟨⟨[]⟩⟩))),(.im (.v (.slice .none 0 0))),(ci 0),(ci 0),(ci 0),(.im (.v (.bool false)))]),(.false,[(.im (.v (.bool false)))])]))):b5 HI 133 G9 L (bf QD) 4 (E8 t a i k):=km h
theorem ZG (hi:i<=t.ins.n) (hS:aM t) (s:Int):∀ k,k<=i->ir (Hn t a) (i-k) k=s->ae 133 0 (a7 (shD t s)) (af 133 4) (E8 t a i k):=by
 have hN:=hS.ins
 refine aN (λk hk ih ha=>?_) (λha=>?_)
 .have q:i-k=(i-(k+1))+1:=by omega
  rw [q] at ha
  have yes:Hn t a k=true->s=(k:Int):=λq=>by rw [j8 q] at ha; exact ha.symm
  have go:Hn t a k=false->ae 133 0 (a7 (shD t s)) (af 133 4) (E8 t a i (k+1)):=λq=>by rw [jg q] at ha; exact ih ha
  refine aK (X:=HI) (stop:=G9) (M5 _ _ t a i k ?_)
  rw [b6 hk (by unfold maxLen; omega)]
  refine ag (λh=>?_) (λh=>(dec_lt h hk).elim)
  have nb:bQ (k:Int) i=true:=aC (by omega)
  refine ai nb ?_
  refine ag (λh1=>?_) (λh1=>?_)
  .have h1:((t.ins.get k).op==7)=true:=h1
   refine ag (λh2=>?_) (λh2=>?_)
   .have h2:(!(t.ins.get k).once)=true:=h2
    refine ag (λh3=>?_) (λh3=>?_)
    .rw [yes (by grind [Hn])]
     rw [show shD t (k:Int)=qt (t.ins.get k) true from by rfl]; exact aX.refl _
    .exact ae.rename [0,1] rfl (go (by grind [Hn]))
   .have h2:(!(t.ins.get k).once)=false:=h2
    exact ae.rename [0,1] rfl (go (by grind [Hn]))
  .exact ae.rename [0,1] rfl (go (by grind [Hn]))
 .rw [Nat.sub_self] at ha
  refine aK (X:=HI) (stop:=G9) (M5 _ _ t a i _ ?_)
  refine ag (λh=>bq h) (λh=>?_)
  subst ha
  exact zero_le
theorem ar0 (ha:bQ a t.ins.n=true) (h0:0<=a) (hi:i<=t.ins.n) (hS:aM t):LC 133 [aO t,int a,int i] [] (shD t (l6 t a i)) []:=by
 refine pv (X:=HI) (stop:=G9) aY6 (aZ7 _ _ t a i (ai ha (ag (λh=>ai ha ?_) (λh=>ai ?_ ?_))))
 .rw [show l6 t a i=a from by grind [l6],show shD t a=qt (t.ins.get a.toNat) true from by grind [shD]]; exact aX.refl _
 .show Nat.ble i t.ins.n=true
  simp_all
 .rw [show l6 t a i=ku (Hn t a) i from by grind [l6]]
  exact ZG t a i hi hS _ 0 (bk _) rfl
def GY:eU:={ F:=F10 }
def I8:Nat->Bool:=λi=>Nat.beq i 4
theorem aY5:Fn 134:={}
theorem aT0 (h:nd (bQ a t.2.1) (br ((t.ins.2 a.toNat).1==16) (QD (int a)) (L (af 134 4) ⟨[(dC a),(2,((int (↑i:Int)),[])),dc,(7,((int 0),[]))],[(aU t)],[]⟩))):ep GY 134 I8 L (bf QD) [aO t,int a,int i] []:=km h
def ET:VS:=⟨[(1,(int a),[]),(2,(int (↑i:Int)),[]),jZ,(7,int k,[])],[(aU t)],[]⟩
theorem Oy (h:br (decide ((↑k:Int)<(↑i:Int))) (nd (bQ (↑k:Int) t.2.1) (br ((t.ins.2 k).1==7) (nd (bQ (↑k:Int) t.2.1) (br (!(t.ins.2 k).11) (nd (bQ (↑k:Int) t.2.1) (br ((t.ins.2 k).2==a) (QD (int (↑k:Int))) (L (af 134 4) ⟨[(dC a),(2,((int (↑i:Int)),[])),dc,(7,((int (IntKind.i64.wrap ((↑k:Int)+1))),[]))],[(aU t)],[]⟩))) (L (af 134 4) ⟨[(dC a),(2,((int (↑i:Int)),[])),dc,(7,((int (IntKind.i64.wrap ((↑k:Int)+1))),[]))],[(aU t)],[]⟩))) (L (af 134 4) ⟨[(dC a),(2,((int (↑i:Int)),[])),dc,(7,((int (IntKind.i64.wrap ((↑k:Int)+1))),[]))],[(aU t)],[]⟩))) (QD (int (-1)))):b5 GY 134 I8 L (bf QD) 4 (ET t a i k):=km h
end
section
variable (t:ak) (a:Int) (i:Nat)
theorem Xn (hi:i<=t.ins.n) (hS:aM t) (s:Int):∀ k,k<=i->ir (Hn t a) (i-k) k=s->ae 134 0 (a7 (int s)) (af 134 4) (ET t a i k):=by
 have hN:=hS.ins
 refine aN (λk hk ih ha=>?_) (λha=>?_)
 .have q:i-k=(i-(k+1))+1:=by omega
  rw [q] at ha
  have yes:Hn t a k=true->s=(k:Int):=λq=>by rw [j8 q] at ha; exact ha.symm
  have go:Hn t a k=false->ae 134 0 (a7 (int s)) (af 134 4) (ET t a i (k+1)):=λq=>by rw [jg q] at ha; exact ih ha
  refine aK (X:=GY) (stop:=I8) (Oy _ _ t a i k ?_)
  rw [b6 hk (by unfold maxLen; omega)]
  refine ag (λh=>?_) (λh=>(dec_lt h hk).elim)
  have nb:bQ (k:Int) t.ins.n=true:=aC (by omega)
  refine ai nb ?_
  refine ag (λh1=>?_) (λh1=>?_)
  .have h1:((t.ins.get k).op==7)=true:=h1
   refine ai nb ?_
   refine ag (λh2=>?_) (λh2=>?_)
   .have h2:(!(t.ins.get k).once)=true:=h2
    refine ai nb ?_
    refine ag (λh3=>?_) (λh3=>?_)
    .grind [Hn,aX.refl]
    .exact (go (by grind [Hn]))
   .have h2:(!(t.ins.get k).once)=false:=h2
    exact (go (by grind [Hn]))
  .exact (go (by grind [Hn]))
 .rw [Nat.sub_self] at ha
  refine aK (X:=GY) (stop:=I8) (Oy _ _ t a i _ ?_)
  refine ag (λh=>bq h) (λh=>?_)
  subst ha
  exact aX.refl _
theorem aB5 (ha:bQ a t.ins.n=true) (hi:i<=t.ins.n) (hS:aM t):LC 134 [aO t,int a,int i] [] (int (l6 t a i)) []:=by
 refine pv (X:=GY) (stop:=I8) aY5 (aT0 _ _ t a i (ai ha (ag (λh=>?_) (λh=>?_))))
 .grind [l6,aX.refl]
 .rw [show l6 t a i=ku (Hn t a) i from by grind [l6]]
  exact Xn t a i hi hS _ 0 (bk _) rfl
end
open Go Go.V
section
variable (aj:ak) (L:LP) (t:ak) (s ax:Int) (QD:D->Prop) (a:Int) (aJ:Nat) (b aZ:Int) (i:Nat) (bR:D->Prop)
def LM:au:=bif decide (s≥0) then t.ins.get s.toNat else SC
def tlS:Bool:=decide (l6 t a i≥0)&&(decide (l6 t b i≥0)&&gM (LM t (l6 t a i)) (LM t (l6 t b i)))
def apL:Bool:=bif a==b then false else bif (t.ins.get (if b>a then b else a).toNat).op==16 then true else bif (t.ins.get (a).toNat).op==16&&(t.ins.get (b).toNat).op==16 then true else tlS t a b i
def Zb:Bool:=bif a==b then false else bif ((t.ins.get (a).toNat).op==16&&(t.ins.get (b).toNat).op==16)||(((t.ins.get (a).toNat).op==16&&decide (b<a))||((t.ins.get (b).toNat).op==16&&decide (a<b))) then true else tlS t a b i
def bm8:Ao:=[
 (133,λds rs=>(qt (LM (dO ds 0) (l6 (dO ds 0) (aI ds 1) (aI ds 2).toNat)) (decide (l6 (dO ds 0) (aI ds 1) (aI ds 2).toNat≥0)),[],[])),
 (134,λds rs=>(int (l6 (dO ds 0) (aI ds 1) (aI ds 2).toNat),[],[]))]
def F11:=ext F10 bm8
theorem aq9:shD t s=qt (LM t s) (decide (s≥0)):=by
 unfold shD LM
 grind
theorem aF3 {t:ak} {a:Int} {i:Nat} (ha:bQ a t.ins.n=true) (hi:i<=t.ins.n) (h:decide (l6 t a i≥0)=true):bQ (l6 t a i) t.ins.n=true:=by
 grind [l6,rO,aC]
theorem Yv {a:Int} {n:Nat} (h:bQ a n=true):0<=a/\a<n:=by
 cases a with
 | ofNat m=>
   have:Nat.blt m n=true:=h
   simp_all
 | negSucc m=>exact absurd h (by simp [bQ])
theorem Ez {t:ak} {s:Int} (h:decide (s≥0)=true):t.ins.get s.toNat=LM t s:=by unfold LM; rw [h]; rfl
def ai2:eU:={ F:=F11 }
def ai9:Nat->Bool:=bH
theorem aN1:Fn 109:={}
abbrev UC:D:=.t [(.true,(lift (bW (LM aj (l6 aj ax aJ))))),(.false,[(.im (.v (.bool (decide (l6 aj ax aJ≥0)))))])]
abbrev aj8:Prop:=(LC 133 [(ez aj),(int ax),(fp aJ)] [] (UC aj ax aJ) []/\(LC 133 [(ez aj),(int aZ),(fp aJ)] [] (UC aj aZ aJ) []/\br (decide (l6 aj ax aJ≥0)) (br (decide (l6 aj aZ aJ≥0)) ((LC 100 [(.a (lift (bW (LM aj (l6 aj ax aJ))))),(.a (lift (bW (LM aj (l6 aj aZ aJ)))))] [] (bool (gM (LM aj (l6 aj ax aJ)) (LM aj (l6 aj aZ aJ)))) []/\bR (bool (gM (LM aj (l6 aj ax aJ)) (LM aj (l6 aj aZ aJ)))))) (bR (bool false))) (bR (bool false))))
theorem aO1 (t:ak) (a b:Int) (i:Nat) (h:br (a==b) (QD (bool false)) (nd (bQ (if b>a then b else a) t.2.1) (br ((t.ins.2 (if b>a then b else a).toNat).1==16) (QD (bool true)) (nd (bQ a t.2.1) (br ((t.ins.2 a.toNat).1==16) (nd (bQ b t.2.1) (br ((t.ins.2 b.toNat).1==16) (QD (bool true)) (aj8 t a i b QD))) (aj8 t a i b QD)))))):ep ai2 109 ai9 L (bf QD) [aO t,int a,int b,int i] []:=km h
theorem XH (ha:bQ a t.ins.n=true) (hi:i<=t.ins.n) (hS:aM t):LC 133 [aO t,int a,int i] [] (qt (LM t (l6 t a i)) (decide (l6 t a i≥0))) []:=aq9 t _▸ar0 t a i ha (Yv ha).1 hi hS
theorem aH1 (ha:bQ a t.ins.n=true) (hb:bQ b t.ins.n=true) (hi:i<=t.ins.n) (hS:aM t):LC 109 [aO t,int a,int b,int i] [] (bool (apL t a b i)) []:=by
 have hm:bQ (if b>a then b else a) t.ins.n=true:=by split<;>assumption
 refine pv (X:=ai2) (stop:=ai9) aN1 (aO1 _ _ t a b i ?_)
 repeat' (first|refine ai (by omega) ?_|refine ag (λh=>?_) (λh=>?_)|refine ⟨XH _ _ _ (by assumption) hi hS,?_⟩|refine ⟨Kf _ _,?_⟩|done)
 all_goals (try rw [Ez (s:=l6 t a i) (by assumption),Ez (s:=l6 t b i) (by assumption)])
 all_goals grind [apL,tlS,aX.refl]
def an3:eU:={ F:=F11 }
def aj6:Nat->Bool:=bH
theorem ba9:Fn 111:={}
abbrev ak9:Prop:=(LC 134 [(ez aj),(int ax),(fp aJ)] [] (int (l6 aj ax aJ)) []/\(LC 134 [(ez aj),(int aZ),(fp aJ)] [] (int (l6 aj aZ aJ)) []/\br (decide (l6 aj ax aJ≥0)) (br (decide (l6 aj aZ aJ≥0)) (nd (bQ (l6 aj ax aJ) aj.2.1) (nd (bQ (l6 aj aZ aJ) aj.2.1) ((LC 105 [(.a (lift (bW (aj.ins.2 (l6 aj ax aJ).toNat)))),(.a (lift (bW (aj.ins.2 (l6 aj aZ aJ).toNat))))] [] (bool (gM (aj.ins.2 (l6 aj ax aJ).toNat) (aj.ins.2 (l6 aj aZ aJ).toNat))) []/\bR (bool (gM (aj.ins.2 (l6 aj ax aJ).toNat) (aj.ins.2 (l6 aj aZ aJ).toNat))))))) (bR (bool false))) (bR (bool false))))
abbrev Et (aJ:Int) (aZ:D->Prop) (bR:Nat):Prop:=br ((aj.ins.2 ax.toNat).1==16) (br (decide (aJ<ax)) (aZ (bool true)) (ak9 aj aJ bR ax aZ)) (ak9 aj aJ bR ax aZ)
theorem aQ5 (t:ak) (a b:Int) (i:Nat) (h:br (a==b) (QD (bool false)) (nd (bQ a t.2.1) (nd (bQ b t.2.1) (br ((t.ins.2 a.toNat).1==16) (br ((t.ins.2 b.toNat).1==16) (QD (bool true)) (br ((t.ins.2 a.toNat).1==16) (br (decide (b<a)) (QD (bool true)) (Et t b a QD i)) (Et t b a QD i))) (br ((t.ins.2 a.toNat).1==16) (br (decide (b<a)) (QD (bool true)) (Et t b a QD i)) (Et t b a QD i)))))):ep an3 111 aj6 L (bf QD) [aO t,int a,int b,int i] []:=km h
theorem SK (ha:bQ a t.ins.n=true) (hb:bQ b t.ins.n=true) (hi:i<=t.ins.n) (hS:aM t):LC 111 [aO t,int a,int b,int i] [] (bool (Zb t a b i)) []:=by
 have hm:bQ (if b>a then b else a) t.ins.n=true:=by split<;>assumption
 refine pv (X:=an3) (stop:=aj6) ba9 (aQ5 _ _ t a b i ?_)
 repeat' (first|refine ai (by first|assumption|exact aF3 (by assumption) hi (by assumption)) ?_|refine ag (λh=>?_) (λh=>?_)|refine ⟨aB5 _ _ _ (by assumption) hi hS,?_⟩|refine ⟨JE _ _,?_⟩|done)
 all_goals (try rw [Ez (s:=l6 t a i) (by assumption),Ez (s:=l6 t b i) (by assumption)])
 all_goals grind [Zb,tlS,aX.refl]
end
open Go Go.V
section
variable (t:ak) (p q:Nat)
def ae6 (b c:Int):Bool:=(t.ins.get b.toNat).op==2&&((t.ins.get c.toNat).op==2&&((t.ins.get b.toNat).k.kind==3&&((t.ins.get c.toNat).k.kind==3&&(t.ins.get b.toNat).k.n != (t.ins.get c.toNat).k.n)))
def r9:Int:=bif (t.ins.get p).a==(t.ins.get q).a then (bif ae6 t (t.ins.get p).b (t.ins.get q).b then 0 else 1) else bif apL t (t.ins.get p).a (t.ins.get q).a p then 0 else 1
def r7:Int:=bif (t.ins.get p).a==(t.ins.get q).a&&(jP (t.ins.get p).op||(t.ins.get p).b==(t.ins.get q).b) then 2 else r9 t p q
def cf:Int:=bif (!kv (t.ins.get p).op||(!kv (t.ins.get q).op || !(jP (t.ins.get p).op==jP (t.ins.get q).op)))||(jP (t.ins.get p).op&&(t.ins.get p).n != (t.ins.get q).n) then 0 else r7 t p q
def s5:Int:=bif pw (t.ins.get p).op then (bif (t.ins.get p).n != (t.ins.get q).n then 0 else bif (t.ins.get p).a==(t.ins.get q).a then 2 else bif Zb t (t.ins.get p).a (t.ins.get q).a p then 0 else 1) else bif (t.ins.get p).a==(t.ins.get q).a then (bif (t.ins.get p).b==(t.ins.get q).b then 2 else bif ae6 t (t.ins.get p).b (t.ins.get q).b then 0 else 1) else bif Zb t (t.ins.get p).a (t.ins.get q).a p then 0 else 1
def B3:Int:=bif (!kx (t.ins.get p).op && !zw (t.ins.get p).op)||((!kx (t.ins.get q).op && !zw (t.ins.get q).op) || !(pw (t.ins.get p).op==pw (t.ins.get q).op)) then 0 else s5 t p q
end
def bp9:Ao:=[
 (109,λds rs=>(bool (apL (dO ds 0) (aI ds 1) (aI ds 2) (aI ds 3).toNat),[],[])),
 (111,λds rs=>(bool (Zb (dO ds 0) (aI ds 1) (aI ds 2) (aI ds 3).toNat),[],[])),
 (65,λds rs=>(int (cf (dO ds 0) (min (aI ds 1).toNat (aI ds 2).toNat) (max (aI ds 1).toNat (aI ds 2).toNat)),[],[])),
 (66,λds rs=>(int (B3 (dO ds 0) (aI ds 1).toNat (aI ds 2).toNat),[],[]))]
def pY:=ext F11 bp9
structure gK (t:ak):Prop where
 a:∀ k,k<t.ins.n->kv (t.ins.get k).op=true->bQ (t.ins.get k).a t.ins.n=true
 b:∀ k,k<t.ins.n->kv (t.ins.get k).op=true->jP (t.ins.get k).op=false->bQ (t.ins.get k).b t.ins.n=true
section
variable (op:Int)
theorem la:kx op=ij op:=rfl
theorem qE:zw op=et op:=rfl
theorem Yy:pw op=jP op:=rfl
end
def Hj:eU:={ F:=pY }
section
variable (L aj:LP) (QD:D->Prop) (ax:Nat) (t aJ:ak) (i aZ j p q:Nat)
def GM:Nat->Bool:=λi=>Nat.beq i 2||Nat.beq i 7||Nat.beq i 9
theorem bu5:Fn 65:={}
theorem bD1 (h:L (af 65 2) ⟨[(1,((int (if (↑j:Int)<(↑i:Int) then (↑j:Int) else (↑i:Int))),[])),(2,((int (if (↑j:Int)>(↑i:Int) then (↑j:Int) else (↑i:Int))),[])),dc],[(aU t)],[]⟩):ep Hj 65 GM L (bf QD) [aO t,int i,int j] []:=km h
def TW (i j:Nat) (p q:Nat):VS:=⟨[(1,int p,[]),(2,int q,[]),jZ],[(aU t)],[]⟩
abbrev Tj:Prop:=aj (af 65 7) ⟨[(dy ax),dc,(7,((.c (.rt 1 0 0)),[])),(8,((.c (.rt 2 0 0)),[])),(28,((bool false),[]))],[(aU aJ),(ma aJ ax),(ma aJ aZ),.dead,.dead,.dead,.dead],[]⟩
theorem aJ0 (h:nd (bQ (↑p:Int) t.2.1) (nd (bQ (↑q:Int) t.2.1) (nd (bQ (↑p:Int) t.2.1) (nd (bQ (↑q:Int) t.2.1) ((LC 107 (gf t p) [] (bool (kv (t.ins.2 p).1)) []/\br (!kv (t.ins.2 p).1) (QD (int 0)) ((LC 107 (gf t q) [] (bool (kv (t.ins.2 q).1)) []/\br (!kv (t.ins.2 q).1) (QD (int 0)) ((LC 108 (gf t p) [] (bool (jP (t.ins.2 p).1)) []/\(LC 108 (gf t q) [] (bool (jP (t.ins.2 q).1)) []/\br (!jP (t.ins.2 p).1==jP (t.ins.2 q).1) (QD (int 0)) ((LC 108 (gf t p) [] (bool (jP (t.ins.2 p).1)) []/\br (jP (t.ins.2 p).1) (br ((t.ins.2 p).5 != (t.ins.2 q).5) (QD (int 0)) (Tj L p t q)) (Tj L p t q)))))))))))))):b5 Hj 65 GM L (bf QD) 2 (TW t i j p q):=km h
abbrev K4 (aj:Nat) (ax:ak) (aJ:Nat):VS:=⟨[(oM aj),jZ,(7,(.c (.rt 1 0 0)),[]),(8,(.c (.rt 2 0 0)),[])],[(aU ax),(ma ax aj),(ma ax aJ)],[]⟩
def Ad (i j:Nat) (p q:Nat):VS:=(K4 p t q)
abbrev Re:Prop:=aj (af 65 9) ⟨[(dy ax),dc,(7,((.c (.rt 1 0 0)),[])),(8,((.c (.rt 2 0 0)),[])),(60,((bool false),[]))],[(aU aJ),(ma aJ ax),(ma aJ aZ)],[]⟩
theorem ax9 (h:br ((t.ins.2 p).2==(t.ins.2 q).2) ((LC 108 (gf t p) [] (bool (jP (t.ins.2 p).1)) []/\br (jP (t.ins.2 p).1) (QD (int 2)) (br ((t.ins.2 p).3==(t.ins.2 q).3) (QD (int 2)) (Re L p t q)))) (Re L p t q)):b5 Hj 65 GM L (bf QD) 7 (Ad t i j p q):=km h
end
section
variable (aj:ak) (L:LP) (t:ak) (ax:Nat) (QD:D->Prop) (i aJ j p:Nat) (aZ:D->Prop) (q:Nat)
def E6 (i j:Nat) (p q:Nat):VS:=(K4 p t q)
abbrev QY:Prop:=nd (bQ (aj.ins.2 ax).3 aj.2.1) (nd (bQ (aj.ins.2 aJ).3 aj.2.1) (br ((aj.ins.2 (aj.ins.2 ax).3.toNat).1==2) (br ((aj.ins.2 (aj.ins.2 aJ).3.toNat).1==2) (br ((aj.ins.2 (aj.ins.2 ax).3.toNat).7.1==3) (br ((aj.ins.2 (aj.ins.2 aJ).3.toNat).7.1==3) (br ((aj.ins.2 (aj.ins.2 ax).3.toNat).7.2 != (aj.ins.2 (aj.ins.2 aJ).3.toNat).7.2) (aZ (int 0)) (aZ (int 1))) (aZ (int 1))) (aZ (int 1))) (aZ (int 1))) (aZ (int 1))))
theorem aF9 (t:ak) (i j:Nat) (p q:Nat) (h:br ((t.ins.2 p).2==(t.ins.2 q).2) (nd (bQ (t.ins.2 p).3 t.2.1) (nd (bQ (t.ins.2 q).3 t.2.1) (QY t p q QD))) ((LC 109 [(ez t),(int ((t.ins.2 p).2)),(int ((t.ins.2 q).2)),(int (↑p:Int))] [] (bool (apL t (t.ins.2 p).2 (t.ins.2 q).2 p)) []/\br (apL t (t.ins.2 p).2 (t.ins.2 q).2 p) (QD (int 0)) (QD (int 1))))):b5 Hj 65 GM L (bf QD) 9 (E6 t i j p q):=km h
theorem SH (hp:p<t.ins.n) (hq:q<t.ins.n) (hS:aM t) (ha:bQ (t.ins.get p).a t.ins.n=true) (hb:bQ (t.ins.get q).a t.ins.n=true) (hc:((t.ins.get p).a==(t.ins.get q).a)=true->bQ (t.ins.get p).b t.ins.n=true/\bQ (t.ins.get q).b t.ins.n=true):ae 65 0 (a7 (int (r9 t p q))) (af 65 9) (E6 t i j p q):=by
 refine aK (X:=Hj) (stop:=GM) (aF9 _ _ t i j p q ?_)
 refine ag (λh=>?_) (λh=>⟨aH1 t _ _ p ha hb (by omega) hS,?_⟩)
 .grind [ai,ag,r9,ae6,aX.refl]
 grind [ag,r9,aX.refl]
theorem aE3 (hp:p<t.ins.n) (hq:q<t.ins.n) (hS:aM t) (hm:gK t) (h1:kv (t.ins.get p).op=true) (h2:kv (t.ins.get q).op=true) (h3:jP (t.ins.get p).op=jP (t.ins.get q).op):ae 65 0 (a7 (int (r7 t p q))) (af 65 7) (Ad t i j p q):=by
 have ha:=hm.a p hp h1
 have hb:=hm.a q hq h2
 refine aK (X:=Hj) (stop:=GM) (ax9 _ _ t i j p q ?_)
 refine ag (λh=>⟨Gj _,ag (λh4=>?_) (λh4=>ag (λh5=>?_) (λh5=>?_))⟩) (λh=>?_)
 .grind [r7,aX.refl]
 .grind [r7,aX.refl]
 .have h4:jP (t.ins.get p).op=false:=h4
  rw [show r7 t p q=r9 t p q from by grind [r7]]
  exact ae.rename [0,1,2] rfl (ae.lr (E6 t i j p q) (SH t i j p q hp hq hS ha hb (λ_=>⟨hm.b p hp h1 h4,hm.b q hq h2 (h3▸h4)⟩)))
 .rw [show r7 t p q=r9 t p q from by grind [r7]]
  exact ae.rename [0,1,2] rfl (ae.lr (E6 t i j p q) (SH t i j p q hp hq hS ha hb (λe=>by grind)))
theorem aC2 (hp:p<t.ins.n) (hq:q<t.ins.n) (hS:aM t) (hm:gK t):ae 65 0 (a7 (int (cf t p q))) (af 65 2) (TW t i j p q):=by
 refine aK (X:=Hj) (stop:=GM) (aJ0 _ _ t i j p q ?_)
 have np:=aC hp
 have nq:=aC hq
 refine ai np (ai nq (ai np (ai nq ⟨TB _,?_⟩)))
 refine ag (λh1=>?_) (λh1=>⟨TB _,ag (λh2=>?_) (λh2=>⟨Gj _,Gj _,ag (λh3=>?_) (λh3=>⟨Gj _,?_⟩)⟩)⟩)
 .grind [cf,aX.refl]
 .grind [cf,aX.refl]
 .grind [cf,aX.refl]
 .have nD:(!kv (t.ins.get p).op)=false:=h1
  have ig:(!kv (t.ins.get q).op)=false:=h2
  have lD:(!(jP (t.ins.get p).op==jP (t.ins.get q).op))=false:=h3
  have e1:kv (t.ins.get p).op=true:=by simpa using nD
  have e2:kv (t.ins.get q).op=true:=by simpa using ig
  have e3:jP (t.ins.get p).op=jP (t.ins.get q).op:=by simpa using lD
  have fin:cf t p q=r7 t p q->∀ s,s=Ad t i j p q->ae 65 0 (a7 (int (cf t p q))) (af 65 7) s:=λe s q'=>by rw [e,q']; exact aE3 t i j p q hp hq hS hm e1 e2 e3
  refine ag (λh4=>ag (λh5=>?_) (λh5=>?_)) (λh4=>?_)
  .grind [cf,aX.refl]
  .exact ae.rename [0,1,2] rfl (ae.lr (Ad t i j p q) (fin (by grind [cf]) _ rfl))
  .exact ae.rename [0,1,2] rfl (ae.lr (Ad t i j p q) (fin (by grind [cf]) _ rfl))
theorem ah3 (hi:i<t.ins.n) (hj:j<t.ins.n) (hS:aM t) (hm:gK t):LC 65 [aO t,int i,int j] [] (int (cf t (min i j) (max i j))) []:=by
 refine pv (X:=Hj) (stop:=GM) bu5 (bD1 _ _ t i j ?_)
 rw [show (if (j:Int)<(i:Int) then (j:Int) else (i:Int))=((min i j:Nat):Int) from by split<;>omega,show (if (j:Int)>(i:Int) then (j:Int) else (i:Int))=((max i j:Nat):Int) from by split<;>omega]
 exact aC2 t i j _ _ (by omega) (by omega) hS hm
def Y7:eU:={ F:=pY }
def ad2:Nat->Bool:=λi=>Nat.beq i 5
theorem bw3:Fn 66:={}
abbrev aj9 (bR:LP):Prop:=(LC 110 (gf aj ax) [] (bool (pw (aj.ins.2 ax).1)) []/\(LC 110 (gf aj aJ) [] (bool (pw (aj.ins.2 aJ).1)) []/\br (!pw (aj.ins.2 ax).1==pw (aj.ins.2 aJ).1) (aZ (int 0)) (bR (af 66 5) ⟨[(dy ax),dc,(7,((.c (.rt 1 0 0)),[])),(8,((.c (.rt 2 0 0)),[])),(51,((bool false),[]))],[(aU aj),(.box (lift (bW (aj.ins.2 ax)))),(.box (lift (bW (aj.ins.2 aJ)))),.dead,.dead,.dead,.dead,.dead,.dead],[]⟩)))
abbrev VB (aJ:D->Prop) (aZ:Nat) (bR:LP):Prop:=(LC 104 (gf aj ax) [] (bool (kx (aj.ins.2 ax).1)) []/\br (!kx (aj.ins.2 ax).1) ((LC 63 (gf aj ax) [] (bool (zw (aj.ins.2 ax).1)) []/\br (!zw (aj.ins.2 ax).1) (aJ (int 0)) (aj9 aj aZ ax aJ bR))) (aj9 aj aZ ax aJ bR))
theorem bq0 (t:ak) (p q:Nat) (h:nd (bQ (↑p:Int) t.2.1) (nd (bQ (↑q:Int) t.2.1) ((LC 104 (gf t p) [] (bool (kx (t.ins.2 p).1)) []/\br (!kx (t.ins.2 p).1) ((LC 63 (gf t p) [] (bool (zw (t.ins.2 p).1)) []/\br (!zw (t.ins.2 p).1) (QD (int 0)) (VB t q QD p L))) (VB t q QD p L))))):ep Y7 66 ad2 L (bf QD) [aO t,int p,int q] []:=km h
def DP  : VS:=(K4 p t q)
abbrev Tg:Prop:=(LC 111 [(ez aj),(int ((aj.ins.2 ax).2)),(int ((aj.ins.2 aJ).2)),(fp ax)] [] (bool (Zb aj (aj.ins.2 ax).2 (aj.ins.2 aJ).2 ax)) []/\br (Zb aj (aj.ins.2 ax).2 (aj.ins.2 aJ).2 ax) (aZ (int 0)) (aZ (int 1)))
theorem aw8 (t:ak) (p q:Nat) (h:(LC 110 (gf t p) [] (bool (pw (t.ins.2 p).1)) []/\br (pw (t.ins.2 p).1) (br ((t.ins.2 p).5 != (t.ins.2 q).5) (QD (int 0)) (br ((t.ins.2 p).2==(t.ins.2 q).2) (QD (int 2)) (Tg t p q QD))) (br ((t.ins.2 p).2==(t.ins.2 q).2) (br ((t.ins.2 p).3==(t.ins.2 q).3) (QD (int 2)) (QY t p q QD)) (Tg t p q QD)))):b5 Y7 66 ad2 L (bf QD) 5 (DP t p q ):=km h
theorem aF5 (hp:p<t.ins.n) (hq:q<t.ins.n) (hS:aM t) (hm:gK t) (h1:kv (t.ins.get p).op=true) (h2:kv (t.ins.get q).op=true) (h3:jP (t.ins.get p).op=jP (t.ins.get q).op):ae 66 0 (a7 (int (s5 t p q))) (af 66 5) (DP t p q):=by
 have ha:=hm.a p hp h1
 have hb:=hm.a q hq h2
 refine aK (X:=Y7) (stop:=ad2) (aw8 _ _ t p q ⟨S4 _,?_⟩)
 refine ag (λh4=>?_) (λh4=>?_)
 .have h4:pw (t.ins.get p).op=true:=h4
  refine ag (λh5=>?_) (λh5=>ag (λh6=>?_) (λh6=>⟨SK t _ _ p ha hb (by omega) hS,ag (λh7=>?_) (λh7=>?_)⟩))
  .grind [s5,aX.refl]
  all_goals grind [s5,aX.refl]
 .have h4:pw (t.ins.get p).op=false:=h4
  have hc:=hm.b p hp h1 h4
  have hd:=hm.b q hq h2 (h3▸h4)
  refine ag (λh5=>ag (λh6=>?_) (λh6=>ai hc (ai hd ?_))) (λh5=>⟨SK t _ _ p ha hb (by omega) hS,ag (λh7=>?_) (λh7=>?_)⟩)
  .grind [s5,aX.refl]
  .grind [ag,s5,ae6,aX.refl]
  all_goals grind [s5,aX.refl]
theorem aQ6 (hp:p<t.ins.n) (hq:q<t.ins.n) (hS:aM t) (hm:gK t):LC 66 [aO t,int p,int q] [] (int (B3 t p q)) []:=by
 refine pv (X:=Y7) (stop:=ad2) bw3 (bq0 _ _ t p q (ai (aC hp) (ai (aC hq) ?_)))
 have fin:kv (t.ins.get p).op=true->kv (t.ins.get q).op=true->(pw (t.ins.get p).op==pw (t.ins.get q).op)=true->B3 t p q=s5 t p q->∀ s,s=DP t p q->ae 66 0 (a7 (int (B3 t p q))) (af 66 5) s:=λa b c e s q'=>by
  have c:pw (t.ins.get p).op=pw (t.ins.get q).op:=by simpa using c
  rw [e,q']; exact aF5 t p q hp hq hS hm a b c
 clear hp hq hS hm
 repeat' (first|refine ag (λh=>?_) (λh=>?_)|refine ⟨AE _,?_⟩|refine ⟨uP _,?_⟩|refine ⟨S4 _,?_⟩|done)
 all_goals (try simp only [Bool.not_eq_true',Bool.not_eq_false'] at *)
 all_goals first
  | (have e:B3 t p q=0:=by (simp only [B3, *,fg]; done)
     rw [e]; exact aX.refl _)
  | exact ae.rename [0,1,2] rfl (ae.lr (DP t p q) (fin (by grind [kv,la,qE]) (by grind [kv,la,qE]) (by assumption) (by grind [B3]) _ rfl))
end
open Go Go.V
theorem CJ {n:Int}:∀ {l:List Int},fe n l=true↔n∈l
 | []=>by simp [fe]
 | x::l=>by
   unfold fe
   split
   .grind
   .rename_i h
    simp only [beq_eq_false_iff_ne] at h
    rw [CJ]
    simp [h]
theorem Cv {n m:Int} {l:List Int}:fe n (vi m l)=(fe n l||(n==m)):=by
 grind [CJ,vi]
theorem Bi {x:Sq cZ} {v:Int}:∀ {j:Nat},fe v (nk x j)=true↔∃ i,i<j/\(x.get i).value=v
 | 0=>by simp [nk,fe]
 | j+1=>by
   rw [show nk x (j+1)=vi (x.get j).value (nk x j) from rfl,Cv,Bool.or_eq_true,Bi,beq_iff_eq]
   grind
theorem UN {x:Sq cZ} {v:Int}:decide (vY x v<0) = !fe v (nk x x.n):=by
 grind [Bi,vY,rO]
theorem KU {x:Sq cZ} {j:Nat} (hj:j<x.n):(vY x (x.get j).value != (j:Int))=fe (x.get j).value (nk x j):=by
 grind [Bi,vY,rO]
theorem HQ {a b:Sq ByteArray}:cz lg a b=cz lg b a:=by
 grind [cz,GN]
theorem Mf {p q:Nat->Bool} {n:Nat} (h:∀ i,i<n->p i=q i):eh p n=eh q n:=xx λi _ hi=>h i (by omega)
theorem S8 {p:Int->Bool} (x y:Sq Int):eh (λi=>p ((eA x y).get i)) (eA x y).n=(eh (λi=>p (x.get i)) x.n&&eh (λi=>p (y.get i)) y.n):=by
 have g:∀ i,(eA x y).get i=if i<x.n then x.get i else y.get (i-x.n):=λi=>by
  show (Bool.rec (y.get (i-x.n)) (x.get i) (Nat.blt i x.n):Int)=_
  cases hb:Nat.blt i x.n with
  | true=>simp_all
  | false=>rw [if_neg (λq=>by rw [bX q] at hb; cases hb)]
 rw [an4,fC,kE,kE,kE]
 constructor
 .intro h
  refine ⟨λi hi=>?_,λi hi=>?_⟩
  .have:=h i (by show i<x.n+y.n; omega)
   simpa [g,hi] using this
  .have:=h (x.n+i) (by show x.n+i<x.n+y.n; omega)
   grind
 .rintro ⟨h1,h2⟩ i hi
  have hi:i<x.n+y.n:=hi
  grind
theorem yO {p:Int->Bool} {g:Nat->Sq Int}:∀ {m k:Nat} {l:Sq Int},eh (λi=>p ((xW g m k l).get i)) (xW g m k l).n=(eh (λi=>p (l.get i)) l.n&&cB (λj=>eh (λi=>p ((g j).get i)) (g j).n) m k)
 | 0,k,l=>by simp [xW,cB]
 | m+1,k,l=>by
   rw [show xW g (m+1) k l=xW g m (k+1) (eA l (g k)) from rfl,yO,S8]
   grind [cB]
theorem ay4 (t:ak) (e:aq) (k:Int):pP t e k=lK t e k:=by
 have e1:eh (Qg t e k) e.az.n=eh (OO t e k) e.az.n:=Mf λj hj=>by
  grind [Qg,OO,KU,cz,lg]
 have e2:PQ t e k=kO t k (nk e.az e.az.n):=funext λv=>by
  grind [PQ,kO,UN]
 unfold pP lK x12 x21 allM
 rw [yO (p:=PQ t e k),yO (p:=PQ t e k),e1,e2]
 show _=(_&&(_&&(_&&(eh (λj=>eh (λi=>kO t k (nk e.az e.az.n) ((e.frames.get j).vars.get i)) (e.frames.get j).vars.n) e.frames.n&&eh (λj=>eh (λi=>kO t k (nk e.az e.az.n) ((e.az.get j).items.get i)) (e.az.get j).items.n) e.az.n))))
 have e3:eh (λi=>kO t k (nk e.az e.az.n) ((aH 0:Sq Int).get i)) (aH 0:Sq Int).n=true:=rfl
 grind [eh]
open Go Go.V
theorem cq {α:Type} {e:α->α->Bool} {x:Sq α} {g:Nat->α}:cz e x ⟨0,g⟩=(x.n==0):=by
 unfold cz
 cases h:x.n==0 with
 | true=>
   have:x.n=0:=by simpa using h
   rw [this]; rfl
 | false=>rfl
theorem cu (x:Sq Int):cz (λa b=>a==b) x x=true:=by
 unfold cz
 simp [kE]
theorem ct (x:Sq ByteArray):cz lg x x=true:=by
 unfold cz
 simp [kE,lg]
theorem ej (s:ByteArray):(s==s)=true:=by
 show ByteArray.beq s s=true
 simp [ByteArray.beq]
theorem er (b:Bool):(bif b then true else false)=b:=by cases b<;>rfl
section
variable (a b c n:Int) (args:Sq Int) (kk kn:Int) (ks:ByteArray) (names:Sq ByteArray) (pf pl exit:Int) (once:Bool)
theorem aR7 (hn:n<=9223372036854775807):bw ⟨0,a,b,c,n,args,⟨kk,kn,ks⟩,names,⟨pf,pl⟩,exit,once⟩=bC ⟨0,a,b,c,n,args,⟨kk,kn,ks⟩,names,⟨pf,pl⟩,exit,once⟩:=by
 simp [bw,jM,yA,lz,aW,gL,bC,tI,rN,pX,pe,fF,fz,gS,ek,zeroV,ft,cd,dr,cq,cu,ct,er,ej]
 grind
theorem bh5 (hn:n<=9223372036854775807):bw ⟨1,a,b,c,n,args,⟨kk,kn,ks⟩,names,⟨pf,pl⟩,exit,once⟩=bC ⟨1,a,b,c,n,args,⟨kk,kn,ks⟩,names,⟨pf,pl⟩,exit,once⟩:=by
 cases hk:(kk==3)<;>cases h1:decide (kn≥0)<;>cases h2:decide (kn<=23)<;>simp only [beq_iff_eq,beq_eq_false_iff_ne,decide_eq_true_eq,decide_eq_false_iff_not] at hk h1 h2
 all_goals
  simp [bw,jM,yA,lz,aW,gL,bC,tI,rN,pX,pe,fF,fz,gS,ek,zeroV,ft,cd,dr,hk,h1,h2,cq,cu,ct,er,ej]
 all_goals grind
theorem aT9 (hn:n<=9223372036854775807):bw ⟨2,a,b,c,n,args,⟨kk,kn,ks⟩,names,⟨pf,pl⟩,exit,once⟩=bC ⟨2,a,b,c,n,args,⟨kk,kn,ks⟩,names,⟨pf,pl⟩,exit,once⟩:=by
 simp [bw,jM,yA,lz,aW,gL,bC,tI,rN,pX,pe,fF,fz,gS,ek,zeroV,ft,cd,dr,cq,cu,ct,er,ej]
 grind
theorem be9 (hn:n<=9223372036854775807):bw ⟨3,a,b,c,n,args,⟨kk,kn,ks⟩,names,⟨pf,pl⟩,exit,once⟩=bC ⟨3,a,b,c,n,args,⟨kk,kn,ks⟩,names,⟨pf,pl⟩,exit,once⟩:=by
 cases h1:(n==3)
 all_goals
  simp only [bw,jM,lz,h1,show ((3:Int)==3)=true from rfl,cond_true,cond_false]
  simp only [beq_iff_eq,beq_eq_false_iff_ne] at h1
  simp [bw,jM,yA,lz,aW,gL,bC,tI,rN,pX,pe,fF,fz,gS,ek,zeroV,ft,cd,dr,h1,cq,cu,ct,er,ej]
 all_goals grind
theorem aZ8 (hn:n<=9223372036854775807):bw ⟨4,a,b,c,n,args,⟨kk,kn,ks⟩,names,⟨pf,pl⟩,exit,once⟩=bC ⟨4,a,b,c,n,args,⟨kk,kn,ks⟩,names,⟨pf,pl⟩,exit,once⟩:=by
 simp [bw,jM,yA,lz,aW,gL,bC,tI,rN,pX,pe,fF,fz,gS,ek,zeroV,ft,cd,dr,cq,cu,ct,er,ej]
 grind
theorem bj4 (hn:n<=9223372036854775807):bw ⟨5,a,b,c,n,args,⟨kk,kn,ks⟩,names,⟨pf,pl⟩,exit,once⟩=bC ⟨5,a,b,c,n,args,⟨kk,kn,ks⟩,names,⟨pf,pl⟩,exit,once⟩:=by
 simp [bw,jM,yA,lz,aW,gL,bC,tI,rN,pX,pe,fF,fz,gS,ek,zeroV,ft,cd,dr,cq,cu,ct,er,ej]
 grind
theorem aW1 (hn:n<=9223372036854775807):bw ⟨6,a,b,c,n,args,⟨kk,kn,ks⟩,names,⟨pf,pl⟩,exit,once⟩=bC ⟨6,a,b,c,n,args,⟨kk,kn,ks⟩,names,⟨pf,pl⟩,exit,once⟩:=by
 simp [bw,jM,yA,lz,aW,gL,bC,tI,rN,pX,pe,fF,fz,gS,ek,zeroV,ft,cd,dr,cq,cu,ct,er,ej]
 grind
theorem bc2 (hn:n<=9223372036854775807):bw ⟨7,a,b,c,n,args,⟨kk,kn,ks⟩,names,⟨pf,pl⟩,exit,once⟩=bC ⟨7,a,b,c,n,args,⟨kk,kn,ks⟩,names,⟨pf,pl⟩,exit,once⟩:=by
 cases h1:decide (n≥0)<;>simp only [decide_eq_true_eq,decide_eq_false_iff_not] at h1
 all_goals
  simp [bw,jM,yA,lz,aW,gL,bC,tI,rN,pX,pe,fF,fz,gS,ek,zeroV,ft,cd,dr,h1,cq,cu,ct,er,ej]
 grind
theorem bb5 (hn:n<=9223372036854775807):bw ⟨8,a,b,c,n,args,⟨kk,kn,ks⟩,names,⟨pf,pl⟩,exit,once⟩=bC ⟨8,a,b,c,n,args,⟨kk,kn,ks⟩,names,⟨pf,pl⟩,exit,once⟩:=by
 simp [bw,jM,yA,lz,aW,gL,bC,tI,rN,pX,pe,fF,fz,gS,ek,zeroV,ft,cd,dr,cq,cu,ct,er,ej]
 grind
theorem aM2 (hn:n<=9223372036854775807):bw ⟨9,a,b,c,n,args,⟨kk,kn,ks⟩,names,⟨pf,pl⟩,exit,once⟩=bC ⟨9,a,b,c,n,args,⟨kk,kn,ks⟩,names,⟨pf,pl⟩,exit,once⟩:=by
 simp [bw,jM,yA,lz,aW,gL,bC,tI,rN,pX,pe,fF,fz,gS,ek,zeroV,ft,cd,dr,cq,cu,ct,er,ej]
 grind
theorem az7 (hn:n<=9223372036854775807):bw ⟨10,a,b,c,n,args,⟨kk,kn,ks⟩,names,⟨pf,pl⟩,exit,once⟩=bC ⟨10,a,b,c,n,args,⟨kk,kn,ks⟩,names,⟨pf,pl⟩,exit,once⟩:=by
 simp [bw,jM,yA,lz,aW,gL,bC,tI,rN,pX,pe,fF,fz,gS,ek,zeroV,ft,cd,dr,cq,cu,ct,er,ej]
 grind
theorem ax7 (hn:n<=9223372036854775807):bw ⟨11,a,b,c,n,args,⟨kk,kn,ks⟩,names,⟨pf,pl⟩,exit,once⟩=bC ⟨11,a,b,c,n,args,⟨kk,kn,ks⟩,names,⟨pf,pl⟩,exit,once⟩:=by
 simp [bw,jM,yA,lz,aW,gL,bC,tI,rN,pX,pe,fF,fz,gS,ek,zeroV,ft,cd,dr,cq,cu,ct,er,ej]
 grind
theorem ar9 (hn:n<=9223372036854775807):bw ⟨12,a,b,c,n,args,⟨kk,kn,ks⟩,names,⟨pf,pl⟩,exit,once⟩=bC ⟨12,a,b,c,n,args,⟨kk,kn,ks⟩,names,⟨pf,pl⟩,exit,once⟩:=by
 simp [bw,jM,yA,lz,aW,gL,bC,tI,rN,pX,pe,fF,fz,gS,ek,zeroV,ft,cd,dr,cq,cu,ct,er,ej]
 grind
theorem aD3 (hn:n<=9223372036854775807):bw ⟨13,a,b,c,n,args,⟨kk,kn,ks⟩,names,⟨pf,pl⟩,exit,once⟩=bC ⟨13,a,b,c,n,args,⟨kk,kn,ks⟩,names,⟨pf,pl⟩,exit,once⟩:=by
 simp [bw,jM,yA,lz,aW,gL,bC,tI,rN,pX,pe,fF,fz,gS,ek,zeroV,ft,cd,dr,cq,cu,ct,er,ej]
 grind
theorem aF8 (hn:n<=9223372036854775807):bw ⟨14,a,b,c,n,args,⟨kk,kn,ks⟩,names,⟨pf,pl⟩,exit,once⟩=bC ⟨14,a,b,c,n,args,⟨kk,kn,ks⟩,names,⟨pf,pl⟩,exit,once⟩:=by
 simp [bw,jM,yA,lz,aW,gL,bC,tI,rN,pX,pe,fF,fz,gS,ek,zeroV,ft,cd,dr,cq,cu,ct,er,ej]
 grind
theorem aJ6 (hn:n<=9223372036854775807):bw ⟨15,a,b,c,n,args,⟨kk,kn,ks⟩,names,⟨pf,pl⟩,exit,once⟩=bC ⟨15,a,b,c,n,args,⟨kk,kn,ks⟩,names,⟨pf,pl⟩,exit,once⟩:=by
 simp [bw,jM,yA,lz,aW,gL,bC,tI,rN,pX,pe,fF,fz,gS,ek,zeroV,ft,cd,dr,cq,cu,ct,er,ej]
 grind
theorem at5 (hn:n<=9223372036854775807):bw ⟨16,a,b,c,n,args,⟨kk,kn,ks⟩,names,⟨pf,pl⟩,exit,once⟩=bC ⟨16,a,b,c,n,args,⟨kk,kn,ks⟩,names,⟨pf,pl⟩,exit,once⟩:=by
 cases h1:decide (n≥0)<;>simp only [decide_eq_true_eq,decide_eq_false_iff_not] at h1
 all_goals
  simp [bw,jM,yA,lz,aW,gL,bC,tI,rN,pX,pe,fF,fz,gS,ek,zeroV,ft,cd,dr,h1,cq,cu,ct,er,ej]
 grind
theorem aw6 (hn:n<=9223372036854775807):bw ⟨17,a,b,c,n,args,⟨kk,kn,ks⟩,names,⟨pf,pl⟩,exit,once⟩=bC ⟨17,a,b,c,n,args,⟨kk,kn,ks⟩,names,⟨pf,pl⟩,exit,once⟩:=by
 cases h1:decide (n≥0)<;>simp only [decide_eq_true_eq,decide_eq_false_iff_not] at h1
 all_goals
  simp [bw,jM,yA,lz,aW,gL,bC,tI,rN,pX,pe,fF,fz,gS,ek,zeroV,ft,cd,dr,h1,cq,cu,ct,er,ej]
 grind
theorem aD5 (hn:n<=9223372036854775807):bw ⟨18,a,b,c,n,args,⟨kk,kn,ks⟩,names,⟨pf,pl⟩,exit,once⟩=bC ⟨18,a,b,c,n,args,⟨kk,kn,ks⟩,names,⟨pf,pl⟩,exit,once⟩:=by
 simp [bw,jM,yA,lz,aW,gL,bC,tI,rN,pX,pe,fF,fz,gS,ek,zeroV,ft,cd,dr,cq,cu,ct,er,ej]
 grind
theorem aA0 (hn:n<=9223372036854775807):bw ⟨19,a,b,c,n,args,⟨kk,kn,ks⟩,names,⟨pf,pl⟩,exit,once⟩=bC ⟨19,a,b,c,n,args,⟨kk,kn,ks⟩,names,⟨pf,pl⟩,exit,once⟩:=by
 cases h1:decide (pf≥0)<;>simp only [decide_eq_true_eq,decide_eq_false_iff_not] at h1
 all_goals
  simp [bw,jM,yA,lz,aW,gL,bC,tI,rN,pX,pe,fF,fz,gS,ek,zeroV,ft,cd,dr,h1,cq,cu,ct,er,ej]
 grind
theorem ar3 (hn:n<=9223372036854775807):bw ⟨20,a,b,c,n,args,⟨kk,kn,ks⟩,names,⟨pf,pl⟩,exit,once⟩=bC ⟨20,a,b,c,n,args,⟨kk,kn,ks⟩,names,⟨pf,pl⟩,exit,once⟩:=by
 simp [bw,jM,yA,lz,aW,gL,bC,tI,rN,pX,pe,fF,fz,gS,ek,zeroV,ft,cd,dr,cq,cu,ct,er,ej]
 grind
theorem aG5 (hn:n<=9223372036854775807):bw ⟨21,a,b,c,n,args,⟨kk,kn,ks⟩,names,⟨pf,pl⟩,exit,once⟩=bC ⟨21,a,b,c,n,args,⟨kk,kn,ks⟩,names,⟨pf,pl⟩,exit,once⟩:=by
 simp [bw,jM,yA,lz,aW,gL,bC,tI,rN,pX,pe,fF,fz,gS,ek,zeroV,ft,cd,dr,cq,cu,ct,er,ej]
 grind
end
open Go Go.V
theorem H0 (x:au) (hn:x.n<=9223372036854775807):bw x=bC x:=by
 obtain ⟨op,a,b,c,n,args,⟨kk,kn,ks⟩,names,⟨pf,pl⟩,exit,once⟩:=x
 by_cases h:0<=op/\op<=21
 .have:op=0∨op=1∨op=2∨op=3∨op=4∨op=5∨op=6∨op=7∨op=8∨op=9∨op=10∨op=11∨op=12∨op=13∨op=14∨op=15∨op=16∨op=17∨op=18∨op=19∨op=20∨op=21:=by omega
  rcases this with rfl|rfl|rfl|rfl|rfl|rfl|rfl|rfl|rfl|rfl|rfl|rfl|rfl|rfl|rfl|rfl|rfl|rfl|rfl|rfl|rfl|rfl
  .exact aR7 a b c n args kk kn ks names pf pl exit once hn
  .exact bh5 a b c n args kk kn ks names pf pl exit once hn
  .exact aT9 a b c n args kk kn ks names pf pl exit once hn
  .exact be9 a b c n args kk kn ks names pf pl exit once hn
  .exact aZ8 a b c n args kk kn ks names pf pl exit once hn
  .exact bj4 a b c n args kk kn ks names pf pl exit once hn
  .exact aW1 a b c n args kk kn ks names pf pl exit once hn
  .exact bc2 a b c n args kk kn ks names pf pl exit once hn
  .exact bb5 a b c n args kk kn ks names pf pl exit once hn
  .exact aM2 a b c n args kk kn ks names pf pl exit once hn
  .exact az7 a b c n args kk kn ks names pf pl exit once hn
  .exact ax7 a b c n args kk kn ks names pf pl exit once hn
  .exact ar9 a b c n args kk kn ks names pf pl exit once hn
  .exact aD3 a b c n args kk kn ks names pf pl exit once hn
  .exact aF8 a b c n args kk kn ks names pf pl exit once hn
  .exact aJ6 a b c n args kk kn ks names pf pl exit once hn
  .exact at5 a b c n args kk kn ks names pf pl exit once hn
  .exact aw6 a b c n args kk kn ks names pf pl exit once hn
  all_goals grind [aD5,aA0,ar3,aG5]
 grind [ek,bw,jM,bC,tI]
section
variable (op:Int) {t:ak}
theorem aG9:(wh op==0) = !Jq op:=by
 by_cases h:0<=op/\op<=21
 .have:op=0∨op=1∨op=2∨op=3∨op=4∨op=5∨op=6∨op=7∨op=8∨op=9∨op=10∨op=11∨op=12∨op=13∨op=14∨op=15∨op=16∨op=17∨op=18∨op=19∨op=20∨op=21:=by omega
  rcases this with rfl|rfl|rfl|rfl|rfl|rfl|rfl|rfl|rfl|rfl|rfl|rfl|rfl|rfl|rfl|rfl|rfl|rfl|rfl|rfl|rfl|rfl<;>rfl
 .have e:∀ c:Int,0<=c->c<=21->(op==c)=false:=λc h1 h2=>by
   grind
  simp [wh,Jq,fy,e]
theorem Ys:(wh op==2)=fy op [5,6,7,8,9,15,18,21]:=by
 by_cases h:0<=op/\op<=21
 .have:op=0∨op=1∨op=2∨op=3∨op=4∨op=5∨op=6∨op=7∨op=8∨op=9∨op=10∨op=11∨op=12∨op=13∨op=14∨op=15∨op=16∨op=17∨op=18∨op=19∨op=20∨op=21:=by omega
  rcases this with rfl|rfl|rfl|rfl|rfl|rfl|rfl|rfl|rfl|rfl|rfl|rfl|rfl|rfl|rfl|rfl|rfl|rfl|rfl|rfl|rfl|rfl<;>rfl
 .have e:∀ c:Int,0<=c->c<=21->(op==c)=false:=λc h1 h2=>by
   grind
  simp [wh,fy,e]
theorem az4:Ns op=fy op [2,3,4,5,6,7,8,9,10,12,14]:=by
 simp [Ns,fy]
theorem aD0 (t:ak) (k:Nat) (hn:(t.ins.get k).n<=9223372036854775807):(a6 t k&&(a12 t k&&(TG t k&&a20 t k)))=(b3 t k&&(b7 t k&&(b9 t k&&(W7 t k&&TG t k)))):=by
 grind [a6,a12,a20,b3,b7,b9,W7,H0,aG9,Ys,az4]
theorem ax3 (t:ak) (l:List Int) (k:Nat) (hn:(t.ins.get k).n<=9223372036854775807) (hl:∀ i:Nat,fe (i:Int) l=cN t k i):(o3 t l k).1=pz t k/\((o3 t l k).1=true->∀ i:Nat,fe (i:Int) (o3 t l k).2=cN t (k+1) i):=by
 have e1:pz t k=((a6 t k&&(a12 t k&&(TG t k&&a20 t k)))&&Jt t k):=by
  grind [pz]
 have e2:o3 t l k=bif (b3 t k&&(b7 t k&&(b9 t k&&(W7 t k&&TG t k)))) then Wm t l k else (false,l):=by
  unfold o3 o7 o9 RT o13
  grind
 rw [e1,e2,aD0 t k hn]
 cases hp:(b3 t k&&(b7 t k&&(b9 t k&&(W7 t k&&TG t k)))) with
 | false=>grind
 | true=>
   simp only [cond_true,Bool.true_and]
   unfold Wm Jt
   cases h0:decide ((t.ins.get k).exit<0) with
   | true=>
     grind [mo]
   | false=>
     have h1:=of_decide_eq_false h0
     have h2:decide ((t.ins.get k).exit≥0)=true:=decide_eq_true (by omega)
     rw [h2]
     obtain ⟨m,hm⟩:=Int.eq_ofNat_of_zero_le (show 0<=(t.ins.get k).exit by omega)
     simp only [cond_false,Bool.not_true,Bool.false_or]
     rw [hm,hl,Int.toNat_natCast]
     grind [ay4,Cv,mo]
theorem MF (t:ak) (hn:∀ k,k<t.ins.n->(t.ins.get k).n<=9223372036854775807):∀ (m k:Nat) (l:List Int),k+m<=t.ins.n->(∀ i:Nat,fe (i:Int) l=cN t k i)->EO t m k l=cB (pz t) m k
 | 0,k,l,_,_=>rfl
 | m+1,k,l,hk,hl=>by
   obtain ⟨h1,h2⟩:=ax3 t l k (hn k (by omega)) hl
   show (bif (o3 t l k).1 then EO t m (k+1) (o3 t l k).2 else false)=(bif pz t k then cB (pz t) m (k+1) else false)
   rw [<- h1]
   cases h:(o3 t l k).1 with
   | false=>rfl
   | true=>exact MF t hn m (k+1) _ (by omega) (h2 h)
theorem zA (t:ak) (hn:∀ k,k<t.ins.n->(t.ins.get k).n<=9223372036854775807):cp t=dS t:=by
 grind [cp,dS,qf,MF,fe,cN,eh,cB]
theorem Pq {k:Nat} (h:pz t k=true):∀ j,j<(aW (t.ins.get k)).n->eF t ((aW (t.ins.get k)).get j) k=true:=by
 grind [pz,TG,kE,u16]
theorem aG4 (h:∀ k,k<t.ins.n->pz t k=true):gK t:=by
 have key:∀ k,k<t.ins.n->∀ j,j<(aW (t.ins.get k)).n->bQ ((aW (t.ins.get k)).get j) t.ins.n=true:=λk hk j hj=>
  po (Pq (h k hk) j hj) (by omega)
 have ops:∀ op:Int,kv op=true->op=10∨op=12∨op=11∨op=13:=λop ho=>by
  simp [kv,ij,et] at ho
  omega
 refine ⟨λk hk ho=>?_,λk hk ho hb=>?_⟩
 .have:=key k hk 0
  rcases ops _ ho with e|e|e|e<;>· simp [aW,gL,e] at this; exact this
 .have:=key k hk 1
  rcases ops _ ho with e|e|e|e
  .simp [jP,e] at hb
  .simp [aW,gL,e] at this; exact this
  .simp [jP,e] at hb
  .simp [aW,gL,e] at this; exact this
theorem wv (h:dS t=0):∀ k,k<t.ins.n->pz t k=true:=by
 grind [dS,qf,kE]
theorem P7 (h:dS t=0):gK t:=aG4 (wv h)
theorem aO4 {a b:Int} {i:Nat}:apL t a b i=Zb t a b i:=by
 grind [apL,Zb]
theorem QN (t:ak) (p q:Nat):cf t p q=B3 t p q:=by
 grind [cf,B3,r7,r9,s5,aO4,la,qE,Yy,kv]
end
open Go Go.V
theorem e6.of {n:Nat}:∀ {l:List ah},(∀ x∈l,jF n x)->e6 n l
 | [],_=>trivial
 | x::l,h=>⟨h x (kz ..),e6.of λy hy=>h y (gJ _ hy)⟩
theorem bt.low {f:FuncId} (hf:Fn f) {ds:List D} {rs aV:List ah} {d:D} (h:e6 rs.length rs->LC f ds rs d aV):LC f ds rs d aV:=
 ⟨hf.enters,λN aA w0 sp sl df a w E vs hR hv=>(h (e6.of λx hx=>by
  obtain ⟨q,hq⟩:=List.mem_iff_getElem?.1 hx
  have eW:q<rs.length:=(List.getElem?_eq_some_iff.1 hq).1
  have hE:E.length=rs.length:=hR.len
  have:=ba.low (hR.roots q x _ hq (ib (by omega)))
  rwa [hE] at this)).out.2 N aA w0 sp sl df a w E vs hR hv⟩
open Go Go.V
theorem cM {f:FuncId} (hf:Fn f) {ds:List D} {rs:List ah} {d:D} {aV:List ah} (hl:ds.length<=(yK f).ntmps) (h:ae f rs.length (Go.V.bA rs d aV) [.code (pM f)] ⟨dF 0 ds,rs,[]⟩):LC f ds rs d aV:=by
 obtain ⟨h1,h2⟩:=CF f _ hf.nF
 exact S6 si h1 h2 hf.body hl h
theorem ae.Eu {f:FuncId} {n0:Nat} {Q:D->List ah->Prop} {todo:List Item} {s:VS} (r j q m el sz n:Nat) (get:Nat->Nat->I) (l:List C) (hr:bh s.rs r=some (.box l)) (hj:bh l j=some (.sa q m)) (hq:bh s.rs q=some (.arr el sz n get)) (g:ae f n0 Q todo (Sg r j q m el sz n get l s)):ae f n0 Q todo s:=
 λb cs hb=>Goal.Eu hr hj hq (g b cs hb)
theorem fi {α:Type} {l:List α} {i:Nat} {x:α} (h:bh l i=some x):i<l.length:=by
 grind [cj]
open Go Go.V
section
variable (l:Sq Int) (p:Nat) (h:Sq Int) (n:Int)
def nx:Int×Nat:=bif decide ((p:Int)≥(l.n:Int)) then (0,p) else bif decide (n<1) then (0,p) else (ed (l.get p) n,p+1)
def aL:ah:=.box [.im (xT 1 bn l),.im (iI p)]
def bm (m i ni j ne:Nat) (fuel param:Int):ah:=.box [.rt m 0 0,.im (iI 0),.im (iI 0),.sa i ni,.sa j ne,.im (iI fuel),.im (iI param)]
def aP (s:Sq au):ah:=.arr 52 14 s.n (λi=>gw (s.get i))
def cl (s:Sq aq):ah:=.arr 57 3 s.n (λi=>dQ (s.get i))
def W33 (ds:List D):Rd:=match ds with
 | [.c (.rt m _ _),.c (.im (.v (.int .i64 n)))]=>.get m λx=>match x with
   | .box [y,.im (.v (.int .i64 q))]=>.ret (int (nx l q.toNat n).1,m,.box [y,.im (iI (nx l q.toNat n).2)])
   | _=>.no
 | _=>.no
def XNx:eU:={ F:=pY }
def XN:eU:={ F:=pY,W:=λf ds=>W33 l ds }
def B9 (ins:Sq au):Nat->Nat->Sq Int->Sq Int
 | 0,_,h=>h
 | m+1,k,h=>bif xU (ins.get k).op then B9 ins m (k+1) (eA h ⟨1,λ_=>(k:Int)⟩) else B9 ins m (k+1) h
def OW:Int×Nat:=(h.get (h.n-1-(nx l p (min 3 h.n)).1.toNat),(nx l p (min 3 h.n)).2)
def PH:Int×Nat:=(h.get (nx l p h.n).1.toNat,(nx l p h.n).2)
def vl9:Int×Nat:=bif (nx l p 2).1==0 then OW l (nx l p 2).2 h else PH l (nx l p 2).2 h
def ZV:Int×Nat:=bif (h.n:Int)==0 then (-1,p) else vl9 l p h
def vl (ins:Sq au):Int×Nat:=ZV l p (B9 ins ins.n 0 (aH 0))
theorem DS (k:Int):aY (.arr 3 1 (h.n+1) (fZ h.n (λi=>bn (h.get i)) (flat 1 [I.v (Value.int IntKind.i64 k)]))) (.arr 3 1 (eA h ⟨1,λ_=>k⟩).n λi=>bn ((eA h ⟨1,λ_=>k⟩).get i)):=by
 rw [<- Gp h ⟨1,λ_=>k⟩ bn]
 refine aY.arr λi hi j hj=>?_
 have hj:j=0:=by omega
 subst hj
 show cD (Bool.rec (flat 1 [I.v (Value.int IntKind.i64 k)] (i-h.n) 0) (bn (h.get i) 0) (Nat.blt i h.n):I) (Bool.rec (bn k 0) (bn (h.get i) 0) (Nat.blt i h.n):I)
 cases hb:Nat.blt i h.n with
 | true=>exact cD.refl _
 | false=>
   have:i-h.n=0:=by
    grind
   rw [this]
   exact cD.refl _
theorem OH {l:Sq Int} {p:Nat} {n:Int} (h1:1<=n) (h2:n<=4611686018427387904):0<=(nx l p n).1/\(nx l p n).1<n:=by
 unfold nx
 cases decide ((p:Int)≥(l.n:Int)) with
 | true=>grind
 | false=>
   rw [show decide (n<1)=false from decide_eq_false (by omega)]
   simp only [cond_false]
   unfold ed
   have a1:=Int.tmod_lt_of_pos (l.get p) (show 0<n by omega)
   have a2:=Int.lt_tmod_of_pos (l.get p) (show 0<n by omega)
   grind [iT]
theorem nw {l:Sq Int} {p:Nat} {n:Int} (h1:1<=n) (h2:n<=4611686018427387904):∃ d:Nat,(nx l p n).1=(d:Int)/\(d:Int)<n:=by
 obtain ⟨a,b⟩:=OH (l:=l) (p:=p) h1 h2
 grind [Int.eq_ofNat_of_zero_le]
def aZ5:Nat->Bool:=bH
theorem bz8:Fn 33:={}
theorem bo9 (L:LP) (QE:D->List ah->Prop) (l:Sq Int) (p:Nat) (n:Int) (h:br (decide ((↑p:Int)≥(↑l.1:Int))) (QE (int 0) [(aL l p)]) (br (decide (n<1)) (QE (int 0) [(aL l p)]) (nd (bQ (IntKind.i64.wrap (IntKind.i64.wrap ((↑p:Int)+1)-1)) l.1) ((LC 47 [(int (l.2 (IntKind.i64.wrap (IntKind.i64.wrap ((↑p:Int)+1)-1)).toNat)),(int n)] [] (int (ed (l.2 (IntKind.i64.wrap (IntKind.i64.wrap ((↑p:Int)+1)-1)).toNat) n)) []/\QE (int (ed (l.2 (IntKind.i64.wrap (IntKind.i64.wrap ((↑p:Int)+1)-1)).toNat) n)) [(.box [(.im (.sl 1 l.1 (λi=>bn (l.2 i)))),(ci (IntKind.i64.wrap ((↑p:Int)+1)))]),.dead]))))):ep XNx 33 aZ5 L QE [.c (.rt 0 0 0),int n] [aL l p]:=km h
theorem aP8 (hl:l.n<=maxLen):LC 33 [.c (.rt 0 0 0),int n] [aL l p] (int (nx l p n).1) [aL l (nx l p n).2]:=by
 refine iW bz8 (aQ (by kernel_rfl)) (cY (X:=XNx) (stop:=aZ5) (bo9 _ _ l p n ?_))
 refine ag (λh1=>?_) (λh1=>ag (λh2=>?_) (λh2=>?_))
 .rw [show nx l p n=(0,p) from by grind [nx]]
  exact ⟨1,aQ rfl,aQ rfl,rfl,rfl,aX.refl _,⟨.inr rfl,bG _ _⟩⟩
 .rw [show nx l p n=(0,p) from by grind [nx]]
  exact ⟨1,aQ rfl,aQ rfl,rfl,rfl,aX.refl _,⟨.inr rfl,bG _ _⟩⟩
 .have g1:=of_decide_eq_false h1
  have g2:=of_decide_eq_false h2
  have hp:p<l.n:=by omega
  rw [b6 hp hl,show ((p+1:Nat):Int)-1=(p:Int) by omega,nG (by unfold maxLen at hl; omega)]
  refine ai (aC hp) ⟨jB _ _ (by omega),?_⟩
  rw [show nx l p n=(ed (l.get p) n,p+1) from by grind [nx]]
  exact ⟨1,aQ rfl,aQ rfl,rfl,rfl,aX.refl _,⟨.inr rfl,bG _ _⟩⟩
theorem e5 {m:Nat} {RS:List ah} (hl:l.n<=maxLen) (h:bh RS m=some (aL l p)):WC 33 [.c (.rt m 0 0),int n] RS (int (nx l p n).1) m (aL l (nx l p n).2):=
 zC.gQ (i:=0) (rs:=[aL l p]) (y:=aL l (nx l p n).2) (aP8 l p n hl) [m] RS rfl ⟨h,fi h,rfl⟩ rfl ⟨_,rfl,trivial⟩
end
open Go Go.V
def wq:Nat->Bool:=λi=>Nat.beq i 3||Nat.beq i 7||Nat.beq i 9||Nat.beq i 10||Nat.beq i 11
theorem bn3:Fn 37:={}
abbrev eE:eQ:=(0,((.c (.rt 1 0 0)),[]))
section
variable (L:LP) (aj:Sq Int) (QE:D->List ah->Prop) (l:Sq Int) (ax p:Nat) (aJ ins:Sq au) (aZ ne:Nat) (bR fuel cW param:Int) (de hq:Sq Int) (k:Nat)
abbrev vD:eQ:=(4,((int 0),[]))
theorem bz2 (h:L (af 37 3) ⟨[eE,(3,((.c bS),[])),vD],[(aL l p),(bm 0 2 ins.1 3 ne fuel param),(aP ins),.dead],[]⟩):ep (XN l) 37 wq L QE [.c (.rt 1 0 0)] [aL l p,bm 0 2 ins.n 3 ne fuel param,aP ins,.dead]:=km h
abbrev sS:eQ:=(0,(.c (.rt 1 0 0)),[])
abbrev Mi:List ah:=[(aL aj ax),(bm 0 2 aJ.1 3 aZ bR cW),(aP aJ),.dead,.arr 3 1 de.n (λi=>bn (de.get i))]
def EV:VS:=⟨[sS,(3,.c (.sa 4 hq.n),[]),(4,int k,[])],(Mi l p ins ne fuel param hq),[]⟩
abbrev Rt:ah:=.arr 3 1 (aj.1+1) (fZ aj.1 (λi=>bn (aj.2 i)) (1,flat 1 [I.v (Value.int IntKind.i64 (↑ax:Int))]).snd)
abbrev yY:eQ:=(3,((.c (.sa 4 aj.1)),[]))
abbrev wW:List ah:=[(aL aj ax),(bm 0 2 aJ.1 3 aZ bR cW),(aP aJ),.dead,(eJ de)]
theorem UJ (h:br (decide ((↑k:Int)<(↑ins.1:Int))) (nd (bQ (↑k:Int) ins.1) (nd (k.blt ins.1) ((LC 68 [(int ((ins.2 k).1))] [] (bool (xU (ins.2 k).1)) []/\br (xU (ins.2 k).1) (nd (cw (hq.1+1) 8) (nd (hq.1.beq hq.1) (L (af 37 3) ⟨[eE,(3,((.c (.sa 6 (.succ hq.1))),[])),(4,((int (IntKind.i64.wrap ((↑k:Int)+1))),[]))],[(aL l p),(bm 0 2 ins.1 3 ne fuel param),(aP ins),.dead,.dead,(.row 3 1 1 [(ci (↑k:Int))]),(Rt hq k)],[]⟩))) (L (af 37 3) ⟨[eE,(yY hq),(4,((int (IntKind.i64.wrap ((↑k:Int)+1))),[]))],(wW l p ins ne fuel param hq),[]⟩))))) (L (af 37 7) ⟨[eE,(yY hq),(4,((int (↑k:Int)),[])),(12,((bool false),[]))],(wW l p ins ne fuel param hq),[]⟩)):b5 (XN l) 37 wq L QE 3 (EV l p ins ne fuel param hq k):=km h
abbrev FI:a8:=[sS,(3,.c (.sa 4 aj.n),[])]
def KD:VS:=⟨(FI hq),(Mi l p ins ne fuel param hq),[]⟩
theorem aE2 (h:br ((↑hq.1:Int)==0) (QE (int (-1)) [(aL l p),(bm 0 2 ins.1 3 ne fuel param),(aP ins),.dead,(.arr 3 1 hq.1 (λi=>bn (hq.2 i)))]) (L (af 37 9) ⟨[eE,(yY hq),(31,((bool false),[]))],(wW l p ins ne fuel param hq),[]⟩)):b5 (XN l) 37 wq L QE 7 (KD l p ins ne fuel param hq):=km h
def JT:VS:=⟨(FI hq),(Mi l p ins ne fuel param hq),[]⟩
abbrev mT:List D:=[(.c (.rt 0 0 0)),(int 2)]
abbrev qu:D:=int ((nx aj ax 2).1)
abbrev iw:ah:=aL aj ((nx aj ax 2).2)
end
section
variable (L:LP) (QE:D->List ah->Prop) (l:Sq Int) (p:Nat) (ins:Sq au) (ne:Nat) (fuel param:Int) (hq:Sq Int)
theorem aw7 (h:(WC 33 mT (wW l p ins ne fuel param hq) (qu l p) 0 (aL l ((nx l p 2).2))/\br ((nx l p 2).1==0) (L (af 37 10) ⟨[eE,(yY hq),(37,((bool true),[]))],[(iw l p),(bm 0 2 ins.1 3 ne fuel param),(aP ins),.dead,(eJ hq)],[]⟩) (L (af 37 11) ⟨[eE,(yY hq),(37,((bool false),[]))],[(iw l p),(bm 0 2 ins.1 3 ne fuel param),(aP ins),.dead,(eJ hq)],[]⟩))):b5 (XN l) 37 wq L QE 9 (JT l p ins ne fuel param hq):=km h
def Em:VS:=⟨(FI hq),[aL l p,(bm 0 2 ins.1 3 ne fuel param),(aP ins),.dead,.arr 3 1 hq.n (λi=>bn (hq.get i))],[]⟩
theorem Ym (h:(WC 33 [(.c (.rt 0 0 0)),(int (if (↑hq.1:Int)<3 then (↑hq.1:Int) else 3))] (wW l p ins ne fuel param hq) (int ((nx l p (if (↑hq.1:Int)<3 then (↑hq.1:Int) else 3)).1)) 0 (aL l ((nx l p (if (↑hq.1:Int)<3 then (↑hq.1:Int) else 3)).2))/\nd (bQ (IntKind.i64.wrap (IntKind.i64.wrap ((↑hq.1:Int)-1)-(nx l p (if (↑hq.1:Int)<3 then (↑hq.1:Int) else 3)).1)) hq.1) (nd ((IntKind.i64.wrap (IntKind.i64.wrap ((↑hq.1:Int)-1)-(nx l p (if (↑hq.1:Int)<3 then (↑hq.1:Int) else 3)).1)).toNat.blt hq.1) (QE (int (hq.2 (IntKind.i64.wrap (IntKind.i64.wrap ((↑hq.1:Int)-1)-(nx l p (if (↑hq.1:Int)<3 then (↑hq.1:Int) else 3)).1)).toNat)) [(aL l ((nx l p (if (↑hq.1:Int)<3 then (↑hq.1:Int) else 3)).2)),(bm 0 2 ins.1 3 ne fuel param),(aP ins),.dead,(.arr 3 1 hq.1 (λi=>bn (hq.2 i)))])))):b5 (XN l) 37 wq L QE 10 (Em l p ins ne fuel param hq):=km h
def Gc:VS:=⟨(FI hq),[aL l p,(bm 0 2 ins.1 3 ne fuel param),(aP ins),.dead,.arr 3 1 hq.n (λi=>bn (hq.get i))],[]⟩
theorem YP (h:(WC 33 [(.c (.rt 0 0 0)),(sZ hq)] (wW l p ins ne fuel param hq) (int ((nx l p (↑hq.1:Int)).1)) 0 (aL l ((nx l p (↑hq.1:Int)).2))/\nd (bQ (nx l p (↑hq.1:Int)).1 hq.1) (nd ((nx l p (↑hq.1:Int)).1.toNat.blt hq.1) (QE (int (hq.2 (nx l p (↑hq.1:Int)).1.toNat)) [(aL l ((nx l p (↑hq.1:Int)).2)),(bm 0 2 ins.1 3 ne fuel param),(aP ins),.dead,(.arr 3 1 hq.1 (λi=>bn (hq.2 i)))])))):b5 (XN l) 37 wq L QE 11 (Gc l p ins ne fuel param hq):=km h
theorem YK (p0:Nat) (hl:l.n<=maxLen) (hq:Sq Int) (h1:1<=hq.n) (h2:hq.n<=1000):ae 37 4 (Go.V.Ends [aL l p0,bm 0 2 ins.n 3 ne fuel param,aP ins,.dead] (int (PH l p hq).1) [aL l (PH l p hq).2,bm 0 2 ins.n 3 ne fuel param,aP ins,.dead]) (af 37 11) (Gc l p ins ne fuel param hq):=by
 obtain ⟨d,hd,eW⟩:=nw (l:=l) (p:=p) (n:=(hq.n:Int)) (by omega) (by omega)
 refine aG (X:=XN l) (stop:=wq) (YP _ _ l p ins ne fuel param hq ⟨e5 l _ _ hl rfl,?_⟩)
 have e:PH l p hq=(hq.get d,(nx l p (hq.n:Int)).2):=by unfold PH; rw [hd]; rfl
 rw [e]
 show nd (bQ (nx l p (hq.n:Int)).1 hq.n) (nd (Nat.blt (nx l p (hq.n:Int)).1.toNat hq.n) _)
 rw [hd]
 exact ai (aC (by omega)) (ai (bX (by show d<hq.n; omega)) ⟨4,aQ rfl,aQ rfl,rfl,rfl,aX.refl _,⟨.inr rfl,bG _ _⟩⟩)
end
section
variable (l:Sq Int) (p:Nat) (ins:Sq au) (ne:Nat) (fuel param:Int) (p0:Nat)
theorem YN (hl:l.n<=maxLen) (hq:Sq Int) (h1:1<=hq.n) (h2:hq.n<=1000):ae 37 4 (Go.V.Ends [aL l p0,bm 0 2 ins.n 3 ne fuel param,aP ins,.dead] (int (OW l p hq).1) [aL l (OW l p hq).2,bm 0 2 ins.n 3 ne fuel param,aP ins,.dead]) (af 37 10) (Em l p ins ne fuel param hq):=by
 obtain ⟨d,hd,eW⟩:=nw (l:=l) (p:=p) (n:=min 3 (hq.n:Int)) (by omega) (by omega)
 refine aG (X:=XN l) (stop:=wq) (Ym _ _ l p ins ne fuel param hq ?_)
 rw [show (if (hq.n:Int)<3 then (hq.n:Int) else 3)=min 3 (hq.n:Int) from by split<;>omega]
 refine ⟨e5 l _ _ hl rfl,?_⟩
 have e:OW l p hq=(hq.get (hq.n-1-d),(nx l p (min 3 (hq.n:Int))).2):=by unfold OW; rw [hd]; rfl
 rw [e,hd,iT (k:=(hq.n:Int)-1) (by omega) (by omega),iT (by omega) (by omega),show (hq.n:Int)-1-(d:Int)=((hq.n-1-d:Nat):Int) by omega]
 exact ai (aC (by omega)) (ai (bX (by grind)) ⟨4,aQ rfl,aQ rfl,rfl,rfl,aX.refl _,⟨.inr rfl,bG _ _⟩⟩)
theorem at6 (hl:l.n<=maxLen) (hq:Sq Int) (h1:1<=hq.n) (h2:hq.n<=1000):ae 37 4 (Go.V.Ends [aL l p0,bm 0 2 ins.n 3 ne fuel param,aP ins,.dead] (int (vl9 l p hq).1) [aL l (vl9 l p hq).2,bm 0 2 ins.n 3 ne fuel param,aP ins,.dead]) (af 37 9) (JT l p ins ne fuel param hq):=by
 refine aG (X:=XN l) (stop:=wq) (aw7 _ _ l p ins ne fuel param hq ⟨e5 l _ _ hl rfl,?_⟩)
 refine ag (λh3=>?_) (λh3=>?_)
 .rw [show vl9 l p hq=OW l (nx l p 2).2 hq from by grind [vl9]]
  exact ae.lr (Em l (nx l p 2).2 ins ne fuel param hq) (YN l (nx l p 2).2 ins ne fuel param p0 hl hq h1 h2)
 .rw [show vl9 l p hq=PH l (nx l p 2).2 hq from by grind [vl9]]
  exact ae.lr (Gc l (nx l p 2).2 ins ne fuel param hq) (YK l (nx l p 2).2 ins ne fuel param p0 hl hq h1 h2)
theorem aA5 (hl:l.n<=maxLen) (hq:Sq Int) (h2:hq.n<=1000):ae 37 4 (Go.V.Ends [aL l p0,bm 0 2 ins.n 3 ne fuel param,aP ins,.dead] (int (ZV l p hq).1) [aL l (ZV l p hq).2,bm 0 2 ins.n 3 ne fuel param,aP ins,.dead]) (af 37 7) (KD l p ins ne fuel param hq):=by
 refine aG (X:=XN l) (stop:=wq) (aE2 _ _ l p ins ne fuel param hq ?_)
 refine ag (λh3=>?_) (λh3=>?_)
 .rw [show ZV l p hq=(-1,p) from by grind [ZV]]
  exact ⟨4,aQ rfl,aQ rfl,rfl,rfl,aX.refl _,⟨.inr rfl,bG _ _⟩⟩
 .have h3:((hq.n:Int)==0)=false:=h3
  rw [show ZV l p hq=vl9 l p hq from by unfold ZV; rw [h3]; rfl]
  simp only [beq_eq_false_iff_ne] at h3
  exact ae.lr (JT l p ins ne fuel param hq) (at6 l p ins ne fuel param p0 hl hq (by omega) h2)
theorem aG0 (hl:l.n<=maxLen) (hI:ins.n<=1000) (o:Int×Nat):∀ k,k<=ins.n->∀ hq:Sq Int,hq.n<=k->ZV l p (B9 ins (ins.n-k) k hq)=o->ae 37 4 (Go.V.Ends [aL l p0,bm 0 2 ins.n 3 ne fuel param,aP ins,.dead] (int (o).1) [aL l (o).2,bm 0 2 ins.n 3 ne fuel param,aP ins,.dead]) (af 37 3) (EV l p ins ne fuel param hq k):=by
 refine aN (λk hk ih hq hh ho=>?_) (λhq hh ho=>?_)
 .have q:ins.n-k=(ins.n-(k+1))+1:=by omega
  rw [q] at ho
  refine aG (X:=XN l) (stop:=wq) (UJ _ _ l p ins ne fuel param hq k ?_)
  rw [b6 hk (cT hI (by decide))]
  refine ag (λh3=>?_) (λh3=>(dec_lt h3 hk).elim)
  refine ai (aC hk) (ai (bX hk) ⟨I7 _,ag (λh4=>?_) (λh4=>?_)⟩)
  .have h4:xU (ins.get k).op=true:=h4
   rw [show B9 ins (ins.n-(k+1)+1) k hq=B9 ins (ins.n-(k+1)) (k+1) (eA hq ⟨1,λ_=>(k:Int)⟩) from by grind [B9]] at ho
   refine ai (bO (by omega) (by omega)) (ai (dv _) ?_)
   exact ae.rename [0,1,2,3,6] rfl (ae.lf (EV l p ins ne fuel param (eA hq ⟨1,λ_=>(k:Int)⟩) (k+1)) (rc (rc (rc (rc (.cons (DS hq k) .nil))))) (ih _ (by show hq.n+1<=_; omega) ho))
  .have h4:xU (ins.get k).op=false:=h4
   rw [show B9 ins (ins.n-(k+1)+1) k hq=B9 ins (ins.n-(k+1)) (k+1) hq from by grind [B9]] at ho
   exact ih hq (by omega) ho
 .rw [Nat.sub_self] at ho
  refine aG (X:=XN l) (stop:=wq) (UJ _ _ l p ins ne fuel param hq _ ?_)
  refine ag (λh3=>bq h3) (λh3=>?_)
  have ho:ZV l p hq=o:=ho
  subst ho
  exact ae.lr (KD l p ins ne fuel param hq) (aA5 l p ins ne fuel param p0 hl hq (by omega))
theorem aX9 (hl:l.n<=maxLen) (hI:ins.n<=1000):LC 37 [.c (.rt 1 0 0)] [aL l p,bm 0 2 ins.n 3 ne fuel param,aP ins,.dead] (int (vl l p ins).1) [aL l (vl l p ins).2,bm 0 2 ins.n 3 ne fuel param,aP ins,.dead]:=by
 refine iW bn3 (aQ (by kernel_rfl)) (cY (X:=XN l) (stop:=wq) (bz2 _ _ l p ins ne fuel param ?_))
 exact ae.Cj 3 3 1 rfl (ae.lf (EV l p ins ne fuel param (aH 0) 0) (rc (rc (rc (rc (.cons (qp 3 1 _ _) .nil))))) (aG0 l p ins ne fuel param p hl hI _ 0 (bk _) (aH 0) (bk _) rfl))
theorem gr {ne:Nat} {fuel param:Int} {m q i j:Nat} {RS:List ah} (hl:l.n<=maxLen) (hI:ins.n<=1000:=by omega) (hd:jj [m,q,i,j]=true:=by rfl) (h0:bh RS m=some (aL l p):=by rfl) (h1:bh RS q=some (bm m i ins.n j ne fuel param):=by rfl) (h2:bh RS i=some (aP ins):=by rfl) (h3:j<RS.length:=by exact aQ rfl) :
  WC 37 [.c (.rt q 0 0)] RS (int (vl l p ins).1) m (aL l (vl l p ins).2):=
 zC.gQ (i:=0) (rs:=[aL l p,bm 0 2 ins.n 3 ne fuel param,aP ins,.dead]) (y:=aL l (vl l p ins).2) (aX9 l p ins ne fuel param hl hI) [m,q,i,j] RS hd ⟨h0,fi h0,h1,fi h1,h2,fi h2,rfl,h3,rfl⟩ rfl ⟨_,rfl,trivial⟩
end
end
end Go.Proofs.YtgbbdaegmfjahaaGreat
