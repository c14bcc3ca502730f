/- Loops: what is to be shown. -/
import Derived.Test.YtghfgcfabbbbbaaDoorQ5
set_option linter.unusedVariables false
set_option linter.unusedSimpArgs false
set_option maxRecDepth 1000000
namespace Go.Proofs.YtghfgcfabbbbbaaDoor
open Go Go.V
noncomputable section
def b3 (t:ai) (k:Nat):Bool := !(iv (t.ins.get k)!=((k:Int)==(t.ins.n:Int)-1))&&(aW (t.ins.get k) && !((t.ins.get k).once && !cQ (t.ins.get k).op [2,3,4,5,6,7,8,9,10,12,14]))
def b7 (t:ai) (k:Nat):Bool := !((t.ins.get k).op==1&&(decide ((k:Int)≥(ju t.ins:Int))||(decide ((k:Int)>0)&&decide ((t.ins.get k).k.n≤(t.ins.get (k-1)).k.n))))
def b9 (t:ai) (k:Nat):Bool := !((t.ins.get k).op==20&&(((t.ins.get k).args.n:Int)!=(ju t.ins:Int)))
def Lc (t:ai) (k:Nat):Bool := !decide ((t.ins.get k).exit < -1)&&(!decide ((t.ins.get k).exit≥(t.aa.n:Int))&&(!(decide ((t.ins.get k).exit≥0) && !qM (t.ins.get k).op) && !(decide ((t.ins.get k).exit<0)&&cQ (t.ins.get k).op [5,6,7,8,9,15,18,21])))
def Lf (t:ai) (l:List Int) (k:Nat):Bool×List Int:=bif decide ((t.ins.get k).exit<0) then (true,l) else bif dx (t.ins.get k).exit l then (false,l) else (jF t (t.aa.get (t.ins.get k).exit.toNat) k,qA (t.ins.get k).exit l)
def V2 (t:ai) (l:List Int) (k:Nat):Bool×List Int:=bif G1 t k then Lf t l k else (false,l)
def HI (t:ai) (l:List Int) (k:Nat):Bool×List Int:=bif Lc t k then V2 t l k else (false,l)
def o9 (t:ai) (l:List Int) (k:Nat):Bool×List Int:=bif b9 t k then HI t l k else (false,l)
def o7 (t:ai) (l:List Int) (k:Nat):Bool×List Int:=bif b7 t k then o9 t l k else (false,l)
def o3 (t:ai) (l:List Int) (k:Nat):Bool×List Int:=bif b3 t k then o7 t l k else (false,l)
def HF (x:Option ae):List Int:=match x with
 | some (.set l)=>l
 | _=>[]
def Zg:Ah:=[
 (65,fun ds rs=>(bool (jF (fT ds 0) (FP ds 1) (aI ds 2)),[],[])),
 (42,fun ds rs=>(bool (o3 (fT ds 0) (HF (aY rs 1)) (aI ds 1).toNat).1,[(1,.set (o3 (fT ds 0) (HF (aY rs 1)) (aI ds 1).toNat).2)],[]))]
def F9:=ext F8 Zg
def xe:iZ:={ F:=F9,S:=[1] }
def ov:Nat→Bool:=fun i=>Nat.beq i 3||Nat.beq i 7||Nat.beq i 9||Nat.beq i 11||Nat.beq i 13||Nat.beq i 14
theorem Ym:Fn 42:=⟨by kernel_rfl,by kernel_rfl⟩
abbrev mS (ax:Nat):D:=int (↑ax:Int)
abbrev nc (ax:Nat):jr:=(1,((mS ax),[]))
abbrev jZ (ax:ai):D:=int ((↑(ju ax.2):Int))
abbrev mG:jr:=(3,((.c (.rt 3 0 0)),[]))
abbrev my:jr:=(7,((.c (.rt 4 0 0)),[]))
abbrev rK (ax:ai) (aX:Nat):List C:=lift (aT (ax.ins.2 aX))
abbrev gA (ax:ae) (aX:List Int) (aN:ae) (cq:ai) (ct:Nat):List ae:=[ax,(.set aX),aN,(fI cq),(.box (rK cq ct))]
theorem Xa (L:LP) (QE:D→List ae→Prop) (t:ai) (r0 r2:ae) (l:List Int) (k:Nat) (h:nd (cC (↑k:Int) t.2.1) (L (aj 42 3) ⟨[(nc k),(2,((jZ t),[])),mG,my,(8,((bool ((↑k:Int)==IntKind.i64.wrap ((↑t.2.1:Int)-1))),[]))],(gA r0 l r2 t k),[]⟩)):gL xe 42 ov L QE [wj t 1,int k,int (ju t.ins)] [r0,.set l,r2]:=Eq.mp (by kernel_rfl) h
abbrev rb (ax:Nat):jr:=(1,(int (↑ax:Int)),[])
abbrev ri:jr:=(3,(.c (.rt 3 0 0)),[])
abbrev rF:jr:=(7,(.c (.rt 4 0 0)),[])
def J8 (t:ai) (r0 r2:ae) (l:List Int) (k:Nat)  : VS:=⟨[(rb k),(2,(jZ t),[]),ri,rF,(8,(bool ((↑k:Int)==IntKind.i64.wrap ((↑t.2.1:Int)-1))),[])],(gA r0 l r2 t k),[]⟩
abbrev FC (ax:Nat) (aX:ai) (aN:ae) (cq:List Int) (ct:ae):VS:=⟨[(nc ax),(2,((jZ aX),[])),mG,my,(24,((bool false),[]))],(gA aN cq ct aX ax),[]⟩
theorem RP (L:LP) (QE:D→List ae→Prop) (t:ai) (r0 r2:ae) (l:List Int) (k:Nat)  (h:br ((t.ins.2 k).1==20) (br (!true==((↑k:Int)==IntKind.i64.wrap ((↑t.2.1:Int)-1))) (QE (bool false) [r0,(.set l),r2,(.box (de (t) 1)),(.box (lift (aT (t.ins.2 k))))]) ((LC 60 [(.a (rK t k))] [] (bool (aW (t.ins.2 k))) []∧br (!aW (t.ins.2 k)) (QE (bool false) [r0,(.set l),r2,(.box (de (t) 1)),(.box (lift (aT (t.ins.2 k))))]) (br ((t.ins.2 k).11) ((LC 54 [(int ((t.ins.2 k).1))] [] (bool (cQ (t.ins.2 k).1 [2,3,4,5,6,7,8,9,10,12,14])) []∧br (!cQ (t.ins.2 k).1 [2,3,4,5,6,7,8,9,10,12,14]) (QE (bool false) [r0,(.set l),r2,(.box (de (t) 1)),(.box (lift (aT (t.ins.2 k))))]) (L (aj 42 7) (FC k t r0 l r2)))) (L (aj 42 7) (FC k t r0 l r2)))))) (br (!((t.ins.2 k).1==21)==((↑k:Int)==IntKind.i64.wrap ((↑t.2.1:Int)-1))) (QE (bool false) [r0,(.set l),r2,(.box (de (t) 1)),(.box (lift (aT (t.ins.2 k))))]) ((LC 60 [(.a (rK t k))] [] (bool (aW (t.ins.2 k))) []∧br (!aW (t.ins.2 k)) (QE (bool false) [r0,(.set l),r2,(.box (de (t) 1)),(.box (lift (aT (t.ins.2 k))))]) (br ((t.ins.2 k).11) ((LC 54 [(int ((t.ins.2 k).1))] [] (bool (cQ (t.ins.2 k).1 [2,3,4,5,6,7,8,9,10,12,14])) []∧br (!cQ (t.ins.2 k).1 [2,3,4,5,6,7,8,9,10,12,14]) (QE (bool false) [r0,(.set l),r2,(.box (de (t) 1)),(.box (lift (aT (t.ins.2 k))))]) (L (aj 42 7) (FC k t r0 l r2)))) (L (aj 42 7) (FC k t r0 l r2))))))):dh xe 42 ov L QE 3 (J8 t r0 r2 l k ):=Eq.mp (by kernel_rfl) h
def uK (t:ai) (r0 r2:ae) (l:List Int) (k:Nat)  : VS:=⟨[(rb k),(2,(jZ t),[]),ri,rF],(gA r0 l r2 t k),[]⟩
abbrev Mv (ax:Nat) (aX:ai):aG:=[(nc ax),(2,((jZ aX),[])),mG,my,(46,((bool false),[]))]
theorem Sp (L:LP) (QE:D→List ae→Prop) (t:ai) (r0 r2:ae) (l:List Int) (k:Nat)  (h:br ((t.ins.2 k).1==1) (br (decide ((↑k:Int)≥(↑(ju t.2):Int))) (QE (bool false) [r0,(.set l),r2,(.box (de (t) 1)),(.box (lift (aT (t.ins.2 k))))]) (br (decide ((↑k:Int)>0)) (nd (cC (IntKind.i64.wrap ((↑k:Int)-1)) t.2.1) (br (decide ((t.ins.2 k).7.2≤(t.ins.2 (IntKind.i64.wrap ((↑k:Int)-1)).toNat).7.2)) (QE (bool false) [r0,(.set l),r2,(.box (de (t) 1)),(.box (lift (aT (t.ins.2 k))))]) (L (aj 42 9) ⟨(Mv k t),(gA r0 l r2 t k),[]⟩))) (L (aj 42 9) ⟨(Mv k t),(gA r0 l r2 t k),[]⟩))) (L (aj 42 9) ⟨(Mv k t),(gA r0 l r2 t k),[]⟩)):dh xe 42 ov L QE 7 (uK t r0 r2 l k ):=Eq.mp (by kernel_rfl) h
def qT (t:ai) (r0 r2:ae) (l:List Int) (k:Nat)  : VS:=⟨[(rb k),(2,(jZ t),[]),ri,rF],(gA r0 l r2 t k),[]⟩
theorem Su (L:LP) (QE:D→List ae→Prop) (t:ai) (r0 r2:ae) (l:List Int) (k:Nat)  (h:br ((t.ins.2 k).1==20) (br ((↑(t.ins.2 k).6.1:Int)!=(↑(ju t.2):Int)) (QE (bool false) [r0,(.set l),r2,(.box (de (t) 1)),(.box (lift (aT (t.ins.2 k))))]) (L (aj 42 11) ⟨[(nc k),mG,my,(74,((bool false),[]))],(gA r0 l r2 t k),[]⟩)) (L (aj 42 11) ⟨[(nc k),mG,my,(74,((bool false),[]))],(gA r0 l r2 t k),[]⟩)):dh xe 42 ov L QE 9 (qT t r0 r2 l k ):=Eq.mp (by kernel_rfl) h
def tb (t:ai) (r0 r2:ae) (l:List Int) (k:Nat)  : VS:=⟨[(rb k),ri,rF],(gA r0 l r2 t k),[]⟩
abbrev Gp (ax:Nat):aG:=[(nc ax),mG,my,(85,((bool false),[]))]
theorem Pj (L:LP) (QE:D→List ae→Prop) (t:ai) (r0 r2:ae) (l:List Int) (k:Nat)  (h:br (decide ((t.ins.2 k).10 < -1)) (QE (bool false) [r0,(.set l),r2,(.box (de (t) 1)),(.box (lift (aT (t.ins.2 k))))]) (br (decide ((t.ins.2 k).10≥(↑t.3.1:Int))) (QE (bool false) [r0,(.set l),r2,(.box (de (t) 1)),(.box (lift (aT (t.ins.2 k))))]) (br (decide ((t.ins.2 k).10≥0)) ((LC 61 [(int ((t.ins.2 k).1))] [] (bool (qM (t.ins.2 k).1)) []∧br (!qM (t.ins.2 k).1) (QE (bool false) [r0,(.set l),r2,(.box (de (t) 1)),(.box (lift (aT (t.ins.2 k))))]) (br (decide ((t.ins.2 k).10<0)) ((LC 62 [(int ((t.ins.2 k).1))] [] (bool (cQ (t.ins.2 k).1 [5,6,7,8,9,15,18,21])) []∧br (cQ (t.ins.2 k).1 [5,6,7,8,9,15,18,21]) (QE (bool false) [r0,(.set l),r2,(.box (de (t) 1)),(.box (lift (aT (t.ins.2 k))))]) (L (aj 42 13) ⟨(Gp k),(gA r0 l r2 t k),[]⟩))) (L (aj 42 13) ⟨(Gp k),(gA r0 l r2 t k),[]⟩)))) (br (decide ((t.ins.2 k).10<0)) ((LC 62 [(int ((t.ins.2 k).1))] [] (bool (cQ (t.ins.2 k).1 [5,6,7,8,9,15,18,21])) []∧br (cQ (t.ins.2 k).1 [5,6,7,8,9,15,18,21]) (QE (bool false) [r0,(.set l),r2,(.box (de (t) 1)),(.box (lift (aT (t.ins.2 k))))]) (L (aj 42 13) ⟨(Gp k),(gA r0 l r2 t k),[]⟩))) (L (aj 42 13) ⟨(Gp k),(gA r0 l r2 t k),[]⟩))))):dh xe 42 ov L QE 11 (tb t r0 r2 l k ):=Eq.mp (by kernel_rfl) h
def tj (t:ai) (r0 r2:ae) (l:List Int) (k:Nat)  : VS:=⟨[(rb k),ri,rF],(gA r0 l r2 t k),[]⟩
abbrev PZ (ax:ai) (aX:Nat):D:=.c (.im (.sl 1 ((aR (ax.ins.2 aX)).1) (fun i=>cg ((aR (sU [D.a (lift [iI (ax.ins.get aX).op,iI (ax.ins.get aX).a,iI (ax.ins.get aX).b,iI (ax.ins.get aX).c,iI (ax.ins.get aX).n,j7 1 cg (ax.ins.get aX).args,iI (ax.ins.get aX).k.kind,iI (ax.ins.get aX).k.n,iS (ax.ins.get aX).k.s,j7 1 ff (ax.ins.get aX).names,iI (ax.ins.get aX).place.fn,iI (ax.ins.get aX).place.line,iI (ax.ins.get aX).exit,iB (ax.ins.get aX).once])] 0)).2 i))))
theorem M3 (L:LP) (QE:D→List ae→Prop) (t:ai) (r0 r2:ae) (l:List Int) (k:Nat)  (h:(LC 63 [(.a (rK t k))] [] (PZ t k) []∧L (aj 42 14) ⟨[(nc k),mG,my,(120,((PZ t k),[])),(121,((int ((↑(aR (t.ins.2 k)).1:Int))),[])),(122,((int 0),[]))],(gA r0 l r2 t k),[]⟩)):dh xe 42 ov L QE 13 (tj t r0 r2 l k ):=Eq.mp (by kernel_rfl) h
def zU (t:ai) (r0 r2:ae) (l:List Int) (k:Nat) (j:Nat):VS:=⟨[(rb k),ri,rF,(120,eR 1 cg (aR (t.ins.get k)),[]),(121,(int ((↑(aR (t.ins.2 k)).1:Int))),[]),(122,int j,[])],(gA r0 l r2 t k),[]⟩
theorem ES (L:LP) (QE:D→List ae→Prop) (t:ai) (r0 r2:ae) (l:List Int) (k:Nat) (j:Nat) (h:br (decide ((↑j:Int)<(↑(aR (t.ins.2 k)).1:Int))) (nd (cC (↑j:Int) (aR (t.ins.2 k)).1) ((LC 64 [(.a (de (t) 1)),(int ((aR (t.ins.get k)).2 j)),(int (↑k:Int))] (gA r0 l r2 t k) (bool (ek t ((aR (t.ins.get k)).2 j) (Int.ofNat k))) (gA r0 l r2 t k)∧br (!ek t ((aR (t.ins.get k)).2 j) (Int.ofNat k)) (QE (bool false) [r0,(.set l),r2,(.box (de (t) 1)),(.box (lift (aT (t.ins.2 k))))]) (nd (cC ((aR (t.ins.get k)).2 j) t.2.1) (br ((t.ins.2 ((aR (t.ins.get k)).2 j).toNat).1==17) (QE (bool false) [r0,(.set l),r2,(.box (de (t) 1)),(.box (lift (aT (t.ins.2 k))))]) (L (aj 42 14) ⟨[(nc k),mG,my,(120,((.c (.im (.sl 1 ((aR (t.ins.2 k)).1) (fun i=>cg ((aR (t.ins.get k)).2 i))))),[])),(121,((int ((↑(aR (t.ins.2 k)).1:Int))),[])),(122,((int (IntKind.i64.wrap ((↑j:Int)+1))),[]))],(gA r0 l r2 t k),[]⟩)))))) (br (decide ((t.ins.2 k).10<0)) (QE (bool true) [r0,(.set l),r2,(.box (de (t) 1)),(.box (lift (aT (t.ins.2 k))))]) (br (dx (t.ins.2 k).10 l) (QE (bool false) [r0,(.set l),r2,(.box (de (t) 1)),(.box (lift (aT (t.ins.2 k))))]) (nd (cC (t.ins.2 k).10 t.3.1) ((LC 65 [(.a (de (t) 1)),(.a (lift (ba (t.aa.2 (t.ins.2 k).10.toNat)))),(int (↑k:Int))] [r0,(.set (qA (t.ins.2 k).10 l)),r2,(fI t),(.box (rK t k)),.dead] (bool (jF t (t.aa.2 (t.ins.2 k).10.toNat) (Int.ofNat k))) [r0,(.set (qA (t.ins.2 k).10 l)),r2,(fI t),(.box (rK t k)),.dead]∧QE (bool (jF t (t.aa.2 (t.ins.2 k).10.toNat) (Int.ofNat k))) [r0,(.set (qA (t.ins.2 k).10 l)),r2,(.box (de (t) 1)),(.box (lift (aT (t.ins.2 k)))),.dead])))))):dh xe 42 ov L QE 14 (zU t r0 r2 l k j):=Eq.mp (by kernel_rfl) h
theorem Pt (t:ai) (r0 r2:ae) (l:List Int) (k:Nat) (hk:k<t.ins.n) (hS:ed t) (hw:eG 3 [r0,.set l,r2]) (hE:(t.ins.get k).exit<t.aa.n):∀ j,j≤(aR (t.ins.get k)).n→∀ o:Bool×List Int,(bif b5 (fun j=>u16 t k ((aR (t.ins.get k)).get j)) ((aR (t.ins.get k)).n-j) j then Lf t l k else (false,l))=o→ah 42 3 (Go.V.Ends [r0,.set l,r2] (bool (o).1) [r0,.set (o).2,r2]) (aj 42 14) (zU t r0 r2 l k j):=by
 have hN:(aR (t.ins.get k)).n≤1000:=OT _ (hS.args k hk)
 refine bo (fun j hj ih o ho=>?_) (fun o ho=>?_)
 ·have q:(aR (t.ins.get k)).n-j=((aR (t.ins.get k)).n-(j+1))+1:=by omega
  rw [q] at ho
  have no:u16 t k ((aR (t.ins.get k)).get j)=false→o=(false,l):=fun q=>by rw [fj (p:=fun j=>u16 t k ((aR (t.ins.get k)).get j)) q] at ho; exact ho.symm
  have go:u16 t k ((aR (t.ins.get k)).get j)=true→ah 42 3 (Go.V.Ends [r0,.set l,r2] (bool (o).1) [r0,.set (o).2,r2]) (aj 42 14) (zU t r0 r2 l k (j+1)):=fun q=>by rw [gN (p:=fun j=>u16 t k ((aR (t.ins.get k)).get j)) q] at ho; exact ih o ho
  refine aH (X:=xe) (stop:=ov) (ES _ _ t r0 r2 l k j ?_)
  rw [cd hj (bU hN (by decide))]
  refine ay (fun h=>?_) (fun h=>(dec_lt h hj).elim)
  refine aA (au hj) ⟨M9 _ _ _ _ _ _ _ _ (by omega),?_⟩
  refine ay (fun h1=>?_) (fun h1=>?_)
  ·rw [no (by simp only [u16,show ek t ((aR (t.ins.get k)).get j) k=false from by simpa using h1,bN])]; exact ⟨3,aP rfl,aP rfl,rfl,rfl,bp.refl _,⟨.inl (.inl rfl),.inr rfl,.inl (.inl rfl),trivial⟩⟩
  have h1:ek t ((aR (t.ins.get k)).get j) k=true:=by simpa using h1
  refine aA (s9 h1 (by omega)) (ay (fun h2=>?_) (fun h2=>?_))
  ·rw [no (by simp only [u16,h1,show ((t.ins.get ((aR (t.ins.get k)).get j).toNat).op==17)=true from h2,bN])]; exact ⟨3,aP rfl,aP rfl,rfl,rfl,bp.refl _,⟨.inl (.inl rfl),.inr rfl,.inl (.inl rfl),trivial⟩⟩
  refine ah.cut 5 (aP rfl) (aP rfl) rfl rfl ⟨hw.1.mono (by decide),.inl rfl,hw.2.2.1.mono (by decide),.inl rfl,.inl rfl,trivial⟩ (go ?_)
  simp only [u16,h1,show ((t.ins.get ((aR (t.ins.get k)).get j).toNat).op==17)=false from h2,bN]
 ·rw [Nat.sub_self] at ho
  have ho:Lf t l k=o:=ho
  subst ho
  refine aH (X:=xe) (stop:=ov) (ES _ _ t r0 r2 l k _ ?_)
  refine ay (fun h=>cE h) (fun h=>?_)
  refine ay (fun h1=>?_) (fun h1=>ay (fun h2=>?_) (fun h2=>?_))
  ·rw [show Lf t l k=(true,l) from by simp only [Lf,show decide ((t.ins.get k).exit<0)=true from h1,bN]]; exact ⟨3,aP rfl,aP rfl,rfl,rfl,bp.refl _,⟨.inl (.inl rfl),.inr rfl,.inl (.inl rfl),trivial⟩⟩
  ·rw [show Lf t l k=(false,l) from by simp only [Lf,show decide ((t.ins.get k).exit<0)=false from h1,show dx (t.ins.get k).exit l=true from h2,bN]]; exact ⟨3,aP rfl,aP rfl,rfl,rfl,bp.refl _,⟨.inl (.inl rfl),.inr rfl,.inl (.inl rfl),trivial⟩⟩
  ·have h0:0≤(t.ins.get k).exit:=by have:=of_decide_eq_false h1; omega
   have hx:=hE
   refine aA (qj h0 hx) ⟨Uz _ _ _ _ _ _ _ _ _ (by omega) (hS.ex _ (by omega)) ⟨hw.1.mono (by decide),.inl rfl,hw.2.2.1.mono (by decide),.inl rfl,.inl rfl,.inl rfl,trivial⟩,?_⟩
   rw [show Lf t l k=(jF t (t.aa.get (t.ins.get k).exit.toNat) k,qA (t.ins.get k).exit l) from by simp only [Lf,show decide ((t.ins.get k).exit<0)=false from h1,show dx (t.ins.get k).exit l=false from h2,bN]]; exact ⟨3,aP rfl,aP rfl,rfl,rfl,bp.refl _,⟨.inl (.inl rfl),.inr rfl,.inl (.inl rfl),trivial⟩⟩
theorem Oh (t:ai) (r0 r2:ae) (l:List Int) (k:Nat) (hk:k<t.ins.n) (hS:ed t) (hw:eG 3 [r0,.set l,r2]) (hE:(t.ins.get k).exit<t.aa.n):ah 42 3 (Go.V.Ends [r0,.set l,r2] (bool (V2 t l k).1) [r0,.set (V2 t l k).2,r2]) (aj 42 13) (tj t r0 r2 l k):=by
 refine aH (X:=xe) (stop:=ov) (M3 _ _ t r0 r2 l k ⟨TW _,?_⟩)
 exact Pt t r0 r2 l k hk hS hw hE 0 (bB _) _ rfl
theorem Nr (t:ai) (r0 r2:ae) (l:List Int) (k:Nat) (hk:k<t.ins.n) (hS:ed t) (hw:eG 3 [r0,.set l,r2]):ah 42 3 (Go.V.Ends [r0,.set l,r2] (bool (HI t l k).1) [r0,.set (HI t l k).2,r2]) (aj 42 11) (tb t r0 r2 l k):=by
 have no:Lc t k=false→Go.V.Ends [r0,.set l,r2] (bool (HI t l k).1) [r0,.set (HI t l k).2,r2] (bool false) [r0,.set l,r2,.box (de t 1),.box (lift (aT (t.ins.get k)))]:=fun q=>by
  rw [show HI t l k=(false,l) from by unfold HI; rw [q]; rfl]; exact ⟨3,aP rfl,aP rfl,rfl,rfl,bp.refl _,⟨.inl (.inl rfl),.inr rfl,.inl (.inl rfl),trivial⟩⟩
 have go:Lc t k=true→ah 42 3 (Go.V.Ends [r0,.set l,r2] (bool (HI t l k).1) [r0,.set (HI t l k).2,r2]) (aj 42 13) (tj t r0 r2 l k):=fun q=>by
  rw [show HI t l k=V2 t l k from by unfold HI; rw [q]; rfl]; exact Oh t r0 r2 l k hk hS hw (by simp only [Lc,cG,Bool.not_eq_true',decide_eq_false_iff_not] at q; omega)
 refine aH (X:=xe) (stop:=ov) (Pj _ _ t r0 r2 l k ?_)
 repeat' (first|refine ay (fun h=>?_) (fun h=>?_)|refine ⟨Vg _,?_⟩|refine ⟨PR _,?_⟩|done)
 all_goals (try simp only [Bool.not_eq_true',Bool.not_eq_false'] at *)
 all_goals first
  | exact no (by simp only [Lc, *,bN])
  | exact ah.le (tj t r0 r2 l k) (by repeat' (first|exact trivial|refine cR rfl ?_)) (rc (rc (rc (rc (rc (.nil)))))) rfl (go (by simp only [Lc, *,bN]))
  | (exfalso; simp only [decide_eq_true_eq,decide_eq_false_iff_not] at *; omega)
theorem Sj (t:ai) (r0 r2:ae) (l:List Int) (k:Nat) (hk:k<t.ins.n) (hS:ed t) (hw:eG 3 [r0,.set l,r2]):ah 42 3 (Go.V.Ends [r0,.set l,r2] (bool (o9 t l k).1) [r0,.set (o9 t l k).2,r2]) (aj 42 9) (qT t r0 r2 l k):=by
 have no:b9 t k=false→Go.V.Ends [r0,.set l,r2] (bool (o9 t l k).1) [r0,.set (o9 t l k).2,r2] (bool false) [r0,.set l,r2,.box (de t 1),.box (lift (aT (t.ins.get k)))]:=fun q=>by
  rw [show o9 t l k=(false,l) from by unfold o9; rw [q]; rfl]; exact ⟨3,aP rfl,aP rfl,rfl,rfl,bp.refl _,⟨.inl (.inl rfl),.inr rfl,.inl (.inl rfl),trivial⟩⟩
 have go:b9 t k=true→ah 42 3 (Go.V.Ends [r0,.set l,r2] (bool (o9 t l k).1) [r0,.set (o9 t l k).2,r2]) (aj 42 11) (tb t r0 r2 l k):=fun q=>by
  rw [show o9 t l k=HI t l k from by unfold o9; rw [q]; rfl]; exact Nr t r0 r2 l k hk hS hw
 refine aH (X:=xe) (stop:=ov) (Su _ _ t r0 r2 l k ?_)
 repeat' (first|refine ay (fun h=>?_) (fun h=>?_) |  done)
 all_goals (try simp only [Bool.not_eq_true',Bool.not_eq_false'] at *)
 all_goals first
  | exact no (by simp only [b9, *,bN])
  | exact ah.le (tb t r0 r2 l k) (by repeat' (first|exact trivial|refine cR rfl ?_)) (rc (rc (rc (rc (rc (.nil)))))) rfl (go (by simp only [b9, *,bN]))
  | (exfalso; simp only [decide_eq_true_eq,decide_eq_false_iff_not] at *; omega)
theorem QU (t:ai) (r0 r2:ae) (l:List Int) (k:Nat) (hk:k<t.ins.n) (hS:ed t) (hw:eG 3 [r0,.set l,r2]):ah 42 3 (Go.V.Ends [r0,.set l,r2] (bool (o7 t l k).1) [r0,.set (o7 t l k).2,r2]) (aj 42 7) (uK t r0 r2 l k):=by
 have no:b7 t k=false→Go.V.Ends [r0,.set l,r2] (bool (o7 t l k).1) [r0,.set (o7 t l k).2,r2] (bool false) [r0,.set l,r2,.box (de t 1),.box (lift (aT (t.ins.get k)))]:=fun q=>by
  rw [show o7 t l k=(false,l) from by unfold o7; rw [q]; rfl]; exact ⟨3,aP rfl,aP rfl,rfl,rfl,bp.refl _,⟨.inl (.inl rfl),.inr rfl,.inl (.inl rfl),trivial⟩⟩
 have go:b7 t k=true→ah 42 3 (Go.V.Ends [r0,.set l,r2] (bool (o7 t l k).1) [r0,.set (o7 t l k).2,r2]) (aj 42 9) (qT t r0 r2 l k):=fun q=>by
  rw [show o7 t l k=o9 t l k from by unfold o7; rw [q]; rfl]; exact Sj t r0 r2 l k hk hS hw
 refine aH (X:=xe) (stop:=ov) (Sp _ _ t r0 r2 l k ?_)
 have w1:decide ((k:Int)>0)=true→IntKind.i64.wrap ((k:Int)-1)=((k-1:Nat):Int):=fun h=>by
  have h:=of_decide_eq_true h
  rw [fR (by omega) (by have:=hS.ins; omega)]
  omega
 refine ay (fun h=>?_) (fun h=>?_)
 ·have h:((t.ins.get k).op==1)=true:=h
  refine ay (fun h0=>no (by simp only [b7,h,show decide ((k:Int)≥(ju t.ins:Int))=true from h0,bN])) (fun h0=>?_)
  have h0:decide ((k:Int)≥(ju t.ins:Int))=false:=h0
  refine ay (fun h1=>?_) (fun h1=>?_)
  ·rw [w1 h1]
   have lX:decide ((k:Int)>0)=true:=h1
   have h1'':=of_decide_eq_true h1
   refine aA (au (by omega)) (ay (fun h2=>no ?_) (fun h2=>?_))
   ·simp only [b7,h,h0,lX,show decide ((t.ins.get k).k.n≤(t.ins.get (k-1)).k.n)=true from h2,bN]
   ·exact ah.le (qT t r0 r2 l k) (by repeat' (first|exact trivial|refine cR rfl ?_)) (rc (rc (rc (rc (rc (.nil)))))) rfl (go (by simp only [b7,h,h0,lX,show decide ((t.ins.get k).k.n≤(t.ins.get (k-1)).k.n)=false from h2,bN]))
  ·exact ah.le (qT t r0 r2 l k) (by repeat' (first|exact trivial|refine cR rfl ?_)) (rc (rc (rc (rc (rc (.nil)))))) rfl (go (by simp only [b7,h,h0,show decide ((k:Int)>0)=false from h1,bN]))
 ·exact ah.le (qT t r0 r2 l k) (by repeat' (first|exact trivial|refine cR rfl ?_)) (rc (rc (rc (rc (rc (.nil)))))) rfl (go (by simp only [b7,show ((t.ins.get k).op==1)=false from h,bN]))
theorem R8 (t:ai) (r0 r2:ae) (l:List Int) (k:Nat) (hk:k<t.ins.n) (hS:ed t) (hw:eG 3 [r0,.set l,r2]):ah 42 3 (Go.V.Ends [r0,.set l,r2] (bool (o3 t l k).1) [r0,.set (o3 t l k).2,r2]) (aj 42 3) (J8 t r0 r2 l k):=by
 have no:b3 t k=false→Go.V.Ends [r0,.set l,r2] (bool (o3 t l k).1) [r0,.set (o3 t l k).2,r2] (bool false) [r0,.set l,r2,.box (de t 1),.box (lift (aT (t.ins.get k)))]:=fun q=>by
  rw [show o3 t l k=(false,l) from by unfold o3; rw [q]; rfl]; exact ⟨3,aP rfl,aP rfl,rfl,rfl,bp.refl _,⟨.inl (.inl rfl),.inr rfl,.inl (.inl rfl),trivial⟩⟩
 have go:b3 t k=true→ah 42 3 (Go.V.Ends [r0,.set l,r2] (bool (o3 t l k).1) [r0,.set (o3 t l k).2,r2]) (aj 42 7) (uK t r0 r2 l k):=fun q=>by
  rw [show o3 t l k=o7 t l k from by unfold o3; rw [q]; rfl]; exact QU t r0 r2 l k hk hS hw
 refine aH (X:=xe) (stop:=ov) (RP _ _ t r0 r2 l k ?_)
 rw [G6 (by omega) hS.ins]
 refine ay (fun h=>?_) (fun h=>?_)
 ·have h0:iv (t.ins.get k)=true:=by simp only [iv,show ((t.ins.get k).op==20)=true from h,bN]
  clear h
  refine ay (fun h1=>?_) (fun h1=>?_)
  ·have h1:(true != ((k:Int)==(t.ins.n:Int)-1))=true:=h1
   exact no (by simp only [b3,h0,h1,bN])
  have h1:(true != ((k:Int)==(t.ins.n:Int)-1))=false:=h1
  repeat' (first|refine ay (fun h=>?_) (fun h=>?_)|refine ⟨Qs _,?_⟩|refine ⟨QJ _,?_⟩|done)
  all_goals (try simp only [Bool.not_eq_true',Bool.not_eq_false'] at *)
  all_goals first
   | exact no (by simp only [b3, *,bN])
   | exact ah.le (uK t r0 r2 l k) (by repeat' (first|exact trivial|refine cR rfl ?_)) (rc (rc (rc (rc (rc (.nil)))))) rfl (go (by simp only [b3, *,bN]))
   | (exfalso; simp only [decide_eq_true_eq,decide_eq_false_iff_not] at *; omega)
 ·have h0:iv (t.ins.get k)=((t.ins.get k).op==21):=by simp only [iv,show ((t.ins.get k).op==20)=false from h,bN]
  clear h
  refine ay (fun h1=>?_) (fun h1=>?_)
  ·have h1:(((t.ins.get k).op==21)!=((k:Int)==(t.ins.n:Int)-1))=true:=h1
   exact no (by simp only [b3,h0,h1,bN])
  have h1:(((t.ins.get k).op==21)!=((k:Int)==(t.ins.n:Int)-1))=false:=h1
  repeat' (first|refine ay (fun h=>?_) (fun h=>?_)|refine ⟨Qs _,?_⟩|refine ⟨QJ _,?_⟩|done)
  all_goals (try simp only [Bool.not_eq_true',Bool.not_eq_false'] at *)
  all_goals first
   | exact no (by simp only [b3, *,bN])
   | exact ah.le (uK t r0 r2 l k) (by repeat' (first|exact trivial|refine cR rfl ?_)) (rc (rc (rc (rc (rc (.nil)))))) rfl (go (by simp only [b3, *,bN]))
   | (exfalso; simp only [decide_eq_true_eq,decide_eq_false_iff_not] at *; omega)
theorem Vp (t:ai) (r0 r2:ae) (l:List Int) (k:Nat) (hk:k<t.ins.n) (hS:ed t) (hw:eG 3 [r0,.set l,r2]):LC 42 [wj t 1,int k,int (ju t.ins)] [r0,.set l,r2] (bool (o3 t l k).1) [r0,.set (o3 t l k).2,r2]:=
 ig Ym (aP (by kernel_rfl)) (fp (X:=xe) (stop:=ov) (Xa _ _ t r0 r2 l k (aA (au hk) (R8 t r0 r2 l k hk hS hw))))
def Kb:Nat→Bool:=fun i=>Nat.beq i 8
theorem W8:Fn 29:=⟨by kernel_rfl,by kernel_rfl⟩
abbrev bk (ax:ai):List C:=lift (bS (ax))
abbrev cU:jr:=(3,((.c (.rt 2 0 0)),[]))
theorem WR (L:LP) (QD:D→Prop) (t:ai) (h:br (decide ((↑t.2.1:Int)>200)) (QD (int 2)) (br (decide ((↑t.3.1:Int)>60)) (QD (int 2)) (br (decide (t.1.1<0)) (QD (int 31)) (br (decide (t.1.2<0)) (QD (int 31)) (br ((↑t.2.1:Int)==0) (QD (int 31)) ((LC 41 [(.a (bk t))] [] (jZ t) []∧L (aj 29 8) ⟨[cU,(4,((jZ t),[])),(39,((j2 t),[])),(40,((int 0),[]))],[(.box (bk t)),(.set []),(fI t)],[]⟩))))))):gL xe 29 Kb L (bF QD) [dU t] []:=Eq.mp (by kernel_rfl) h
def Mh (t:ai) (l:List Int) (k:Nat):VS:=⟨[(3,(.c (.rt 2 0 0)),[]),(4,(jZ t),[]),(39,(j2 t),[]),(40,int k,[])],[(.box (bk t)),.set l,(fI t)],[]⟩
theorem KX (L:LP) (QD:D→Prop) (t:ai) (l:List Int) (k:Nat) (h:br (decide ((↑k:Int)<(↑t.2.1:Int))) ((LC 42 [(.a (de (t) 1)),(int (↑k:Int)),(jZ t)] [(.box (bk t)),(.set l),(fI t)] (bool ((o3 t (HF (some (ae.set l))) k).1)) [(.box (bk t)),(.set ((o3 t (HF (some (ae.set l))) k).2)),(fI t)]∧br (!(o3 t (HF (some (ae.set l))) k).1) (QD (int 31)) (L (aj 29 8) ⟨[cU,(4,((jZ t),[])),(39,((j2 t),[])),(40,((int (IntKind.i64.wrap ((↑k:Int)+1))),[]))],[(.box (bk t)),(.set ((o3 t (HF (some (ae.set l))) k).2)),(fI t)],[]⟩))) (QD (int 0))):dh xe 29 Kb L (bF QD) 8 (Mh t l k):=Eq.mp (by kernel_rfl) h
def uX (t:ai):Nat→Nat→List Int→Bool
 | 0,_,_=>true
 | m+1,k,l=>bif (o3 t l k).1 then uX t m (k+1) (o3 t l k).2 else false
def bW (t:ai):Int:=bif decide ((t.ins.n:Int)>200) then 2 else bif decide ((t.aa.n:Int)>60) then 2 else bif !(decide (t.place.fn<0)||(decide (t.place.line<0)||((t.ins.n:Int)==0)))&&uX t t.ins.n 0 [] then 0 else 31
theorem Q7 (t:ai) (hS:ed t) (a:Int):∀ k,k≤t.ins.n→∀ l,(bif uX t (t.ins.n-k) k l then 0 else 31)=a→ah 29 0 (cf (int a)) (aj 29 8) (Mh t l k):=by
 have hN:=hS.ins
 refine bo (fun k hk ih l ha=>?_) (fun l ha=>?_)
 ·have q:t.ins.n-k=(t.ins.n-(k+1))+1:=by omega
  rw [q] at ha
  refine bD (X:=xe) (stop:=Kb) (KX _ _ t l k ?_)
  rw [cd hk (bU hN (by decide))]
  refine ay (fun h=>?_) (fun h=>(dec_lt h hk).elim)
  refine ⟨Vp t _ _ l k hk hS ⟨.inl rfl,.inl rfl,.inl rfl,trivial⟩,?_⟩
  refine ay (fun h1=>?_) (fun h1=>?_)
  ·have h1:(o3 t l k).1=false:=(Bool.not_eq_true' _).mp h1
   rw [show uX t (t.ins.n-(k+1)+1) k l=false from by unfold uX; rw [h1]; rfl] at ha
   subst ha
   exact bp.refl _
  ·have h1:(o3 t l k).1=true:=(Bool.not_eq_false' _▸h1:(o3 t l k).1=true)
   rw [show uX t (t.ins.n-(k+1)+1) k l=uX t (t.ins.n-(k+1)) (k+1) (o3 t l k).2 from by rw [show uX t (t.ins.n-(k+1)+1) k l=(bif (o3 t l k).1 then uX t (t.ins.n-(k+1)) (k+1) (o3 t l k).2 else false) from rfl,h1]; rfl] at ha
   exact ih _ ha
 ·rw [Nat.sub_self] at ha
  refine bD (X:=xe) (stop:=Kb) (KX _ _ t l _ ?_)
  refine ay (fun h=>cE h) (fun h=>?_)
  subst ha; exact bp.refl _
theorem Me (t:ai) (hS:ed t):LC 29 [dU t] [] (int (bW t)) []:=by
 refine bw (X:=xe) (stop:=Kb) W8 (aP (by kernel_rfl)) (WR _ _ t ?_)
 refine ay (fun h1=>?_) (fun h1=>ay (fun h2=>?_) (fun h2=>ay (fun h3=>?_) (fun h3=>ay (fun h4=>?_) (fun h4=>ay (fun h5=>?_) (fun h5=>⟨TQ _,?_⟩)))))
 ·rw [show bW t=2 from by simp only [bW,show decide ((t.ins.n:Int)>200)=true from h1,bN]]; exact bp.refl _
 ·rw [show bW t=2 from by simp only [bW,show decide ((t.ins.n:Int)>200)=false from h1,show decide ((t.aa.n:Int)>60)=true from h2,bN]]; exact bp.refl _
 ·rw [show bW t=31 from by simp only [bW,show decide ((t.ins.n:Int)>200)=false from h1,show decide ((t.aa.n:Int)>60)=false from h2,show decide (t.place.fn<0)=true from h3,bN]]; exact bp.refl _
 ·rw [show bW t=31 from by simp only [bW,show decide ((t.ins.n:Int)>200)=false from h1,show decide ((t.aa.n:Int)>60)=false from h2,show decide (t.place.line<0)=true from h4,bN]]; exact bp.refl _
 ·rw [show bW t=31 from by simp only [bW,show decide ((t.ins.n:Int)>200)=false from h1,show decide ((t.aa.n:Int)>60)=false from h2,show ((t.ins.n:Int)==0)=true from h5,bN]]; exact bp.refl _
 ·exact Q7 t hS _ 0 (bB _) [] (by simp only [bW,Nat.sub_zero,show decide ((t.ins.n:Int)>200)=false from h1,show decide ((t.aa.n:Int)>60)=false from h2,show decide (t.place.fn<0)=false from h3,show decide (t.place.line<0)=false from h4,show ((t.ins.n:Int)==0)=false from h5,bN])
open Go Go.V
def If:FuncId→List D→List ae→Out:=F9
theorem nv {n:Int}:∀ {l:List Int},dx n l=true↔n∈l
 | []=>by simp [dx]
 | x::l=>by
   unfold dx
   split
   ·rename_i h; simp at h; simp [h]
   ·rename_i h
    simp only [beq_eq_false_iff_ne] at h
    rw [nv]
    simp [h]
theorem wz {n m:Int} {l:List Int}:dx n (qA m l)=(dx n l||(n==m)):=by
 rw [eh,nv,Bool.or_eq_true,nv,beq_iff_eq]
 unfold qA
 split
 ·rename_i h
  rw [nv] at h
  exact ⟨.inl,fun q=>q.elim id fun q=>q▸h⟩
 ·simp
theorem um {x:Sq iY} {v:Int}:∀ {j:Nat},dx v (jM x j)=true↔∃ i,i<j∧(x.get i).value=v
 | 0=>by simp [jM,dx]
 | j+1=>by
   rw [show jM x (j+1)=qA (x.get j).value (jM x j) from rfl,wz,Bool.or_eq_true,um,beq_iff_eq]
   constructor
   ·rintro (⟨i,h1,h2⟩|h)
    ·exact ⟨i,by omega,h2⟩
    ·exact ⟨j,by omega,h.symm⟩
   ·rintro ⟨i,h1,h2⟩
    by_cases e:i=j
    ·subst e; exact .inr h2.symm
    ·exact .inl ⟨i,by omega,h2⟩
theorem Lb {x:Sq iY} {v:Int}:decide (DM x v<0) = !dx v (jM x x.n):=by
 rw [eh,decide_eq_true_iff,Bool.not_eq_true',← Bool.not_eq_true,um]
 unfold DM
 rcases rC (fun i=>(x.get i).value==v) x.n with ⟨h1,h2⟩|⟨i,h1,h2,h3,h4⟩
 ·rw [h1]
  refine ⟨fun _=>?_,fun _=>by omega⟩
  rintro ⟨i,h3,h4⟩
  have:=h2 i h3
  simp [h4] at this
 ·rw [h1]
  refine ⟨fun h=>by omega,fun h=>?_⟩
  exact absurd ⟨i,h2,by simpa using h3⟩ h
theorem CS {x:Sq iY} {j:Nat} (hj:j<x.n):(DM x (x.get j).value != (j:Int))=dx (x.get j).value (jM x j):=by
 rw [eh,um,bne_iff_ne]
 unfold DM
 rcases rC (fun i=>(x.get i).value==(x.get j).value) x.n with ⟨h1,h2⟩|⟨i,h1,h2,h3,h4⟩
 ·have:=h2 j hj
  simp at this
 ·rw [h1]
  constructor
  ·intro h
   have:¬ j<i:=fun q=>by have:=h4 j q; simp at this
   exact ⟨i,by omega,by simpa using h3⟩
  ·rintro ⟨m,h5,h6⟩ e
   have e:i=j:=by omega
   subst e
   have:=h4 m h5
   simp [h6] at this
theorem Cf {a b:Sq ByteArray}:dM nQ a b=dM nQ b a:=by
 unfold dM
 by_cases h:a.n=b.n
 ·rw [h]
  rw [show (fun i=>nQ (a.get i) (b.get i))=fun i=>nQ (b.get i) (a.get i) from funext fun i=>A4 _ _]
 ·have h1:(a.n==b.n)=false:=by simpa using h
  have h2:(b.n==a.n)=false:=by simpa using fun e=>h e.symm
  rw [h1,h2]; rfl
theorem Eh {p q:Nat→Bool} {n:Nat} (h:∀ i,i<n→p i=q i):cL p n=cL q n:=sk fun i _ hi=>h i (by omega)
theorem Kg {p:Int→Bool} (x y:Sq Int):cL (fun i=>p ((cW x y).get i)) (cW x y).n=(cL (fun i=>p (x.get i)) x.n&&cL (fun i=>p (y.get i)) y.n):=by
 have g:∀ i,(cW x y).get i=if i<x.n then x.get i else y.get (i-x.n):=fun i=>by
  show (Bool.rec (y.get (i-x.n)) (x.get i) (Nat.blt i x.n):Int)=_
  cases hb:Nat.blt i x.n with
  | true=>rw [if_pos (by simpa [cX] using hb)]
  | false=>rw [if_neg (fun q=>by rw [aK q] at hb; cases hb)]
 rw [eh,cG,fz,fz,fz]
 constructor
 ·intro h
  refine ⟨fun i hi=>?_,fun i hi=>?_⟩
  ·have:=h i (by show i<x.n+y.n; omega)
   simpa [g,hi] using this
  ·have:=h (x.n+i) (by show x.n+i<x.n+y.n; omega)
   rw [g,if_neg (by omega),Nat.add_sub_cancel_left] at this
   exact this
 ·rintro ⟨h1,h2⟩ i hi
  have hi:i<x.n+y.n:=hi
  rw [g]
  split
  ·rename_i h; exact h1 i h
  ·exact h2 _ (by omega)
theorem qh {p:Int→Bool} {g:Nat→Sq Int}:∀ {m k:Nat} {l:Sq Int},cL (fun i=>p ((yg g m k l).get i)) (yg g m k l).n=(cL (fun i=>p (l.get i)) l.n&&b5 (fun j=>cL (fun i=>p ((g j).get i)) (g j).n) m k)
 | 0,k,l=>by simp [yg,b5]
 | m+1,k,l=>by
   rw [show yg g (m+1) k l=yg g m (k+1) (cW l (g k)) from rfl,qh,Kg]
   show _=(cL (fun i=>p (l.get i)) l.n&&(bif cL (fun i=>p ((g k).get i)) (g k).n then b5 (fun j=>cL (fun i=>p ((g j).get i)) (g j).n) m (k+1) else false))
   cases cL (fun i=>p ((g k).get i)) (g k).n<;>simp
theorem SP (t:ai) (e:ag) (k:Int):wG t e k=jF t e k:=by
 have e1:cL (X1 t e k) e.aC.n=cL (G8 t e k) e.aC.n:=Eh fun j hj=>by
  unfold X1 G8
  rw [CS hj,Cf (a:=(e.aC.get j).names),bne_comm (a:=(e.aC.get j).cls)]
  generalize (!ek t (e.aC.get j).value k)=a
  generalize ((t.ins.get (e.aC.get j).value.toNat).op != 17)=b
  generalize dx (e.aC.get j).value (jM e.aC j)=c
  generalize ((t.ins.get (e.aC.get j).value.toNat).n != (e.aC.get j).cls)=d
  generalize (!dM nQ (t.ins.get (e.aC.get j).value.toNat).names (e.aC.get j).names)=f
  generalize (((e.aC.get j).items.n:Int)!=((e.aC.get j).names.n:Int))=g
  revert a b c d f g
  decide
 have e2:RM t e k=jc t k (jM e.aC e.aC.n):=funext fun v=>by
  unfold RM jc
  rw [Lb]
  cases ek t v k<;>simp
 unfold wG jF X5 Wn allM
 rw [qh (p:=RM t e k),qh (p:=RM t e k),e1,e2]
 show _=(_&&(_&&(_&&(cL (fun j=>cL (fun i=>jc t k (jM e.aC e.aC.n) ((e.frames.get j).vars.get i)) (e.frames.get j).vars.n) e.frames.n&&cL (fun j=>cL (fun i=>jc t k (jM e.aC e.aC.n) ((e.aC.get j).items.get i)) (e.aC.get j).items.n) e.aC.n))))
 have e3:cL (fun i=>jc t k (jM e.aC e.aC.n) ((cx 0:Sq Int).get i)) (cx 0:Sq Int).n=true:=rfl
 rw [e3,Bool.true_and]
 unfold cL
 generalize (!(decide ((e.frames.n:Int)<1)||(decide ((e.frames.n:Int)>6)||decide (e.back<0))))=a
 ac_rfl
open Go Go.V
theorem eG.of {n:Nat}:∀ {l:List ae},(∀ x∈l,ib n x)→eG n l
 | [],_=>trivial
 | x::l,h=>⟨h x (dZ ..),eG.of fun y hy=>h y (er _ hy)⟩
theorem cl.low {f:FuncId} (hf:Fn f) {ds:List D} {rs aE:List ae} {d:D} (h:eG rs.length rs→LC f ds rs d aE):LC f ds rs d aE:=
 ⟨hf.enters,fun N aw w0 sp sl df a w E vs hR hv=>(h (eG.of fun x hx=>by
  obtain ⟨q,hq⟩:=List.mem_iff_getElem?.1 hx
  have dp:q<rs.length:=(List.getElem?_eq_some_iff.1 hq).1
  have hE:E.length=rs.length:=hR.len
  have:=aM.low (hR.roots q x _ hq (gj (by omega)))
  rwa [hE] at this)).out.2 N aw w0 sp sl df a w E vs hR hv⟩
open Go Go.V
theorem jC {f:FuncId} (hf:Fn f) {ds:List D} {rs:List ae} {d:D} {aE:List ae} (hl:ds.length≤(wS f).ntmps) (h:ah f rs.length (Go.V.gg rs d aE) [.code (nV f)] ⟨cH 0 ds,rs,[]⟩):LC f ds rs d aE:=by
 obtain ⟨h1,h2⟩:=xp f _ hf.mn
 exact LF rY h1 h2 hf.body hl h
theorem ah.yb {f:FuncId} {n0:Nat} {Q:D→List ae→Prop} {todo:List Item} {s:VS} (r j q m el sz n:Nat) (get:Nat→Nat→I) (l:List C) (hr:aY s.rs r=some (.box l)) (hj:aY l j=some (.sa q m)) (hq:aY s.rs q=some (.arr el sz n get)) (g:ah f n0 Q todo (Gx r j q m el sz n get l s)):ah f n0 Q todo s:=
 fun b cs hb=>Goal.yb hr hj hq (g b cs hb)
theorem eD {α:Type} {l:List α} {i:Nat} {x:α} (h:aY l i=some x):i<l.length:=by
 rw [bQ] at h
 exact (List.getElem?_eq_some_iff.1 h).1
open Go Go.V
def nx (l:Sq Int) (p:Nat) (n:Int):Int×Nat:=bif decide ((p:Int)≥(l.n:Int)) then (0,p) else bif decide (n<1) then (0,p) else (Nx (l.get p) n,p+1)
def aB (l:Sq Int) (p:Nat):ae:=.box [.im (j7 1 cg l),.im (iI p)]
def aL (m i ni j ne:Nat) (fuel param:Int):ae:=.box [.rt m 0 0,.im (iI 0),.im (iI 0),.sa i ni,.sa j ne,.im (iI fuel),.im (iI param)]
def bV (s:Sq af):ae:=.arr 40 14 s.n (fun i=>bn (s.get i))
def j8 (s:Sq ag):ae:=.arr 73 3 s.n (fun i=>bq (s.get i))
def WE (l:Sq Int) (ds:List D):Rd:=match ds with
 | [.c (.rt m _ _),.c (.im (.v (.int .i64 n)))]=>.get m fun x=>match x with
   | .box [y,.im (.v (.int .i64 q))]=>.ret (int (nx l q.toNat n).1,m,.box [y,.im (iI (nx l q.toNat n).2)])
   | _=>.no
 | _=>.no
def YG:iZ:={ F:=If }
def XN (l:Sq Int):iZ:={ F:=If,W:=fun f ds=>WE l ds }
def jt (ins:Sq af):Nat→Nat→Sq Int→Sq Int
 | 0,_,h=>h
 | m+1,k,h=>bif oy (ins.get k).op then jt ins m (k+1) (cW h ⟨1,fun _=>(k:Int)⟩) else jt ins m (k+1) h
def G4 (l:Sq Int) (p:Nat) (h:Sq Int):Int×Nat:=(h.get (h.n-1-(nx l p (min 3 h.n)).1.toNat),(nx l p (min 3 h.n)).2)
def Hm (l:Sq Int) (p:Nat) (h:Sq Int):Int×Nat:=(h.get (nx l p h.n).1.toNat,(nx l p h.n).2)
def M0 (l:Sq Int) (p:Nat) (h:Sq Int):Int×Nat:=bif (nx l p 2).1==0 then G4 l (nx l p 2).2 h else Hm l (nx l p 2).2 h
def MT (l:Sq Int) (p:Nat) (h:Sq Int):Int×Nat:=bif (h.n:Int)==0 then (-1,p) else M0 l p h
def vl (l:Sq Int) (p:Nat) (ins:Sq af):Int×Nat:=MT l p (jt ins ins.n 0 (cx 0))
theorem uv (h:Sq Int) (k:Int):cw (.arr 3 1 (h.n+1) (j0 h.n (fun i=>cg (h.get i)) (flat 1 [I.v (Value.int IntKind.i64 k)]))) (.arr 3 1 (cW h ⟨1,fun _=>k⟩).n fun i=>cg ((cW h ⟨1,fun _=>k⟩).get i)):=by
 rw [← Fj h ⟨1,fun _=>k⟩ cg]
 refine cw.arr fun i hi j hj=>?_
 have hj:j=0:=by omega
 subst hj
 show dP (Bool.rec (flat 1 [I.v (Value.int IntKind.i64 k)] (i-h.n) 0) (cg (h.get i) 0) (Nat.blt i h.n):I) (Bool.rec (cg k 0) (cg (h.get i) 0) (Nat.blt i h.n):I)
 cases hb:Nat.blt i h.n with
 | true=>exact dP.refl _
 | false=>
   have:i-h.n=0:=by
    have:¬ i<h.n:=fun q=>by rw [aK q] at hb; cases hb
    omega
   rw [this]
   exact dP.refl _
theorem uE {l:Sq Int} {p:Nat} {n:Int} (h1:1≤n) (h2:n≤4611686018427387904):0≤(nx l p n).1∧(nx l p n).1<n:=by
 unfold nx
 cases decide ((p:Int)≥(l.n:Int)) with
 | true=>exact ⟨by simp,by simp only [cond_true]; omega⟩
 | false=>
   rw [show decide (n<1)=false from decide_eq_false (by omega)]
   simp only [cond_false]
   unfold Nx
   have a1:=Int.tmod_lt_of_pos (l.get p) (show 0<n by omega)
   have a2:=Int.lt_tmod_of_pos (l.get p) (show 0<n by omega)
   cases h3:decide ((l.get p).tmod n<0) with
   | true=>
     have h3:=of_decide_eq_true h3
     simp only [cond_true]
     rw [fR (by omega) (by omega)]
     omega
   | false=>
     have h3:=of_decide_eq_false h3
     simp only [cond_false]
     omega
theorem il {l:Sq Int} {p:Nat} {n:Int} (h1:1≤n) (h2:n≤4611686018427387904):∃ d:Nat,(nx l p n).1=(d:Int)∧(d:Int)<n:=by
 obtain ⟨a,b⟩:=uE (l:=l) (p:=p) h1 h2
 obtain ⟨d,hd⟩:=Int.eq_ofNat_of_zero_le a
 exact ⟨d,hd,by omega⟩
def Uw:Nat→Bool:=cM
theorem XJ:Fn 19:=⟨by kernel_rfl,by kernel_rfl⟩
theorem XW (L:LP) (QE:D→List ae→Prop) (l:Sq Int) (p:Nat) (n:Int) (h:br (decide ((↑p:Int)≥(↑l.1:Int))) (QE (int 0) [(aB l p)]) (br (decide (n<1)) (QE (int 0) [(aB l p)]) (nd (cC (IntKind.i64.wrap (IntKind.i64.wrap ((↑p:Int)+1)-1)) l.1) ((LC 25 [(int (l.2 (IntKind.i64.wrap (IntKind.i64.wrap ((↑p:Int)+1)-1)).toNat)),(int n)] [] (int (Nx (l.2 (IntKind.i64.wrap (IntKind.i64.wrap ((↑p:Int)+1)-1)).toNat) n)) []∧QE (int (Nx (l.2 (IntKind.i64.wrap (IntKind.i64.wrap ((↑p:Int)+1)-1)).toNat) n)) [(.box [(.im (.sl 1 l.1 (fun i=>cg (l.2 i)))),(ci (IntKind.i64.wrap ((↑p:Int)+1)))]),.dead]))))):gL YG 19 Uw L QE [.c (.rt 0 0 0),int n] [aB l p]:=Eq.mp (by kernel_rfl) h
theorem UC (l:Sq Int) (p:Nat) (n:Int) (hl:l.n≤maxLen):LC 19 [.c (.rt 0 0 0),int n] [aB l p] (int (nx l p n).1) [aB l (nx l p n).2]:=by
 refine ig XJ (aP (by kernel_rfl)) (fp (X:=YG) (stop:=Uw) (XW _ _ l p n ?_))
 refine ay (fun h1=>?_) (fun h1=>ay (fun h2=>?_) (fun h2=>?_))
 ·rw [show nx l p n=(0,p) from by simp only [nx,show decide ((p:Int)≥(l.n:Int))=true from h1,cond_true]]
  exact ⟨1,aP rfl,aP rfl,rfl,rfl,bp.refl _,⟨.inr rfl,bj _ _⟩⟩
 ·rw [show nx l p n=(0,p) from by simp only [nx,show decide ((p:Int)≥(l.n:Int))=false from h1,show decide (n<1)=true from h2,cond_true,cond_false]]
  exact ⟨1,aP rfl,aP rfl,rfl,rfl,bp.refl _,⟨.inr rfl,bj _ _⟩⟩
 ·have g1:=of_decide_eq_false h1
  have g2:=of_decide_eq_false h2
  have hp:p<l.n:=by omega
  rw [cd hp hl,show ((p+1:Nat):Int)-1=(p:Int) by omega,kR (by unfold maxLen at hl; omega)]
  refine aA (au hp) ⟨Vo _ _ (by omega),?_⟩
  rw [show nx l p n=(Nx (l.get p) n,p+1) from by simp only [nx,show decide ((p:Int)≥(l.n:Int))=false from h1,show decide (n<1)=false from h2,cond_false]]
  exact ⟨1,aP rfl,aP rfl,rfl,rfl,bp.refl _,⟨.inr rfl,bj _ _⟩⟩
theorem ej (l:Sq Int) (p:Nat) (n:Int) {m:Nat} {RS:List ae} (hl:l.n≤maxLen) (h:aY RS m=some (aB l p)):WC 19 [.c (.rt m 0 0),int n] RS (int (nx l p n).1) m (aB l (nx l p n).2):=
 uk.zp (i:=0) (rs:=[aB l p]) (y:=aB l (nx l p n).2) (UC l p n hl) [m] RS rfl ⟨h,eD h,rfl⟩ rfl ⟨_,rfl,trivial⟩
open Go Go.V
def rf:Nat→Bool:=fun i=>Nat.beq i 3||Nat.beq i 7||Nat.beq i 9||Nat.beq i 10||Nat.beq i 11
theorem XK:Fn 23:=⟨by kernel_rfl,by kernel_rfl⟩
abbrev dG:jr:=(0,((.c (.rt 1 0 0)),[]))
abbrev dS:C:=.im (.v (.slice .none 0 0))
abbrev bl (ax:Sq af):ae:=.arr 40 14 ax.1 (fun i=>bn (ax.2 i))
theorem Yr (L:LP) (QE:D→List ae→Prop) (l:Sq Int) (p:Nat) (ins:Sq af) (ne:Nat) (fuel param:Int) (h:L (aj 23 3) ⟨[dG,(3,((.c dS),[])),(4,((int 0),[]))],[(aB l p),(aL 0 2 ins.1 3 ne fuel param),(bl ins),.dead],[]⟩):gL (XN l) 23 rf L QE [.c (.rt 1 0 0)] [aB l p,aL 0 2 ins.n 3 ne fuel param,bV ins,.dead]:=Eq.mp (by kernel_rfl) h
abbrev pD:jr:=(0,(.c (.rt 1 0 0)),[])
abbrev Et (ax:Sq Int) (aX:Nat) (aN:Sq af) (cq:Nat) (ct dJ:Int) (ec:Sq Int):List ae:=[(aB ax aX),(aL 0 2 aN.1 3 cq ct dJ),(bl aN),.dead,.arr 3 1 ec.n (fun i=>cg (ec.get i))]
def yK (l:Sq Int) (p:Nat) (ins:Sq af) (ne:Nat) (fuel param:Int) (hq:Sq Int) (k:Nat):VS:=⟨[pD,(3,.c (.sa 4 hq.n),[]),(4,int k,[])],(Et l p ins ne fuel param hq),[]⟩
abbrev zn (ax:Nat):ae:=.row 3 1 1 [(ci (↑ax:Int))]
abbrev E5 (ax:Sq Int) (aX:Nat):ae:=.arr 3 1 (ax.1+1) (j0 ax.1 (fun i=>cg (ax.2 i)) (1,flat 1 [I.v (Value.int IntKind.i64 (↑aX:Int))]).snd)
abbrev ur (ax:Sq Int):jr:=(3,((.c (.sa 4 ax.1)),[]))
abbrev k8 (ax:Sq Int):ae:=.arr 3 1 ax.1 (fun i=>cg (ax.2 i))
abbrev qV (ax:Sq Int) (aX:Nat) (aN:Sq af) (cq:Nat) (ct dJ:Int) (ec:Sq Int):List ae:=[(aB ax aX),(aL 0 2 aN.1 3 cq ct dJ),(bl aN),.dead,(k8 ec)]
theorem LD (L:LP) (QE:D→List ae→Prop) (l:Sq Int) (p:Nat) (ins:Sq af) (ne:Nat) (fuel param:Int) (hq:Sq Int) (k:Nat) (h:br (decide ((↑k:Int)<(↑ins.1:Int))) (nd (cC (↑k:Int) ins.1) (nd (k.blt ins.1) ((LC 35 [(int ((ins.2 k).1))] [] (bool (oy (ins.2 k).1)) []∧br (oy (ins.2 k).1) (nd (dX (hq.1+1) 8) (nd (hq.1.beq hq.1) (L (aj 23 3) ⟨[dG,(3,((.c (.sa 6 (.succ hq.1))),[])),(4,((int (IntKind.i64.wrap ((↑k:Int)+1))),[]))],[(aB l p),(aL 0 2 ins.1 3 ne fuel param),(bl ins),.dead,.dead,(zn k),(E5 hq k)],[]⟩))) (L (aj 23 3) ⟨[dG,(ur hq),(4,((int (IntKind.i64.wrap ((↑k:Int)+1))),[]))],(qV l p ins ne fuel param hq),[]⟩))))) (L (aj 23 7) ⟨[dG,(ur hq),(4,((int (↑k:Int)),[])),(12,((bool false),[]))],(qV l p ins ne fuel param hq),[]⟩)):dh (XN l) 23 rf L QE 3 (yK l p ins ne fuel param hq k):=Eq.mp (by kernel_rfl) h
abbrev xR (ax:Sq Int):aG:=[pD,(3,.c (.sa 4 ax.n),[])]
def DG (l:Sq Int) (p:Nat) (ins:Sq af) (ne:Nat) (fuel param:Int) (hq:Sq Int):VS:=⟨(xR hq),(Et l p ins ne fuel param hq),[]⟩
theorem RQ (L:LP) (QE:D→List ae→Prop) (l:Sq Int) (p:Nat) (ins:Sq af) (ne:Nat) (fuel param:Int) (hq:Sq Int) (h:br ((↑hq.1:Int)==0) (QE (int (-1)) [(aB l p),(aL 0 2 ins.1 3 ne fuel param),(.arr 40 14 ins.1 (fun i=>bn (ins.2 i))),.dead,(.arr 3 1 hq.1 (fun i=>cg (hq.2 i)))]) (L (aj 23 9) ⟨[dG,(ur hq),(31,((bool false),[]))],(qV l p ins ne fuel param hq),[]⟩)):dh (XN l) 23 rf L QE 7 (DG l p ins ne fuel param hq):=Eq.mp (by kernel_rfl) h
def Da (l:Sq Int) (p:Nat) (ins:Sq af) (ne:Nat) (fuel param:Int) (hq:Sq Int):VS:=⟨(xR hq),(Et l p ins ne fuel param hq),[]⟩
abbrev l4:List D:=[(.c (.rt 0 0 0)),(int 2)]
abbrev kE (ax:Sq Int) (aX:Nat):D:=int ((nx ax aX 2).1)
abbrev iX (ax:Sq Int) (aX:Nat):ae:=aB ax ((nx ax aX 2).2)
theorem Tl (L:LP) (QE:D→List ae→Prop) (l:Sq Int) (p:Nat) (ins:Sq af) (ne:Nat) (fuel param:Int) (hq:Sq Int) (h:(WC 19 l4 (qV l p ins ne fuel param hq) (kE l p) 0 (aB l ((nx l p 2).2))∧br ((nx l p 2).1==0) (L (aj 23 10) ⟨[dG,(ur hq),(37,((bool true),[]))],[(iX l p),(aL 0 2 ins.1 3 ne fuel param),(bl ins),.dead,(k8 hq)],[]⟩) (L (aj 23 11) ⟨[dG,(ur hq),(37,((bool false),[]))],[(iX l p),(aL 0 2 ins.1 3 ne fuel param),(bl ins),.dead,(k8 hq)],[]⟩))):dh (XN l) 23 rf L QE 9 (Da l p ins ne fuel param hq):=Eq.mp (by kernel_rfl) h
def zA (l:Sq Int) (p:Nat) (ins:Sq af) (ne:Nat) (fuel param:Int) (hq:Sq Int):VS:=⟨(xR hq),[aB l p,(aL 0 2 ins.1 3 ne fuel param),(bl ins),.dead,.arr 3 1 hq.n (fun i=>cg (hq.get i))],[]⟩
theorem Ni (L:LP) (QE:D→List ae→Prop) (l:Sq Int) (p:Nat) (ins:Sq af) (ne:Nat) (fuel param:Int) (hq:Sq Int) (h:(WC 19 [(.c (.rt 0 0 0)),(int (if (↑hq.1:Int)<3 then (↑hq.1:Int) else 3))] (qV l p ins ne fuel param hq) (int ((nx l p (if (↑hq.1:Int)<3 then (↑hq.1:Int) else 3)).1)) 0 (aB l ((nx l p (if (↑hq.1:Int)<3 then (↑hq.1:Int) else 3)).2))∧nd (cC (IntKind.i64.wrap (IntKind.i64.wrap ((↑hq.1:Int)-1)-(nx l p (if (↑hq.1:Int)<3 then (↑hq.1:Int) else 3)).1)) hq.1) (nd ((IntKind.i64.wrap (IntKind.i64.wrap ((↑hq.1:Int)-1)-(nx l p (if (↑hq.1:Int)<3 then (↑hq.1:Int) else 3)).1)).toNat.blt hq.1) (QE (int (hq.2 (IntKind.i64.wrap (IntKind.i64.wrap ((↑hq.1:Int)-1)-(nx l p (if (↑hq.1:Int)<3 then (↑hq.1:Int) else 3)).1)).toNat)) [(aB l ((nx l p (if (↑hq.1:Int)<3 then (↑hq.1:Int) else 3)).2)),(aL 0 2 ins.1 3 ne fuel param),(.arr 40 14 ins.1 (fun i=>bn (ins.2 i))),.dead,(.arr 3 1 hq.1 (fun i=>cg (hq.2 i)))])))):dh (XN l) 23 rf L QE 10 (zA l p ins ne fuel param hq):=Eq.mp (by kernel_rfl) h
def xI (l:Sq Int) (p:Nat) (ins:Sq af) (ne:Nat) (fuel param:Int) (hq:Sq Int):VS:=⟨(xR hq),[aB l p,(aL 0 2 ins.1 3 ne fuel param),(bl ins),.dead,.arr 3 1 hq.n (fun i=>cg (hq.get i))],[]⟩
theorem Od (L:LP) (QE:D→List ae→Prop) (l:Sq Int) (p:Nat) (ins:Sq af) (ne:Nat) (fuel param:Int) (hq:Sq Int) (h:(WC 19 [(.c (.rt 0 0 0)),(oG hq)] (qV l p ins ne fuel param hq) (int ((nx l p (↑hq.1:Int)).1)) 0 (aB l ((nx l p (↑hq.1:Int)).2))∧nd (cC (nx l p (↑hq.1:Int)).1 hq.1) (nd ((nx l p (↑hq.1:Int)).1.toNat.blt hq.1) (QE (int (hq.2 (nx l p (↑hq.1:Int)).1.toNat)) [(aB l ((nx l p (↑hq.1:Int)).2)),(aL 0 2 ins.1 3 ne fuel param),(.arr 40 14 ins.1 (fun i=>bn (ins.2 i))),.dead,(.arr 3 1 hq.1 (fun i=>cg (hq.2 i)))])))):dh (XN l) 23 rf L QE 11 (xI l p ins ne fuel param hq):=Eq.mp (by kernel_rfl) h
theorem O9 (l:Sq Int) (p:Nat) (ins:Sq af) (ne:Nat) (fuel param:Int) (p0:Nat) (hl:l.n≤maxLen) (hq:Sq Int) (h1:1≤hq.n) (h2:hq.n≤1000):ah 23 4 (Go.V.Ends [aB l p0,aL 0 2 ins.n 3 ne fuel param,bV ins,.dead] (int (Hm l p hq).1) [aB l (Hm l p hq).2,aL 0 2 ins.n 3 ne fuel param,bV ins,.dead]) (aj 23 11) (xI l p ins ne fuel param hq):=by
 obtain ⟨d,hd,dp⟩:=il (l:=l) (p:=p) (n:=(hq.n:Int)) (by omega) (by omega)
 refine aH (X:=XN l) (stop:=rf) (Od _ _ l p ins ne fuel param hq ⟨ej l _ _ hl rfl,?_⟩)
 have e:Hm l p hq=(hq.get d,(nx l p (hq.n:Int)).2):=by unfold Hm; rw [hd]; rfl
 rw [e]
 show nd (cC (nx l p (hq.n:Int)).1 hq.n) (nd (Nat.blt (nx l p (hq.n:Int)).1.toNat hq.n) _)
 rw [hd]
 exact aA (au (by omega)) (aA (aK (by show d<hq.n; omega)) ⟨4,aP rfl,aP rfl,rfl,rfl,bp.refl _,⟨.inr rfl,bj _ _⟩⟩)
theorem Ph (l:Sq Int) (p:Nat) (ins:Sq af) (ne:Nat) (fuel param:Int) (p0:Nat) (hl:l.n≤maxLen) (hq:Sq Int) (h1:1≤hq.n) (h2:hq.n≤1000):ah 23 4 (Go.V.Ends [aB l p0,aL 0 2 ins.n 3 ne fuel param,bV ins,.dead] (int (G4 l p hq).1) [aB l (G4 l p hq).2,aL 0 2 ins.n 3 ne fuel param,bV ins,.dead]) (aj 23 10) (zA l p ins ne fuel param hq):=by
 obtain ⟨d,hd,dp⟩:=il (l:=l) (p:=p) (n:=min 3 (hq.n:Int)) (by omega) (by omega)
 refine aH (X:=XN l) (stop:=rf) (Ni _ _ l p ins ne fuel param hq ?_)
 rw [show (if (hq.n:Int)<3 then (hq.n:Int) else 3)=min 3 (hq.n:Int) from by split<;>omega]
 refine ⟨ej l _ _ hl rfl,?_⟩
 have e:G4 l p hq=(hq.get (hq.n-1-d),(nx l p (min 3 (hq.n:Int))).2):=by unfold G4; rw [hd]; rfl
 rw [e,hd,fR (k:=(hq.n:Int)-1) (by omega) (by omega),fR (by omega) (by omega),show (hq.n:Int)-1-(d:Int)=((hq.n-1-d:Nat):Int) by omega]
 exact aA (au (by omega)) (aA (aK (by show hq.n-1-d<hq.n; omega)) ⟨4,aP rfl,aP rfl,rfl,rfl,bp.refl _,⟨.inr rfl,bj _ _⟩⟩)
theorem RO (l:Sq Int) (p:Nat) (ins:Sq af) (ne:Nat) (fuel param:Int) (p0:Nat) (hl:l.n≤maxLen) (hq:Sq Int) (h1:1≤hq.n) (h2:hq.n≤1000):ah 23 4 (Go.V.Ends [aB l p0,aL 0 2 ins.n 3 ne fuel param,bV ins,.dead] (int (M0 l p hq).1) [aB l (M0 l p hq).2,aL 0 2 ins.n 3 ne fuel param,bV ins,.dead]) (aj 23 9) (Da l p ins ne fuel param hq):=by
 refine aH (X:=XN l) (stop:=rf) (Tl _ _ l p ins ne fuel param hq ⟨ej l _ _ hl rfl,?_⟩)
 refine ay (fun h3=>?_) (fun h3=>?_)
 ·rw [show M0 l p hq=G4 l (nx l p 2).2 hq from by unfold M0; rw [show ((nx l p 2).1==0)=true from h3]; rfl]
  exact ah.le (zA l (nx l p 2).2 ins ne fuel param hq) (by repeat' (first|exact trivial|refine cR rfl ?_)) (rc (rc (rc (rc (rc (.nil)))))) rfl (Ph l (nx l p 2).2 ins ne fuel param p0 hl hq h1 h2)
 ·rw [show M0 l p hq=Hm l (nx l p 2).2 hq from by unfold M0; rw [show ((nx l p 2).1==0)=false from h3]; rfl]
  exact ah.le (xI l (nx l p 2).2 ins ne fuel param hq) (by repeat' (first|exact trivial|refine cR rfl ?_)) (rc (rc (rc (rc (rc (.nil)))))) rfl (O9 l (nx l p 2).2 ins ne fuel param p0 hl hq h1 h2)
theorem Rg (l:Sq Int) (p:Nat) (ins:Sq af) (ne:Nat) (fuel param:Int) (p0:Nat) (hl:l.n≤maxLen) (hq:Sq Int) (h2:hq.n≤1000):ah 23 4 (Go.V.Ends [aB l p0,aL 0 2 ins.n 3 ne fuel param,bV ins,.dead] (int (MT l p hq).1) [aB l (MT l p hq).2,aL 0 2 ins.n 3 ne fuel param,bV ins,.dead]) (aj 23 7) (DG l p ins ne fuel param hq):=by
 refine aH (X:=XN l) (stop:=rf) (RQ _ _ l p ins ne fuel param hq ?_)
 refine ay (fun h3=>?_) (fun h3=>?_)
 ·rw [show MT l p hq=(-1,p) from by unfold MT; rw [show ((hq.n:Int)==0)=true from h3]; rfl]
  exact ⟨4,aP rfl,aP rfl,rfl,rfl,bp.refl _,⟨.inr rfl,bj _ _⟩⟩
 ·have h3:((hq.n:Int)==0)=false:=h3
  rw [show MT l p hq=M0 l p hq from by unfold MT; rw [h3]; rfl]
  simp only [beq_eq_false_iff_ne] at h3
  exact ah.le (Da l p ins ne fuel param hq) (by repeat' (first|exact trivial|refine cR rfl ?_)) (rc (rc (rc (rc (rc (.nil)))))) rfl (RO l p ins ne fuel param p0 hl hq (by omega) h2)
theorem Rk (l:Sq Int) (p:Nat) (ins:Sq af) (ne:Nat) (fuel param:Int) (p0:Nat) (hl:l.n≤maxLen) (hI:ins.n≤1000) (o:Int×Nat):∀ k,k≤ins.n→∀ hq:Sq Int,hq.n≤k→MT l p (jt ins (ins.n-k) k hq)=o→ah 23 4 (Go.V.Ends [aB l p0,aL 0 2 ins.n 3 ne fuel param,bV ins,.dead] (int (o).1) [aB l (o).2,aL 0 2 ins.n 3 ne fuel param,bV ins,.dead]) (aj 23 3) (yK l p ins ne fuel param hq k):=by
 refine bo (fun k hk ih hq hh ho=>?_) (fun hq hh ho=>?_)
 ·have q:ins.n-k=(ins.n-(k+1))+1:=by omega
  rw [q] at ho
  refine aH (X:=XN l) (stop:=rf) (LD _ _ l p ins ne fuel param hq k ?_)
  rw [cd hk (bU hI (by decide))]
  refine ay (fun h3=>?_) (fun h3=>(dec_lt h3 hk).elim)
  refine aA (au hk) (aA (aK hk) ⟨Ux _,ay (fun h4=>?_) (fun h4=>?_)⟩)
  ·have h4:oy (ins.get k).op=true:=h4
   rw [show jt ins (ins.n-(k+1)+1) k hq=jt ins (ins.n-(k+1)) (k+1) (cW hq ⟨1,fun _=>(k:Int)⟩) from by rw [show jt ins (ins.n-(k+1)+1) k hq=(bif oy (ins.get k).op then jt ins (ins.n-(k+1)) (k+1) (cW hq ⟨1,fun _=>(k:Int)⟩) else jt ins (ins.n-(k+1)) (k+1) hq) from rfl,h4]; rfl] at ho
   refine aA (ez (by omega) (by omega)) (aA (cB _) ?_)
   exact ah.rename [0,1,2,3,6] rfl (ah.le (yK l p ins ne fuel param (cW hq ⟨1,fun _=>(k:Int)⟩) (k+1)) (by repeat' (first|exact trivial|refine cR rfl ?_)) (rc (rc (rc (rc (.cons (uv hq k) .nil))))) rfl (ih _ (by show hq.n+1≤_; omega) ho))
  ·have h4:oy (ins.get k).op=false:=h4
   rw [show jt ins (ins.n-(k+1)+1) k hq=jt ins (ins.n-(k+1)) (k+1) hq from by rw [show jt ins (ins.n-(k+1)+1) k hq=(bif oy (ins.get k).op then jt ins (ins.n-(k+1)) (k+1) (cW hq ⟨1,fun _=>(k:Int)⟩) else jt ins (ins.n-(k+1)) (k+1) hq) from rfl,h4]; rfl] at ho
   exact ih hq (by omega) ho
 ·rw [Nat.sub_self] at ho
  refine aH (X:=XN l) (stop:=rf) (LD _ _ l p ins ne fuel param hq _ ?_)
  refine ay (fun h3=>cE h3) (fun h3=>?_)
  have ho:MT l p hq=o:=ho
  subst ho
  exact ah.le (DG l p ins ne fuel param hq) (by repeat' (first|exact trivial|refine cR rfl ?_)) (rc (rc (rc (rc (rc (.nil)))))) rfl (Rg l p ins ne fuel param p0 hl hq (by omega))
theorem T6 (l:Sq Int) (p:Nat) (ins:Sq af) (ne:Nat) (fuel param:Int) (hl:l.n≤maxLen) (hI:ins.n≤1000):LC 23 [.c (.rt 1 0 0)] [aB l p,aL 0 2 ins.n 3 ne fuel param,bV ins,.dead] (int (vl l p ins).1) [aB l (vl l p ins).2,aL 0 2 ins.n 3 ne fuel param,bV ins,.dead]:=by
 refine ig XK (aP (by kernel_rfl)) (fp (X:=XN l) (stop:=rf) (Yr _ _ l p ins ne fuel param ?_))
 exact ah.Fx 3 3 1 rfl (ah.le (yK l p ins ne fuel param (cx 0) 0) (by repeat' (first|exact trivial|refine cR rfl ?_)) (rc (rc (rc (rc (.cons (ra 3 1 _ _) .nil))))) rfl (Rk l p ins ne fuel param p hl hI _ 0 (bB _) (cx 0) (bB _) rfl))
theorem fy (l:Sq Int) (p:Nat) (ins:Sq af) {ne:Nat} {fuel param:Int} {m q i j:Nat} {RS:List ae} (hl:l.n≤maxLen) (hI:ins.n≤1000) (hd:gI [m,q,i,j]=true) (h0:aY RS m=some (aB l p)) (h1:aY RS q=some (aL m i ins.n j ne fuel param)) (h2:aY RS i=some (bV ins)) (h3:j<RS.length) :
  WC 23 [.c (.rt q 0 0)] RS (int (vl l p ins).1) m (aB l (vl l p ins).2):=
 uk.zp (i:=0) (rs:=[aB l p,aL 0 2 ins.n 3 ne fuel param,bV ins,.dead]) (y:=aB l (vl l p ins).2) (T6 l p ins ne fuel param hl hI) [m,q,i,j] RS hd ⟨h0,eD h0,h1,eD h1,h2,eD h2,rfl,h3,rfl⟩ rfl ⟨_,rfl,trivial⟩
open Go Go.V
def bC (s:Sq af) (x:af):Sq af:=cW s ⟨1,fun _=>x⟩
def bT (s:Sq ag) (x:ag):Sq ag:=cW s ⟨1,fun _=>x⟩
theorem eA:(∀ (s:Sq af) (x:af),(bC s x).n=s.n+1)∧(∀ (s:Sq ag) (x:ag),(bT s x).n=s.n+1):=⟨fun _ _=>rfl,fun _ _=>rfl⟩
def qU:Out:=(.t [],[],[])
def Y7 (sn:Sq af→af→Sq af) (ds:List D) (rs:List ae):Out:=match ds with
 | [.c (.rt q _ _),x]=>match aY rs q with
   | some (.box [m,a,b,.sa i n,e,fu,pa])=>match aY rs i with
     | some (.arr _ _ k get)=>(int (n:Int),[(q,.box [m,a,b,.sa rs.length (sn ⟨k,fun j=>ij (get j)⟩ (ij (gD x))).n,e,fu,pa]),(i,.dead)],[bV (sn ⟨k,fun j=>ij (get j)⟩ (ij (gD x)))])
     | _=>qU
   | _=>qU
 | _=>qU
def Y4 (l:Sq Int) (ds:List D):Rd:=match ds with
 | [.c (.rt q _ _)]=>.get q fun x=>match x with
   | .box [.rt m _ _,_,_,.sa i _,_,_,_]=>.get m fun y=>match y with
     | .box [y,.im (.v (.int .i64 p))]=>.get i fun z=>match z with
       | .arr _ _ k get=>.ret (int (vl l p.toNat ⟨k,fun j=>ij (get j)⟩).1,m,.box [y,.im (iI (vl l p.toNat ⟨k,fun j=>ij (get j)⟩).2)])
       | _=>.no
     | _=>.no
   | _=>.no
 | _=>.no
def YH:iZ:={ F:=If }
def Js (l:Sq Int):iZ:={ F:=If,W:=fun f ds=>match f with
 | 19=>WE l ds
 | _=>Y4 l ds }
theorem dP.sl {sz n:Nat} {get get':Nat→Nat→I} (h:∀ i,i<n→∀ j,j<sz→dP (get i j) (get' i j)):dP (.sl sz n get) (.sl sz n get'):=by
 rintro av w v ⟨a,cap,rfl,h1,h2,h3⟩
 refine ⟨a,cap,rfl,h1,h2,fun h0=>?_⟩
 obtain ⟨ad,q1,q2,q3,q4,q5⟩:=h3 h0
 refine ⟨ad,q1,q2,q3,q4,fun i hi j hj=>?_⟩
 obtain ⟨x,p1,p2⟩:=q5 i hi j hj
 exact ⟨x,p1,h i hi j hj av w x p2⟩
theorem yx:∀ {l:List I} {j:Nat},j<l.length→bu l j=TC l j
 | [],j,h=>absurd h (Nat.not_lt_zero _)
 | x::l,0,_=>rfl
 | x::l,j+1,h=>yx (l:=l) (j:=j) (by simpa using h)
theorem Fl {α:Type} (el sz:Nat) (s:Sq α) (x:α) (e:α→Nat→I) (is:List I) (h:∀ j,j<sz→dP (bu is j) (e x j)):cw (.arr el sz (s.n+1) (j0 s.n (fun i=>e (s.get i)) (flat sz is))) (.arr el sz (cW s ⟨1,fun _=>x⟩).n fun i=>e ((cW s ⟨1,fun _=>x⟩).get i)):=by
 rw [← Fj s ⟨1,fun _=>x⟩ e]
 refine cw.arr fun i hi j hj=>?_
 show dP (Bool.rec (flat sz is (i-s.n) j) (e (s.get i) j) (Nat.blt i s.n):I) (Bool.rec (e x j) (e (s.get i) j) (Nat.blt i s.n):I)
 cases hb:Nat.blt i s.n with
 | true=>exact dP.refl _
 | false=>
   have:i-s.n=0:=by
    have:¬ i<s.n:=fun q=>by rw [aK q] at hb; cases hb
    omega
   rw [this]
   show dP (bu is (0*sz+j)) (e x j)
   rw [Nat.zero_mul,Nat.zero_add]
   exact h j hj
theorem Tj (s:Sq af) (x:af):cw (.arr 40 14 (s.n+1) (j0 s.n (fun i=>bn (s.get i)) (flat 14 (aT x)))) (bV (bC s x)):=
 Fl 40 14 s x bn (aT x) fun j hj=>by rw [yx (l:=aT x) hj]; exact dP.refl _
theorem RA (s:Sq ag) (x:ag):cw (.arr 73 3 (s.n+1) (j0 s.n (fun i=>bq (s.get i)) (flat 3 (ba x)))) (j8 (bT s x)):=
 Fl 73 3 s x bq (ba x) fun j hj=>by rw [yx (l:=ba x) hj]; exact dP.refl _
theorem xq {n:Nat} (h:n≤1000):IntKind.i64.wrap (((n+1:Nat):Int)-1)=(n:Int):=by
 rw [show ((n+1:Nat):Int)-1=(n:Int) by omega,kR (by omega)]
def Ih (l:Sq Int) (ins:Sq af):Nat→Nat→Sq Int→Sq Int×Nat
 | 0,p,h=>(h,p)
 | m+1,p,h=>Ih l ins m (vl l p ins).2 (cW h ⟨1,fun _=>(vl l p ins).1⟩)
def TE (v:Int):dD:=⟨1,2,⟨2,fun i=>bif Nat.beq i 0 then -1 else v⟩⟩
def zV:iY:=⟨0,0,cx ⟨⟨[]⟩⟩,cx 0⟩
def MN (l:Sq Int) (ins:Sq af) (fr:dD) (back:Int) (p:Nat):ag×Nat:=
 bif (nx l p 5).1==0 then (⟨cW ⟨1,fun _=>fr⟩ ⟨1,fun _=>TE (vl l (nx l p 5).2 ins).1⟩,cx zV,back⟩,(vl l (nx l p 5).2 ins).2) else (⟨⟨1,fun _=>fr⟩,cx zV,back⟩,(nx l p 5).2)
def QO (l:Sq Int) (ins:Sq af) (fuel:Int) (v:Sq Int×Nat):ag×Nat:=MN l ins ⟨0,0,v.1⟩ (nx l v.2 (fuel+1)).1 (nx l v.2 (fuel+1)).2
def lv (l:Sq Int) (p:Nat) (ins:Sq af) (fuel:Int) (param:Nat):ag×Nat:=QO l ins fuel (Ih l ins param p (cx 0))
def UU:Nat→Bool:=cM
theorem Xi:Fn 20:=⟨by kernel_rfl,by kernel_rfl⟩
theorem WQ (L:LP) (QE:D→List ae→Prop) (ins:Sq af) (ne:Nat) (fuel param:Int) (x:af) (h:nd (dX (ins.1+1) 152) (nd (ins.1.beq ins.1) (nd (dX (ins.1+1) 152) (nd (ins.1.beq ins.1) (QE (int (IntKind.i64.wrap ((↑(ins.1+1):Int)-1))) [.dead,(aL 0 6 (.succ ins.1) 3 ne fuel param),.dead,.dead,(.box (lift (aT (x)))),(.row 40 14 1 (lift (aT (x)))),(.arr 40 14 (ins.1+1) (j0 ins.1 (fun i=>bn (ins.2 i)) (1,flat 14 [iI x.1,iI x.2,iI x.3,iI x.4,iI x.5,j7 1 cg x.6,iI x.7.1,iI x.7.2,iS x.7.3,j7 1 ff x.8,iI x.9.1,iI x.9.2,iI x.10,iB x.11]).snd))]))))):gL YH 20 UU L QE [.c (.rt 1 0 0),j3 x] [.dead,aL 0 2 ins.n 3 ne fuel param,bV ins,.dead]:=Eq.mp (by kernel_rfl) h
theorem TR (ins:Sq af) (ne:Nat) (fuel param:Int) (x:af) (hI:ins.n≤1000):LC 20 [.c (.rt 1 0 0),j3 x] [.dead,aL 0 2 ins.n 3 ne fuel param,bV ins,.dead] (int ins.n) [.dead,aL 0 4 (bC ins x).n 3 ne fuel param,.dead,.dead,bV (bC ins x)]:=by
 refine jC Xi (aP (by kernel_rfl)) (fp (X:=YH) (stop:=UU) (WQ _ _ ins ne fuel param x ?_))
 refine aA (ez (by omega) (by omega)) (aA (cB _) (aA (ez (by omega) (by omega)) (aA (cB _) ?_)))
 rw [xq hI]
 exact ⟨[0,1,2,3,6],int ins.n,_,_,rfl,(rc (rc (rc (rc (.cons (Tj ins x) .nil))))),⟨5,aP rfl,aP rfl,rfl,rfl,bp.refl _,⟨.inl (.inl rfl),⟨.inr rfl,⟨.inr rfl,⟨.inl (.inl rfl),⟨rfl,trivial⟩⟩⟩⟩⟩⟩⟩
theorem eM (ins:Sq af) (x:af) {xd:D} {ne:Nat} {fuel param:Int} {m q i j:Nat} {RS:List ae} (hI:ins.n≤1000) (hx:bp xd (j3 x)) (hd:gI [m,q,i,j]=true) (h0:m<RS.length) (h1:aY RS q=some (aL m i ins.n j ne fuel param)) (h2:aY RS i=some (bV ins)) (h3:j<RS.length) :
  LC 20 [.c (.rt q 0 0),xd] RS (int ins.n) (setAt (setAt RS q (aL m RS.length (bC ins x).n j ne fuel param)) i .dead++[bV (bC ins x)]):=
 cl.pre (cl.zp (TR ins ne fuel param x hI) [m,q,i,j] RS hd ⟨rfl,h0,h1,eD h1,h2,eD h2,rfl,h3,rfl⟩) (.cons (bp.refl _) (.cons hx .nil))
def tH:Nat→Bool:=fun i=>Nat.beq i 3||Nat.beq i 6||Nat.beq i 7||Nat.beq i 9
theorem WM:Fn 21:=⟨by kernel_rfl,by kernel_rfl⟩
abbrev tB:jr:=(3,((.c (.rt 4 0 0)),[]))
abbrev dY (ax:Sq af) (aX:Sq ag) (aN:Int) (cq:Nat):ae:=aL 0 2 ax.1 3 aX.1 aN (↑cq:Int)
abbrev bE (ax:Sq ag):ae:=.arr 73 3 ax.1 (fun i=>bq (ax.2 i))
theorem Xd (L:LP) (QE:D→List ae→Prop) (l:Sq Int) (p:Nat) (ins:Sq af) (aa:Sq ag) (fuel:Int) (param:Nat) (h:L (aj 21 3) ⟨[dG,tB,(4,((int 0),[]))],[(aB l p),(dY ins aa fuel param),(bl ins),(bE aa),(.box [(ci 0),(ci 0),dS])],[]⟩):gL (Js l) 21 tH L QE [.c (.rt 1 0 0)] [aB l p,aL 0 2 ins.n 3 aa.n fuel param,bV ins,j8 aa]:=Eq.mp (by kernel_rfl) h
def Ai (l:Sq Int) (p:Nat) (ins:Sq af) (aa:Sq ag) (fuel:Int) (param:Nat) (hq:Sq Int) (k:Nat):VS:=⟨[pD,(3,(.c (.rt 4 0 0)),[]),(4,int k,[])],[(aB l p),(dY ins aa fuel param),(bl ins),(bE aa),.box [.im (iI 0),.im (iI 0),.sa 5 hq.n],.arr 3 1 hq.n (fun i=>cg (hq.get i))],[]⟩
abbrev dc:List D:=[(.c (.rt 1 0 0))]
theorem LW (L:LP) (QE:D→List ae→Prop) (l:Sq Int) (p:Nat) (ins:Sq af) (aa:Sq ag) (fuel:Int) (param:Nat) (hq:Sq Int) (k:Nat) (h:br (decide ((↑k:Int)<(↑param:Int))) ((WC 23 dc [(aB l p),(dY ins aa fuel param),(bl ins),(bE aa),(.box [(ci 0),(ci 0),(.sa 5 hq.1)]),(k8 hq),.dead,.dead,.dead] (int ((vl l p ins).1)) 0 (aB l ((vl l p ins).2))∧nd (dX (hq.1+1) 8) (nd (hq.1.beq hq.1) ((WC 23 dc [(aB l p),(dY ins aa fuel param),(bl ins),(bE aa),(.box [(ci 0),(ci 0),(.sa 5 hq.1)]),(k8 hq),.dead,.dead,.dead] (int ((vl l p ins).1)) 0 (aB l ((vl l p ins).2))∧nd (dX (hq.1+1) 8) (nd (hq.1.beq hq.1) (L (aj 21 3) ⟨[dG,tB,(4,((int (IntKind.i64.wrap ((↑k:Int)+1))),[]))],[(aB l ((vl l p ins).2)),(dY ins aa fuel param),(bl ins),(bE aa),(.box [(ci 0),(ci 0),(.sa 8 (.succ hq.1))]),.dead,.dead,(.row 3 1 1 [(ci ((vl l p ins).1))]),(.arr 3 1 (hq.1+1) (j0 hq.1 (fun i=>cg (hq.2 i)) (1,flat 1 [I.v (Value.int IntKind.i64 (vl l p ins).1)]).snd))],[]⟩))))))) (L (aj 21 6) ⟨[dG,tB,(4,((int (↑k:Int)),[])),(12,((bool false),[]))],[(aB l p),(dY ins aa fuel param),(bl ins),(bE aa),(.box [(ci 0),(ci 0),(.sa 5 hq.1)]),(k8 hq)],[]⟩)):dh (Js l) 21 tH L QE 3 (Ai l p ins aa fuel param hq k):=Eq.mp (by kernel_rfl) h
def DO (l:Sq Int) (p:Nat) (ins:Sq af) (aa:Sq ag) (fuel:Int) (param:Nat) (hq:Sq Int):VS:=⟨[pD,(3,(.c (.rt 4 0 0)),[])],[(aB l p),(dY ins aa fuel param),(bl ins),(bE aa),.box (lift (jb ⟨0,0,hq⟩))],[]⟩
abbrev CC (ax:Sq Int):List C:=lift (jb ({ fn:=Int.ofNat 0,line:=Int.ofNat 0,vars:=ax }))
theorem SM (L:LP) (QE:D→List ae→Prop) (l:Sq Int) (p:Nat) (ins:Sq af) (aa:Sq ag) (fuel:Int) (param:Nat) (hq:Sq Int) (h:(WC 19 [(.c (.rt 0 0 0)),(int (IntKind.i64.wrap (fuel+1)))] [(aB l p),(dY ins aa fuel param),(bl ins),(bE aa),(.box (CC hq)),(.row 75 3 1 (CC hq)),.dead,.dead] (int ((nx l p (IntKind.i64.wrap (fuel+1))).1)) 0 (aB l ((nx l p (IntKind.i64.wrap (fuel+1))).2))∧(WC 19 [(.c (.rt 0 0 0)),(int (IntKind.i64.wrap (fuel+1)))] [(aB l p),(dY ins aa fuel param),(bl ins),(bE aa),(.box (CC hq)),.dead,.dead,.dead] (int ((nx l p (IntKind.i64.wrap (fuel+1))).1)) 0 (aB l ((nx l p (IntKind.i64.wrap (fuel+1))).2))∧L (aj 21 7) ⟨[dG,(5,((.c (.rt 7 0 0)),[]))],[(aB l ((nx l p (IntKind.i64.wrap (fuel+1))).2)),(dY ins aa fuel param),(bl ins),(bE aa),(.box (CC hq)),(.row 75 3 1 (CC hq)),.dead,(.box [(.sa 5 1),dS,(ci ((nx l p (IntKind.i64.wrap (fuel+1))).1))])],[]⟩))):dh (Js l) 21 tH L QE 6 (DO l p ins aa fuel param hq):=Eq.mp (by kernel_rfl) h
def Dr (l:Sq Int) (p:Nat) (ins:Sq af) (aa:Sq ag) (fuel:Int) (param:Nat) (fr:dD) (back:Int):VS:=⟨[pD,(5,.c (.rt 4 0 0),[])],[aB l p,(dY ins aa fuel param),(bl ins),(bE aa),.box [.sa 5 1,.im (.v (.slice .none 0 0)),.im (iI back)],.arr 75 3 1 (fun _=>cK fr)],[]⟩
abbrev yG (ax:Int):ae:=.box [(.sa 5 1),dS,(ci ax)]
abbrev xK (ax:dD):ae:=.arr 75 3 1 (fun x=>cK ax)
theorem RC (L:LP) (QE:D→List ae→Prop) (l:Sq Int) (p:Nat) (ins:Sq af) (aa:Sq ag) (fuel:Int) (param:Nat) (fr:dD) (back:Int) (h:(WC 19 [(.c (.rt 0 0 0)),(int 5)] [(aB l p),(dY ins aa fuel param),(bl ins),(bE aa),(yG back),(xK fr)] (int ((nx l p 5).1)) 0 (aB l ((nx l p 5).2))∧br ((nx l p 5).1==0) ((WC 23 dc [(aB l ((nx l p 5).2)),(dY ins aa fuel param),(bl ins),(bE aa),(yG back),(xK fr),.dead,.dead,.dead,.dead] (int ((vl l (nx l p 5).2 ins).1)) 0 (aB l ((vl l (nx l p 5).2 ins).2))∧(WC 23 dc [(aB l ((nx l p 5).2)),(dY ins aa fuel param),(bl ins),(bE aa),(yG back),(xK fr),.dead,.dead,.dead,.dead] (int ((vl l (nx l p 5).2 ins).1)) 0 (aB l ((vl l (nx l p 5).2 ins).2))∧L (aj 21 9) ⟨[dG,(5,((.c (.rt 4 0 0)),[]))],[(aB l ((vl l (nx l p 5).2 ins).2)),(dY ins aa fuel param),(bl ins),(bE aa),(.box [(.sa 9 2),dS,(ci back)]),.dead,.dead,.dead,(.row 75 3 1 [(ci 1),(ci 2),(.im (.sl 1 2 (flat 1 [I.v (Value.int IntKind.i64 (-1)),I.v (Value.int IntKind.i64 (vl l (nx l p 5).2 ins).1)])))]),(.arr 75 3 2 (j0 1 (fun x=>cK fr) (1,flat 3 [I.v (Value.int IntKind.i64 1),I.v (Value.int IntKind.i64 2),I.sl 1 2 (flat 1 [I.v (Value.int IntKind.i64 (-1)),I.v (Value.int IntKind.i64 (vl l (nx l p 5).2 ins).1)])]).snd))],[]⟩))) (L (aj 21 9) ⟨[dG,(5,((.c (.rt 4 0 0)),[])),(40,((bool false),[]))],[(aB l ((nx l p 5).2)),(dY ins aa fuel param),(bl ins),(bE aa),(yG back),(xK fr)],[]⟩))):dh (Js l) 21 tH L QE 7 (Dr l p ins aa fuel param fr back):=Eq.mp (by kernel_rfl) h
def yD (l:Sq Int) (p:Nat) (ins:Sq af) (aa:Sq ag) (fuel:Int) (param:Nat) (ex:ag):VS:=⟨[pD,(5,.c (.rt 4 0 0),[])],[aB l p,(dY ins aa fuel param),(bl ins),(bE aa),.box (lift (ba ex))],[]⟩
theorem SA (L:LP) (QE:D→List ae→Prop) (l:Sq Int) (p:Nat) (ins:Sq af) (aa:Sq ag) (fuel:Int) (param:Nat) (ex:ag) (h:nd (dX (aa.1+1) 56) (nd (aa.1.beq aa.1) (nd (dX (aa.1+1) 56) (nd (aa.1.beq aa.1) (QE (int (IntKind.i64.wrap ((↑(aa.1+1):Int)-1))) [(aB l p),(aL 0 2 ins.1 6 (.succ aa.1) fuel (↑param:Int)),(.arr 40 14 ins.1 (fun i=>bn (ins.2 i))),.dead,(.box (lift (ba (ex)))),(.row 73 3 1 (lift (ba (ex)))),(.arr 73 3 (aa.1+1) (j0 aa.1 (fun i=>bq (aa.2 i)) (1,flat 3 [j7 3 cK ex.1,j7 4 e5 ex.2,iI ex.3]).snd))]))))):dh (Js l) 21 tH L QE 9 (yD l p ins aa fuel param ex):=Eq.mp (by kernel_rfl) h
theorem K1 (l:Sq Int) (p:Nat) (ins:Sq af) (aa:Sq ag) (fuel:Int) (param:Nat) (p0:Nat) (hl:l.n≤maxLen) (hI:ins.n≤1000) (hE:aa.n≤1000) (hF:0≤fuel∧fuel≤1000) (ex:ag):ah 21 4 (gg [aB l p0,aL 0 2 ins.n 3 aa.n fuel param,bV ins,j8 aa] (int aa.n) [aB l ((ex,p)).2,aL 0 2 ins.n 4 (bT aa ((ex,p)).1).n fuel param,bV ins,.dead,j8 (bT aa ((ex,p)).1)]) (aj 21 9) (yD l p ins aa fuel param ex):=by
 refine aH (X:=Js l) (stop:=tH) (SA _ _ l p ins aa fuel param ex ?_)
 refine aA (ez (by omega) (by omega)) (aA (cB _) (aA (ez (by omega) (by omega)) (aA (cB _) ?_)))
 rw [xq hE]
 exact ⟨[0,1,2,3,6],int aa.n,_,_,rfl,(rc (rc (rc (rc (.cons (RA aa ex) .nil))))),⟨5,aP rfl,aP rfl,rfl,rfl,bp.refl _,⟨.inr rfl,⟨.inr rfl,⟨.inl (.inl rfl),⟨.inr rfl,⟨rfl,trivial⟩⟩⟩⟩⟩⟩⟩
theorem Rf (v:Int):∀ i,i<1→∀ j,j<3→dP (flat 3 [I.v (Value.int IntKind.i64 1),I.v (Value.int IntKind.i64 2),I.sl 1 2 (flat 1 [I.v (Value.int IntKind.i64 (-1)),I.v (Value.int IntKind.i64 v)])] i j) (cK (TE v) j):=by
 intro i hi j hj
 have hi:i=0:=by omega
 subst hi
 match j,hj with
 | 0,_=>exact dP.refl _
 | 1,_=>exact dP.refl _
 | 2,_=>
   refine dP.sl fun a ha b hb=>?_
   have hb:b=0:=by omega
   subst hb
   match a,ha with
   | 0,_=>exact dP.refl _
   | 1,_=>exact dP.refl _
theorem Sd (l:Sq Int) (p:Nat) (ins:Sq af) (aa:Sq ag) (fuel:Int) (param:Nat) (p0:Nat) (hl:l.n≤maxLen) (hI:ins.n≤1000) (hE:aa.n≤1000) (hF:0≤fuel∧fuel≤1000) (fr:dD) (back:Int):ah 21 4 (gg [aB l p0,aL 0 2 ins.n 3 aa.n fuel param,bV ins,j8 aa] (int aa.n) [aB l (MN l ins fr back p).2,aL 0 2 ins.n 4 (bT aa (MN l ins fr back p).1).n fuel param,bV ins,.dead,j8 (bT aa (MN l ins fr back p).1)]) (aj 21 7) (Dr l p ins aa fuel param fr back):=by
 refine aH (X:=Js l) (stop:=tH) (RC _ _ l p ins aa fuel param fr back ⟨ej l _ _ hl rfl,?_⟩)
 refine ay (fun h=>?_) (fun h=>?_)
 ·refine ⟨fy l _ ins hl hI rfl rfl rfl rfl (aP rfl),fy l _ ins hl hI rfl rfl rfl rfl (aP rfl),?_⟩
  rw [show MN l ins fr back p=(⟨cW ⟨1,fun _=>fr⟩ ⟨1,fun _=>TE (vl l (nx l p 5).2 ins).1⟩,cx zV,back⟩,(vl l (nx l p 5).2 ins).2) from by unfold MN; rw [show ((nx l p 5).1==0)=true from h]; rfl]
  refine ah.freeze 9 rfl (ah.rename [0,1,2,3,4] rfl (ah.le (yD l (vl l (nx l p 5).2 ins).2 ins aa fuel param ⟨cW ⟨1,fun _=>fr⟩ ⟨1,fun _=>TE (vl l (nx l p 5).2 ins).1⟩,cx zV,back⟩) (by repeat' (first|exact trivial|refine cR rfl ?_)) (rc (rc (rc (rc (.cons (cw.box (.cons (eN.im (dP.sl fun i hi j hj=>?_)) (.cons (eN.nil _ _) (.cons (eN.refl _) .nil)))) .nil))))) rfl (K1 l (vl l (nx l p 5).2 ins).2 ins aa fuel param p0 hl hI hE hF _)))
  show dP (Bool.rec (flat 3 [I.v (Value.int IntKind.i64 1),I.v (Value.int IntKind.i64 2),I.sl 1 2 (flat 1 [I.v (Value.int IntKind.i64 (-1)),I.v (Value.int IntKind.i64 (vl l (nx l p 5).2 ins).1)])] (i-1) j) (cK fr j) (Nat.blt i 1):I) (cK (Bool.rec (TE (vl l (nx l p 5).2 ins).1) fr (Nat.blt i 1)) j)
  cases Nat.blt i 1 with
  | true=>exact dP.refl _
  | false=>exact Rf _ _ (by omega) j hj
 ·rw [show MN l ins fr back p=(⟨⟨1,fun _=>fr⟩,cx zV,back⟩,(nx l p 5).2) from by unfold MN; rw [show ((nx l p 5).1==0)=false from h]; rfl]
  exact ah.freeze 5 rfl (ah.rename [0,1,2,3,4] rfl (ah.le (yD l (nx l p 5).2 ins aa fuel param ⟨⟨1,fun _=>fr⟩,cx zV,back⟩) (by repeat' (first|exact trivial|refine cR rfl ?_)) (rc (rc (rc (rc (.cons (cw.box (.cons (eN.refl _) (.cons (eN.nil _ _) (.cons (eN.refl _) .nil)))) .nil))))) rfl (K1 l (nx l p 5).2 ins aa fuel param p0 hl hI hE hF _)))
theorem NW (x:dD):∀ i,i<1→∀ j,j<3→(lift (jb x))[i*3+j]?=some (.im (cK x j)):=by
 intro i hi j hj
 have hi:i=0:=by omega
 subst hi
 match j,hj with
 | 0,_=>rfl
 | 1,_=>rfl
 | 2,_=>rfl
theorem Sh (l:Sq Int) (p:Nat) (ins:Sq af) (aa:Sq ag) (fuel:Int) (param:Nat) (p0:Nat) (hl:l.n≤maxLen) (hI:ins.n≤1000) (hE:aa.n≤1000) (hF:0≤fuel∧fuel≤1000) (hq:Sq Int):ah 21 4 (gg [aB l p0,aL 0 2 ins.n 3 aa.n fuel param,bV ins,j8 aa] (int aa.n) [aB l (QO l ins fuel (hq,p)).2,aL 0 2 ins.n 4 (bT aa (QO l ins fuel (hq,p)).1).n fuel param,bV ins,.dead,j8 (bT aa (QO l ins fuel (hq,p)).1)]) (aj 21 6) (DO l p ins aa fuel param hq):=by
 refine aH (X:=Js l) (stop:=tH) (SM _ _ l p ins aa fuel param hq ?_)
 rw [fR (k:=fuel+1) (by omega) (by omega)]
 refine ⟨ej l _ _ hl rfl,ej l _ _ hl rfl,?_⟩
 exact ah.rename [0,1,2,3,7,5] rfl (ah.le (Dr l (nx l p (fuel+1)).2 ins aa fuel param ⟨0,0,hq⟩ (nx l p (fuel+1)).1) (by repeat' (first|exact trivial|refine cR rfl ?_)) (rc (rc (rc (rc (rc (.cons (cw.row (NW ⟨0,0,hq⟩)) .nil)))))) rfl (Sd l (nx l p (fuel+1)).2 ins aa fuel param p0 hl hI hE hF ⟨0,0,hq⟩ (nx l p (fuel+1)).1))
theorem Rn (l:Sq Int) (ins:Sq af) (aa:Sq ag) (fuel:Int) (param:Nat) (p0:Nat) (hl:l.n≤maxLen) (hI:ins.n≤1000) (hE:aa.n≤1000) (hF:0≤fuel∧fuel≤1000) (hP:param≤1000) (o:ag×Nat):∀ k,k≤param→∀ (p:Nat) (hq:Sq Int),hq.n≤k→QO l ins fuel (Ih l ins (param-k) p hq)=o→ah 21 4 (gg [aB l p0,aL 0 2 ins.n 3 aa.n fuel param,bV ins,j8 aa] (int aa.n) [aB l (o).2,aL 0 2 ins.n 4 (bT aa (o).1).n fuel param,bV ins,.dead,j8 (bT aa (o).1)]) (aj 21 3) (Ai l p ins aa fuel param hq k):=by
 refine bo (fun k hk ih p hq hh ho=>?_) (fun p hq hh ho=>?_)
 ·have q:param-k=(param-(k+1))+1:=by omega
  rw [q] at ho
  refine aH (X:=Js l) (stop:=tH) (LW _ _ l p ins aa fuel param hq k ?_)
  rw [cd hk (bU hP (by decide))]
  refine ay (fun h3=>?_) (fun h3=>(dec_lt h3 hk).elim)
  refine ⟨fy l _ ins hl hI rfl rfl rfl rfl (aP rfl),aA (ez (by omega) (by omega)) (aA (cB _) ⟨fy l _ ins hl hI rfl rfl rfl rfl (aP rfl),aA (ez (by omega) (by omega)) (aA (cB _) ?_)⟩)⟩
  exact ah.rename [0,1,2,3,4,8] rfl (ah.le (Ai l (vl l p ins).2 ins aa fuel param (cW hq ⟨1,fun _=>(vl l p ins).1⟩) (k+1)) (by repeat' (first|exact trivial|refine cR rfl ?_)) (rc (rc (rc (rc (rc (.cons (uv hq _) .nil)))))) rfl (ih _ _ (by show hq.n+1≤_; omega) ho))
 ·rw [Nat.sub_self] at ho
  refine aH (X:=Js l) (stop:=tH) (LW _ _ l p ins aa fuel param hq _ ?_)
  refine ay (fun h3=>cE h3) (fun h3=>?_)
  have ho:QO l ins fuel (hq,p)=o:=ho
  subst ho
  exact ah.freeze 5 rfl (ah.rename [0,1,2,3,4] rfl (ah.le (DO l p ins aa fuel param hq) (by repeat' (first|exact trivial|refine cR rfl ?_)) (rc (rc (rc (rc (rc .nil))))) rfl (Sh l p ins aa fuel param p0 hl hI hE hF hq)))
theorem Ug (l:Sq Int) (p:Nat) (ins:Sq af) (aa:Sq ag) (fuel:Int) (param:Nat) (hl:l.n≤maxLen) (hI:ins.n≤1000) (hE:aa.n≤1000) (hF:0≤fuel∧fuel≤1000) (hP:param≤1000):LC 21 [.c (.rt 1 0 0)] [aB l p,aL 0 2 ins.n 3 aa.n fuel param,bV ins,j8 aa] (int aa.n) [aB l (lv l p ins fuel param).2,aL 0 2 ins.n 4 (bT aa (lv l p ins fuel param).1).n fuel param,bV ins,.dead,j8 (bT aa (lv l p ins fuel param).1)]:=by
 refine jC WM (aP (by kernel_rfl)) (fp (X:=Js l) (stop:=tH) (Xd _ _ l p ins aa fuel param ?_))
 exact ah.lj 4 2 3 1 _ rfl rfl (ah.le (Ai l p ins aa fuel param (cx 0) 0) (by repeat' (first|exact trivial|refine cR rfl ?_)) (rc (rc (rc (rc (rc (.cons (ra 3 1 _ _) .nil)))))) rfl (Rn l ins aa fuel param p hl hI hE hF hP _ 0 (bB _) p (cx 0) (bB _) rfl))
theorem lY (l:Sq Int) (p:Nat) (ins:Sq af) (aa:Sq ag) {fuel:Int} {param:Nat} {m q i j:Nat} {RS:List ae} (hl:l.n≤maxLen) (hI:ins.n≤1000) (hE:aa.n≤1000) (hF:0≤fuel∧fuel≤1000) (hP:param≤1000) (hd:gI [m,q,i,j]=true) (h0:aY RS m=some (aB l p)) (h1:aY RS q=some (aL m i ins.n j aa.n fuel param)) (h2:aY RS i=some (bV ins)) (h3:aY RS j=some (j8 aa)) :
  LC 21 [.c (.rt q 0 0)] RS (int aa.n) (setAt (setAt (setAt (setAt RS m (aB l (lv l p ins fuel param).2)) q (aL m i ins.n RS.length (bT aa (lv l p ins fuel param).1).n fuel param)) i (bV ins)) j .dead++[j8 (bT aa (lv l p ins fuel param).1)]):=
 cl.zp (Ug l p ins aa fuel param hl hI hE hF hP) [m,q,i,j] RS hd ⟨h0,eD h0,h1,eD h1,h2,eD h2,h3,eD h3,rfl⟩
open Go Go.V
def ZA (l:Sq Int) (sx:Sq ag→ag→Sq ag) (ds:List D) (rs:List ae):Out:=match ds with
 | [.c (.rt q _ _)]=>match aY rs q with
   | some (.box [.rt m a b,c,d,.sa i n,.sa j ne,.im (.v (.int .i64 fu)),.im (.v (.int .i64 pa))])=>match aY rs m,aY rs i,aY rs j with
     | some (.box [y,.im (.v (.int .i64 p))]),some (.arr _ _ k get),some (.arr _ _ ke ge)=>
       (int (ne:Int),[(m,.box [y,.im (iI (lv l p.toNat ⟨k,fun t=>ij (get t)⟩ fu pa.toNat).2)]),(q,.box [.rt m a b,c,d,.sa i n,.sa rs.length (sx ⟨ke,fun t=>nq (ge t)⟩ (lv l p.toNat ⟨k,fun t=>ij (get t)⟩ fu pa.toNat).1).n,.im (iI fu),.im (iI pa)]),(j,.dead)],
        [j8 (sx ⟨ke,fun t=>nq (ge t)⟩ (lv l p.toNat ⟨k,fun t=>ij (get t)⟩ fu pa.toNat).1)])
     | _,_,_=>qU
   | _=>qU
 | _=>qU
def Ig:Sq ByteArray:=⟨2,fun i=>bif Nat.beq i 0 then ⟨⟨[120]⟩⟩ else ⟨⟨[121]⟩⟩⟩
def Lm:List Nat:=[0,1,2,3,4,5,6,7,8,9,10,11,12,13,14,15,16,17,18,19,20,21,22,23,24,25,26,27,28,29,30]
def YV:iZ:={ F:=If }
def Xj (l:Sq Int) (f:FuncId) (ds:List D):Rd:=match f with
 | 19=>WE l ds
 | _=>Y4 l ds
def Ya (l:Sq Int) (sn:Sq af→af→Sq af) (sx:Sq ag→ag→Sq ag) (f:FuncId) (ds:List D) (rs:List ae):Out:=match f with
 | 20=>Y7 sn ds rs
 | 21=>ZA l sx ds rs
 | 26=>(eR 1 ff Ig,[],[])
 | f=>If f ds rs
def Wv (l:Sq Int) (sn:Sq af→af→Sq af) (sx:Sq ag→ag→Sq ag):iZ:={ F:=Ya l sn sx,W:=Xj l,S:=Lm }
def zI:af:=⟨0,0,0,0,0,cx 0,⟨0,0,⟨⟨[]⟩⟩⟩,cx ⟨⟨[]⟩⟩,⟨0,0⟩,0,false⟩
def gf (l:Sq Int) (p:Nat) (ins:Sq af) (param:Nat):Int×Nat:=bif (nx l (vl l p ins).2 2).1==0 then nx l (nx l (vl l p ins).2 2).2 (param:Int) else ((vl l p ins).1,(nx l (vl l p ins).2 2).2)
def rP (A e:Int):af:={ zI with op:=7,a:=A,names:=Ig,exit:=e }
def eW (l:Sq Int) (p:Nat) (ins:Sq af) (fuel:Int) (param:Nat):ag×Nat:=lv l (gf l p ins param).2 ins fuel param
def ia (l:Sq Int) (p:Nat) (ins:Sq af) (param:Nat) (ne:Nat):af:=rP (gf l p ins param).1 (ne:Int)
theorem iJ {l l':List C} (h:az eN l l'):bp (.a l) (.a l'):=by
 rintro E av w v ⟨cs,rfl,hv⟩
 exact ⟨cs,rfl,az.XL h hv⟩
def V7:Nat→Bool:=cM
theorem Yb:Fn 26:=⟨by kernel_rfl,by kernel_rfl⟩
theorem Xm (L:LP) (QD:D→Prop)  (h:QD (.c (.im (.sl 1 2 (flat 1 [I.v (Value.string { data := #[120] }),I.v (Value.string { data := #[121] })]))))):gL YV 26 V7 L (bF QD) [] []:=Eq.mp (by kernel_rfl) h
theorem PY:LC 26 [] [] (eR 1 ff Ig) []:=by
 refine bw (X:=YV) (stop:=V7) Yb (aP (by kernel_rfl)) (Xm _ _ ?_)
 exact fun E av w v h=>dP.sl (fun i hi j hj=>by
  have hj:j=0:=by omega
  subst hj
  match i,hi with
  | 0,_=>exact dP.refl _
  | 1,_=>exact dP.refl _) av w v h
def Nu:Nat→Bool:=fun i=>Nat.beq i 4
theorem Xc:Fn 34:=⟨by kernel_rfl,by kernel_rfl⟩
abbrev qK (ax:Sq Int) (aX:Nat) (aN:Sq af) (cq:Sq ag) (ct:Int) (dJ:Nat):List ae:=[(aB ax aX),(dY aN cq ct dJ),(bl aN),(bE cq)]
abbrev vo:C:=.im (.sl 1 2 (fun i=>ff (Ig.get i)))
abbrev da:C:=.im (.v (.string ⟨⟨[]⟩⟩))
abbrev EX (ax:Sq Int) (aX:Nat) (aN:Sq af):ae:=.box [(ci 7),(ci ((vl ax aX aN).1)),(ci 0),(ci 0),(ci 0),dS,(ci 0),(ci 0),da,vo,(ci 0),(ci 0),(ci 0),eV]
abbrev tp (ax:Sq Int) (aX:Nat) (aN:Sq af):ae:=aB ax ((nx ax (vl ax aX aN).2 2).2)
theorem XF (L:LP) (QE:D→List ae→Prop) (sn:Sq af→af→Sq af) (sx:Sq ag→ag→Sq ag) (l:Sq Int) (p:Nat) (ins:Sq af) (aa:Sq ag) (fuel:Int) (param:Nat) (h:(WC 23 dc (qK l p ins aa fuel param) (int ((vl l p ins).1)) 0 (aB l ((vl l p ins).2))∧(LC 26 [] [] (.c vo) []∧(WC 19 l4 [(aB l ((vl l p ins).2)),(dY ins aa fuel param),(bl ins),(bE aa),(EX l p ins)] (int ((nx l (vl l p ins).2 2).1)) 0 (aB l ((nx l (vl l p ins).2 2).2))∧br ((nx l (vl l p ins).2 2).1==0) ((WC 19 [(.c (.rt 0 0 0)),(mS param)] [(tp l p ins),(dY ins aa fuel param),(bl ins),(bE aa),(EX l p ins),.dead] (int ((nx l (nx l (vl l p ins).2 2).2 (↑param:Int)).1)) 0 (aB l ((nx l (nx l (vl l p ins).2 2).2 (↑param:Int)).2))∧(WC 19 [(.c (.rt 0 0 0)),(mS param)] [(tp l p ins),(dY ins aa fuel param),(bl ins),(bE aa),(EX l p ins),.dead] (int ((nx l (nx l (vl l p ins).2 2).2 (↑param:Int)).1)) 0 (aB l ((nx l (nx l (vl l p ins).2 2).2 (↑param:Int)).2))∧L (aj 34 4) ⟨[dG,tB],[(aB l ((nx l (nx l (vl l p ins).2 2).2 (↑param:Int)).2)),(dY ins aa fuel param),(bl ins),(bE aa),(.box [(ci 7),(ci ((nx l (nx l (vl l p ins).2 2).2 (↑param:Int)).1)),(ci 0),(ci 0),(ci 0),dS,(ci 0),(ci 0),da,vo,(ci 0),(ci 0),(ci 0),eV]),.dead],[]⟩))) (L (aj 34 4) ⟨[dG,tB,(13,((bool false),[]))],[(tp l p ins),(dY ins aa fuel param),(bl ins),(bE aa),(EX l p ins)],[]⟩))))):gL (Wv l sn sx) 34 Nu L QE [.c (.rt 1 0 0)] [aB l p,aL 0 2 ins.n 3 aa.n fuel param,bV ins,j8 aa]:=Eq.mp (by kernel_rfl) h
def zl (sn:Sq af→af→Sq af) (sx:Sq ag→ag→Sq ag) (l:Sq Int) (p:Nat) (ins:Sq af) (aa:Sq ag) (fuel:Int) (param:Nat) (x:af):VS:=⟨[pD,(3,.c (.rt 4 0 0),[])],[aB l p,(dY ins aa fuel param),(bl ins),(bE aa),.box (lift (aT x))],[]⟩
abbrev ic (ax:Sq ag):D:=int (↑ax.1:Int)
abbrev wO (ax:Sq ag→ag→Sq ag) (aX:Sq ag) (aN:Sq Int) (cq:Nat) (ct:Sq af) (dJ:Int) (ec:Nat):ae:=.arr 73 3 ((ax aX (lv aN cq ct dJ ec).1).1) (fun i=>bq ((ax aX (lv aN cq ct dJ ec).1).2 i))
abbrev Kr (ax:af) (aX:Sq ag):List C:=lift (aT ({ op:=ax.1,a:=ax.2,b:=ax.3,c:=ax.4,n:=ax.5,args:=ax.6,k:=ax.7,names:=ax.8,place:=ax.9,exit:=Int.ofNat aX.1,once:=ax.11 }))
theorem RY (L:LP) (QE:D→List ae→Prop) (sn:Sq af→af→Sq af) (sx:Sq ag→ag→Sq ag) (l:Sq Int) (p:Nat) (ins:Sq af) (aa:Sq ag) (fuel:Int) (param:Nat) (x:af) (h:(LC 21 dc [(aB l p),(dY ins aa fuel param),(bl ins),(bE aa),(cY x)] (ic aa) [(aB l ((lv l p ins fuel param).2)),(aL 0 2 ins.1 5 ((sx aa (lv l p ins fuel param).1).1) fuel (↑param:Int)),(bl ins),.dead,(cY x),(wO sx aa l p ins fuel param)]∧(LC 20 [(.c (.rt 1 0 0)),(.a (Kr x aa))] [(aB l ((lv l p ins fuel param).2)),(aL 0 2 ins.1 5 ((sx aa (lv l p ins fuel param).1).1) fuel (↑param:Int)),(bl ins),.dead,(.box (Kr x aa)),(wO sx aa l p ins fuel param)] (dy ins) [(aB l ((lv l p ins fuel param).2)),(aL 0 6 ((sn ins { op:=x.1,a:=x.2,b:=x.3,c:=x.4,n:=x.5,args:=x.6,k:=x.7,names:=x.8,place:=x.9,exit:=Int.ofNat aa.1,once:=x.11 }).1) 5 ((sx aa (lv l p ins fuel param).1).1) fuel (↑param:Int)),.dead,.dead,(.box (Kr x aa)),(wO sx aa l p ins fuel param),(.arr 40 14 ((sn ins { op:=x.1,a:=x.2,b:=x.3,c:=x.4,n:=x.5,args:=x.6,k:=x.7,names:=x.8,place:=x.9,exit:=Int.ofNat aa.1,once:=x.11 }).1) (fun i=>bn ((sn ins { op:=x.1,a:=x.2,b:=x.3,c:=x.4,n:=x.5,args:=x.6,k:=x.7,names:=x.8,place:=x.9,exit:=Int.ofNat aa.1,once:=x.11 }).2 i)))]∧QE (int x.2) [(aB l ((lv l p ins fuel param).2)),(aL 0 6 ((sn ins { op:=x.1,a:=x.2,b:=x.3,c:=x.4,n:=x.5,args:=x.6,k:=x.7,names:=x.8,place:=x.9,exit:=Int.ofNat aa.1,once:=x.11 }).1) 5 ((sx aa (lv l p ins fuel param).1).1) fuel (↑param:Int)),.dead,.dead,(.box (lift (aT ({ op:=x.1,a:=x.2,b:=x.3,c:=x.4,n:=x.5,args:=x.6,k:=x.7,names:=x.8,place:=x.9,exit:=Int.ofNat aa.1,once:=x.11 })))),(.arr 73 3 ((sx aa (lv l p ins fuel param).1).1) (fun i=>bq ((sx aa (lv l p ins fuel param).1).2 i))),(.arr 40 14 ((sn ins { op:=x.1,a:=x.2,b:=x.3,c:=x.4,n:=x.5,args:=x.6,k:=x.7,names:=x.8,place:=x.9,exit:=Int.ofNat aa.1,once:=x.11 }).1) (fun i=>bn ((sn ins { op:=x.1,a:=x.2,b:=x.3,c:=x.4,n:=x.5,args:=x.6,k:=x.7,names:=x.8,place:=x.9,exit:=Int.ofNat aa.1,once:=x.11 }).2 i)))]))):dh (Wv l sn sx) 34 Nu L QE 4 (zl sn sx l p ins aa fuel param x):=Eq.mp (by kernel_rfl) h
theorem Jd (l:Sq Int) (p:Nat) (ins:Sq af) (aa:Sq ag) (fuel:Int) (param:Nat) (p0:Nat) (hl:l.n≤maxLen) (hI:ins.n≤900) (hE:aa.n≤900) (hF:0≤fuel∧fuel≤1000) (hP:param≤1000) (x:af) (A:Int) (q:Nat) (hx:(A,q)=gf l p0 ins param) (Zr:x=rP A 0) (hq:p=q):ah 34 4 (gg [aB l p0,aL 0 2 ins.n 3 aa.n fuel param,bV ins,j8 aa] (int (ia l p0 ins param aa.n).a) [aB l (eW l p0 ins fuel param).2,aL 0 5 (bC ins (ia l p0 ins param aa.n)).n 4 (bT aa (eW l p0 ins fuel param).1).n fuel param,.dead,.dead,j8 (bT aa (eW l p0 ins fuel param).1),bV (bC ins (ia l p0 ins param aa.n))]) (aj 34 4) (zl bC bT l p ins aa fuel param x):=by
 subst hq
 subst Zr
 refine aH (X:=Wv l bC bT) (stop:=Nu) (RY _ _ bC bT l p ins aa fuel param (rP A 0) ⟨lY (m:=0) (q:=1) (i:=2) (j:=3) l _ ins aa hl (by omega) (by omega) hF hP rfl rfl rfl rfl rfl,eM (m:=0) (q:=1) (i:=2) (j:=5) ins (rP A aa.n) (by omega) (bp.refl _) rfl (aP rfl) rfl rfl (aP rfl),?_⟩)
 rw [show eW l p0 ins fuel param=lv l p ins fuel param from by unfold eW; rw [← hx],show ia l p0 ins param aa.n=rP A aa.n from by unfold ia; rw [← hx]]
 exact ⟨[0,1,2,3,5,6],int A,_,_,rfl,(rc (rc (rc (rc (rc (rc .nil)))))),⟨6,aP rfl,aP rfl,rfl,rfl,bp.refl _,⟨.inr rfl,⟨.inr rfl,⟨.inr rfl,⟨.inr rfl,⟨rfl,⟨rfl,trivial⟩⟩⟩⟩⟩⟩⟩⟩
theorem UR (l:Sq Int) (p:Nat) (ins:Sq af) (aa:Sq ag) (fuel:Int) (param:Nat) (hl:l.n≤maxLen) (hI:ins.n≤900) (hE:aa.n≤900) (hF:0≤fuel∧fuel≤1000) (hP:param≤1000):LC 34 [.c (.rt 1 0 0)] [aB l p,aL 0 2 ins.n 3 aa.n fuel param,bV ins,j8 aa] (int (gf l p ins param).1) [aB l (eW l p ins fuel param).2,aL 0 5 (bC ins (ia l p ins param aa.n)).n 4 (bT aa (eW l p ins fuel param).1).n fuel param,.dead,.dead,j8 (bT aa (eW l p ins fuel param).1),bV (bC ins (ia l p ins param aa.n))]:=by
 refine jC Xc (aP (by kernel_rfl)) (fp (X:=Wv l bC bT) (stop:=Nu) (XF _ _ bC bT l p ins aa fuel param ⟨fy l _ ins hl (by omega) rfl rfl rfl rfl (aP rfl),PY,ej l _ _ hl rfl,?_⟩))
 refine ay (fun h=>?_) (fun h=>?_)
 ·have e:gf l p ins param=nx l (nx l (vl l p ins).2 2).2 (param:Int):=by unfold gf; rw [show ((nx l (vl l p ins).2 2).1==0)=true from h]; rfl
  refine ⟨ej l _ _ hl rfl,ej l _ _ hl rfl,?_⟩
  exact ah.rename [0,1,2,3,4] rfl (ah.le (zl bC bT l (nx l (nx l (vl l p ins).2 2).2 (param:Int)).2 ins aa fuel param (rP (nx l (nx l (vl l p ins).2 2).2 (param:Int)).1 0)) (by repeat' (first|exact trivial|refine cR rfl ?_)) (rc (rc (rc (rc (.cons (cw.box (by repeat' (first|exact az.nil|refine az.cons ?_ ?_|exact eN.refl _|exact eN.nil _ _))) .nil))))) rfl (Jd l _ ins aa fuel param p hl hI hE hF hP _ _ _ e.symm rfl rfl))
 ·have e:gf l p ins param=((vl l p ins).1,(nx l (vl l p ins).2 2).2):=by unfold gf; rw [show ((nx l (vl l p ins).2 2).1==0)=false from h]; rfl
  exact ah.le (zl bC bT l (nx l (vl l p ins).2 2).2 ins aa fuel param (rP (vl l p ins).1 0)) (by repeat' (first|exact trivial|refine cR rfl ?_)) (rc (rc (rc (rc (.cons (cw.box (by repeat' (first|exact az.nil|refine az.cons ?_ ?_|exact eN.refl _|exact eN.nil _ _))) .nil))))) rfl (Jd l _ ins aa fuel param p hl hI hE hF hP _ _ _ e.symm rfl rfl)
theorem QF (l:Sq Int) (p:Nat) (ins:Sq af) (aa:Sq ag) (fuel:Int) (param:Nat) {m q i j:Nat} {RS:List ae} (hl:l.n≤maxLen) (hI:ins.n≤900) (hE:aa.n≤900) (hF:0≤fuel∧fuel≤1000) (hP:param≤1000) (hd:gI [m,q,i,j]=true) (h0:aY RS m=some (aB l p)) (h1:aY RS q=some (aL m i ins.n j aa.n fuel param)) (h2:aY RS i=some (bV ins)) (h3:aY RS j=some (j8 aa)) :
  LC 34 [.c (.rt q 0 0)] RS (int (gf l p ins param).1) (setAt (setAt (setAt (setAt RS m (aB l (eW l p ins fuel param).2)) q (aL m (RS.length+1) (bC ins (ia l p ins param aa.n)).n RS.length (bT aa (eW l p ins fuel param).1).n fuel param)) i .dead) j .dead++[j8 (bT aa (eW l p ins fuel param).1),bV (bC ins (ia l p ins param aa.n))]):=
 cl.zp (UR l p ins aa fuel param hl hI hE hF hP) [m,q,i,j] RS hd ⟨h0,eD h0,h1,eD h1,h2,eD h2,h3,eD h3,rfl⟩
end
end Go.Proofs.YtghfgcfabbbbbaaDoor
